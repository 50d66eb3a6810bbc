/- The texts W6g, W4t, M1, W4y, W4z, W5a, R1, R2, W6h, W6i, one behind the other: an executor over the translated code, contracts of functions, and their laws. -/

import Derived.Test.YtmnmhehddbemkaaTermC7
namespace Go.Proofs.Ytmnmhehddbemkaa
open Go Go.Eng
set_option maxRecDepth 100000
theorem sort_fn (l : List Tm) (hl : l.length ≤ 1000000) (h : ∀ t ∈ l, Sm t) : Gives Try.prog 50 [.lst 4 (rowsT l)] (.tl 4 (rowsT (rsortF l))) :=
  (sortT_fn l hl h).le (fun s hs => by
    obtain ⟨l', hp, hs, rfl⟩ := hs
    rw [cmp_rsort hs fun x => hp.mem_iff]
    exact SVle.refl _)
theorem gives_is {f : Nat} {args : List SV} {b c : Bool} (h : Gives Try.prog f args (.bl b)) (e : b = c) : Gives Try.prog f args (cond c .tt .ff) := by
  subst e
  exact h.le (by cases b <;> exact fun _ _ _ h => h) (by cases b <;> rfl)

abbrev aT : Tm := .mk 1 0 ⟨#[98]⟩ []
abbrev nT : Tm := .mk 2 0 .empty []
abbrev hT : Tm := .mk 3 0 .empty [nT]
abbrev zT : Tm := .mk 0 0 .empty []
theorem may_aT : mayF aT = true := by
  have e : seq aT.s .empty = false := by rw [seq_data]; rfl
  have e2 : rightF aT = true := by unfold rightF; rw [e]; rfl
  unfold mayF
  rw [mayT, e2]
  rfl
theorem may_zT : mayF zT = false := by
  have e2 : rightF zT = false := by unfold rightF; rfl
  unfold mayF
  rw [mayT, e2]
  rfl
theorem ord_an : ordT aT nT = -1 := by
  rw [ordT_lex]
  exact orI_ne (by decide)
theorem ord_na : ordT nT aT = 1 := by rw [ord_anti, ord_an]; rfl
theorem same_an : same aT nT = false := by
  cases h : same aT nT with
  | false => rfl
  | true => have := same_iff.1 h; cases this
theorem has_hn : hasT nT hT = true := by
  rw [hasT, hasL, hasT, same_iff.2 rfl]; simp
theorem rnon_hT : rnonT hT = [0] := by simp [rnonT, rnonL, insF]
theorem rsort_nan : rsortF [nT, aT, nT] = [aT, nT] := by
  have e1 : addF [] nT = [nT] := rfl
  have e2 : addF [nT] aT = [aT, nT] := by
    rw [addF, ord_na, if_neg (by decide)]
    rw [if_neg]
    rw [same_iff]
    intro h; cases h
  have e3 : addF [aT, nT] nT = [aT, nT] := by
    rw [addF, ord_an, if_pos (by decide), addF, ord_irr, if_neg (by decide), if_pos (same_iff.2 rfl)]
  show addF (addF (addF [] nT) aT) nT = _
  rw [e1, e2, e3]
theorem sm_leaf (k n : Int) (s : ByteArray) : Sm (.mk k n s []) := .mk (by simp) (by simp)
theorem sm_hT : Sm hT := .mk (by simp) (fun t ht => by rw [List.mem_singleton] at ht; subst ht; exact sm_leaf _ _ _)

theorem known37_fn : Gives Try.prog 37 [] .tt := by
  have k1 : Gives Try.prog 39 [aT.sv] .tt := gives_is (may_fn aT) may_aT
  have k2 : Gives Try.prog 39 [zT.sv] .ff := gives_is (may_fn zT) may_zT
  have k3 := size_fn hT sm_hT (by simp [szT, szL])
  have e3 : szT hT = 2 := by simp [szT, szL]
  rw [e3] at k3
  have k4 : Gives Try.prog 45 [hT.sv, hT.sv] .tt := gives_is (tsame_fn hT hT sm_hT) (same_iff.2 rfl)
  have k5 : Gives Try.prog 45 [aT.sv, nT.sv] .ff := gives_is (tsame_fn aT nT (sm_leaf _ _ _)) same_an
  have k6 : Gives Try.prog 47 [aT.sv, nT.sv] .tt := gives_is (c := true) (tless_fn aT nT (sm_leaf _ _ _)) (by rw [ord_an]; rfl)
  have k7 : Gives Try.prog 47 [nT.sv, aT.sv] .ff := gives_is (c := false) (tless_fn nT aT (sm_leaf _ _ _)) (by rw [ord_na]; rfl)
  have k8 : Gives Try.prog 49 [hT.sv, nT.sv] .tt := gives_is (has_fn hT nT sm_hT) has_hn
  have k9 := nonces_fn hT sm_hT (by simp [szT, szL])

  rw [rnon_hT] at k9
  have k10 := sort_fn [nT, aT, nT] (by simp) (by intro t ht; simp at ht; rcases ht with rfl | rfl | rfl <;> exact sm_leaf _ _ _)
  rw [rsort_nan] at k10
  have k11 : Gives Try.prog 50 [.tl 4 [tr nT, tr aT, tr nT]] (.tl 4 [tr aT, tr nT]) := by
    have := k10.weak (args' := [.tl 4 [tr nT, tr aT, tr nT]]) ⟨by rw [rowsT_cons, rowsT_cons, rowsT_cons, rowsT_nil]; exact SVle.tl _ _, trivial⟩
    rw [rowsT_cons, rowsT_cons, rowsT_nil] at this
    exact this
  refine contract_of ty_ok [0, 1, 2, 3, 4, 5, 6, 7] Try.func37 rfl (by decide) Try.ntmps37 rfl fun z => ?_
  refine run 400 rfl ?_
  have hnil : SVle (.tl 0 []) (up (.lst 4 (rowsT []))) := fun g H x h => by rw [rowsT_nil]; exact SVle.tl 4 [] g H x (SVle.nil 4 g H x h)
  refine at_gro (.tl 4 [tr nT]) (doesG_build ty_ok _ rfl ⟨⟨rfl, rfl, _, rfl, ⟨SVle.refl _, SVle.refl _, SVle.refl _, hnil, trivial⟩⟩, trivial⟩ rfl rfl (by decide)) ?_
  refine run 400 rfl ?_
  have hnT : SVle (.tl 4 [tr nT]) (.lst 4 (rowsT [nT])) := by rw [rowsT_cons, rowsT_nil]; exact SVle.tl _ _
  refine at_weakO [(2, own33 hT), (1, own33 nT), (0, own33 aT)] ⟨rfl, ⟨rfl, SVle.refl _, SVle.refl _, SVle.refl _, hnT, trivial⟩, rfl, ⟨rfl, SVle.refl _, SVle.refl _, SVle.refl _, hnil, trivial⟩, rfl, ⟨rfl, SVle.refl _, SVle.refl _, SVle.refl _, hnil, trivial⟩, trivial⟩ ?_
  refine at_less [(9, aT.sv), (1, .ptr 0 0), (2, .ptr 1 0), (3, .ptr 2 0)] [(2, own33 hT), (1, own33 nT), (0, own33 aT)] [3, 4, 5, 6, 7] ⟨SVle.agg ⟨SVle.refl _, SVle.refl _, SVle.refl _, hnil, trivial⟩, SVle.refl _, SVle.refl _, SVle.refl _, trivial⟩ ⟨rfl, rfl, rfl, trivial⟩ ?_
  refine at_fn k1 rfl ?_
  refine run 400 rfl ?_
  refine at_less [(11, .tt), (12, zT.sv), (1, .ptr 0 0), (2, .ptr 1 0), (3, .ptr 2 0)] [(2, own33 hT), (1, own33 nT), (0, own33 aT)] [3, 4, 5, 6, 7] ⟨SVle.refl _, SVle.agg ⟨SVle.refl _, SVle.refl _, SVle.refl _, hnil, trivial⟩, SVle.refl _, SVle.refl _, SVle.refl _, trivial⟩ ⟨rfl, rfl, rfl, trivial⟩ ?_
  refine at_fn k2 rfl ?_
  refine run 400 rfl ?_
  refine at_fn k3 rfl ?_
  refine run 400 rfl ?_
  refine at_true 21 rfl (by rfl) ?_
  refine run 400 rfl ?_
  refine at_fn k4 rfl ?_
  refine run 400 rfl ?_
  refine at_fn k5 rfl ?_
  refine run 400 rfl ?_
  refine at_fn k6 rfl ?_
  refine run 400 rfl ?_
  refine at_fn k7 rfl ?_
  refine run 400 rfl ?_
  refine at_fn k8 rfl ?_
  refine run 400 rfl ?_
  refine at_fn k9 rfl ?_
  refine run 400 rfl ?_
  refine at_true 54 rfl (by rfl) ?_
  refine run 400 rfl ?_
  refine at_gro (.tl 4 [tr nT, tr aT, tr nT]) (doesG_build ty_ok _ rfl ⟨⟨rfl, rfl, _, rfl, SVles.refl _⟩, ⟨rfl, rfl, _, rfl, SVles.refl _⟩, ⟨rfl, rfl, _, rfl, SVles.refl _⟩, trivial⟩ rfl rfl (by decide)) ?_
  refine run 400 rfl ?_
  refine at_fn k11 rfl ?_
  refine run 400 rfl ?_
  refine at_true 0 rfl (by rfl) ?_
  exact at_ret rfl rfl [] ⟨rfl, rfl, rfl⟩ trivial
end Go.Proofs.Ytmnmhehddbemkaa
namespace Go.Proofs.Ytmnmhehddbemkaa
open Go Go.Eng

abbrev xs : ByteArray := ⟨#[120]⟩
abbrev mx : Mv := ⟨2, 0, 0, xs⟩
abbrev ax : Tm := .mk 1 0 xs []
theorem right_ax : rightF ax = true := by
  have e : seq ax.s .empty = false := by rw [seq_data]; rfl
  unfold rightF
  rw [e]
  rfl
theorem runG_atoms (tl : List Mv) : ∀ (k : Nat) (acc : List Tm), runG [] (List.replicate k mx ++ tl) acc = runG [] tl (acc ++ List.replicate k ax)
  | 0, acc => by simp
  | k + 1, acc => by
    have d1 : doesF [] acc (.atom xs) = (ax, true) := by
      show (ax, mayF ax) = _
      have : mayF ax = true := by
        unfold mayF
        rw [mayT, right_ax]
        rfl
      rw [this]
    rw [List.replicate_succ, List.cons_append, runG]
    show (match doesF [] acc (.atom xs) with | (t, true) => runG [] (List.replicate k mx ++ tl) (acc ++ [t]) | (_, false) => ([], 3)) = _
    rw [d1]
    show runG [] (List.replicate k mx ++ tl) (acc ++ [ax]) = _
    rw [runG_atoms tl k (acc ++ [ax]), List.replicate_succ]
    simp
theorem run_e (k : Nat) : (runF [] (List.replicate k mx)).2 = if 1024 < k then 7 else 0 := by
  unfold runF
  rw [List.length_replicate]
  split
  · rfl
  · have := runG_atoms [] k []
    rw [List.append_nil] at this
    rw [this]
    rfl
theorem run_g (k : Nat) : (runF [] (List.replicate k mx ++ [Mv.zero])).2 = if 1024 < k + 1 then 7 else 2 := by
  unfold runF
  rw [List.length_append, List.length_replicate, List.length_singleton]
  split
  · rfl
  · rw [runG_atoms]
    rfl

/-- Hashes, so many, of an atom. -/
def tow : Nat → Tm
  | 0 => ax
  | j + 1 => .mk 3 0 .empty [tow j]
def tows (n : Nat) : List Tm := (List.range n).map tow
abbrev hm (i : Nat) : Mv := ⟨6, i, 0, .empty⟩
theorem right_h (t : Tm) : rightF (.mk 3 0 .empty [t]) = true := by
  have e : seq (Tm.mk 3 0 .empty [t]).s .empty = true := seq_self _
  unfold rightF
  rw [e]
  rfl
theorem may_tow : ∀ (j : Nat) (d c : Int), 0 ≤ c → c + j + 1 ≤ 64 → (mayT (tow j) d c).1 = decide (d + j ≤ 16)
  | 0, d, c, h0, h1 => by
    show (mayT ax d c).1 = _
    rw [mayT, right_ax, if_neg (by omega)]
    by_cases h : 16 < d
    · rw [if_pos h]
      exact (decide_eq_false (by omega)).symm
    · rw [if_neg h, if_neg (by simp), mayL]
      exact (decide_eq_true (by omega)).symm
  | j + 1, d, c, h0, h1 => by
    rw [tow, mayT, right_h, if_neg (by omega)]
    by_cases h : 16 < d
    · rw [if_pos h]
      exact (decide_eq_false (by omega)).symm
    · rw [if_neg h, if_neg (by simp)]
      have ih := may_tow j (d + 1) (c + 1) (by omega) (by omega)
      rw [mayL]
      rcases hm : mayT (tow j) (d + 1) (c + 1) with ⟨b, c'⟩
      rw [hm] at ih
      dsimp only at ih
      have e : decide (d + ((j + 1 : Nat) : Int) ≤ 16) = b := by
        rw [ih]
        exact decide_eq_decide.2 (by omega)
      rw [e]
      cases b <;> simp [mayL]
theorem runG_hash : ∀ (r i : Nat), i + 1 ≤ 16 → i + r ≤ 40 → (runG [] ((List.range' i r).map hm) (tows (i + 1))).2 = if i + r + 1 ≤ 16 then 0 else 3
  | 0, i, h, _ => by
    rw [if_pos (by omega)]
    rfl
  | r + 1, i, h, h40 => by
    have hlen : (tows (i + 1)).length = i + 1 := by simp [tows]
    have hget : (tows (i + 1)).getD (i : Int).toNat .zero = tow i := by
      rw [List.getD_eq_getElem?_getD]
      simp [tows]
    have hn : nearF (.one 3 i) (tows (i + 1)).length ([] : List Tm).length = true := by
      rw [hlen]
      simp [nearF, inF]
      omega
    have hd : doesF [] (tows (i + 1)) (.one 3 i) = (tow (i + 1), mayF (tow (i + 1))) := by
      simp only [doesF, stepT, hget]
      rfl
    have hr : readF (hm i) = some (.one 3 i) := rfl
    have hmay : mayF (tow (i + 1)) = decide (i + 2 ≤ 16) := by
      unfold mayF
      rw [may_tow (i + 1) 1 0 (by omega) (by omega)]
      exact decide_eq_decide.2 (by omega)
    rw [List.range'_succ, List.map_cons, runG, hr]
    dsimp only
    rw [if_pos hn, hd, hmay]
    by_cases h2 : i + 2 ≤ 16
    · rw [decide_eq_true h2]
      have e : tows (i + 1) ++ [tow (i + 1)] = tows (i + 1 + 1) := by
        unfold tows
        rw [List.range_succ (n := i + 1), List.map_append]
        rfl
      show (runG [] _ (tows (i + 1) ++ [tow (i + 1)])).2 = _
      rw [e, runG_hash r (i + 1) h2 (by omega)]
      by_cases h3 : i + (r + 1) + 1 ≤ 16
      · rw [if_pos h3, if_pos (by omega)]
      · rw [if_neg h3, if_neg (by omega)]
    · rw [decide_eq_false h2, if_neg (by omega)]
theorem run_f (d : Nat) (hd : d ≤ 40) : (runF [] (mx :: (List.range d).map hm)).2 = if d + 1 ≤ 16 then 0 else 3 := by
  unfold runF
  rw [if_neg (by simp; omega)]
  have := runG_atoms ((List.range d).map hm) 1 []
  have e1 : List.replicate 1 mx ++ (List.range d).map hm = mx :: (List.range d).map hm := rfl
  rw [e1] at this
  rw [this]
  have h2 := runG_hash d 0 (by omega) (by omega)
  have e2 : ([] : List Tm) ++ List.replicate 1 ax = tows (0 + 1) := rfl
  rw [e2, List.range_eq_range', h2, Nat.zero_add]

/-! A list of moves, filled. -/
theorem flatM_len (l : List Mv) : (flatU (rowsM l)).length = l.length * 4 := by
  unfold flatU
  induction l with
  | nil => rfl
  | cons m l ih =>
    show ((mr m ++ (rowsM l).flatten).map up).length = _
    rw [List.map_append, List.length_append, ih, List.length_cons]
    show 4 + _ = _
    omega
abbrev halfM (n i : Nat) : List SV := flatU (rowsM (List.replicate i mx)) ++ List.replicate ((n - i) * 4) .any
theorem halfM_step {n i : Nat} (h : i < n) : splice [I 2, I 0, I 0, .str xs] (i * 4) (halfM n i) = halfM n (i + 1) := by
  have hlen : (flatU (rowsM (List.replicate i mx))).length = i * 4 := by rw [flatM_len, List.length_replicate]
  unfold halfM
  rw [← hlen, show (n - i) * 4 = (n - (i + 1)) * 4 + [I 2, I 0, I 0, SV.str xs].length from by show _ = _ + 4; omega, splice_fill, List.replicate_succ']
  unfold flatU
  simp only [rowsM, List.map_append, List.flatten_append]
  rfl

set_option maxRecDepth 100000 in
theorem proofMany_fn (n : Int) : Gives Try.prog 4 [I n] .tt := by
  refine Gives.le (a := .bl true) ?_ (SVle.tt rfl)
  obtain ⟨k, hk, hk2⟩ : ∃ k : Nat, (k : Int) = 1021 + n % 6 ∧ k ≤ 1026 := ⟨(1021 + n % 6).toNat, by omega, by omega⟩
  obtain ⟨d, hd, hd2⟩ : ∃ d : Nat, (d : Int) = 12 + n % 8 ∧ d ≤ 19 := ⟨(12 + n % 8).toNat, by omega, by omega⟩
  refine contract_of ty_ok [0, 1, 2, 3, 4, 7] Try.func4 rfl (by decide) Try.ntmps4 rfl fun z => ?_
  refine run 400 rfl ?_
  refine at_fn known16_fn rfl ?_
  refine run 400 rfl ?_
  refine at_fn (within21 n 6 (by omega)) rfl ?_
  refine run 400 rfl ?_
  rw [← hk]
  refine at_make 5 4 ty_ok rfl rfl rfl (by omega) (show ((40 : Nat) : Int) * (k : Int) ≤ 281474976710656 by omega) (by omega) ?_
  refine run 400 rfl ?_
  refine at_loop (fun i : Nat => i ≤ k) (fun i => [(0, I n), (3, I k), (4, .arr 5 k), (5, I i)]) (fun i => [(5, .cells 37 (halfM k i))]) (fun i => k - i) [0, 1, 2, 3, 4, 7]
    0 (by omega) ⟨SVle.refl _, SVle.refl _, SVle.refl _, SVle.refl _, trivial⟩ ⟨rfl, trivial⟩ ?_
  intro i hi
  refine run 400 rfl ?_
  refine at_ifd rfl (fun g => ?_) (fun g => ?_)
  · refine run 400 rfl ?_
    refine at_val (.ptr 5 ((i : Int).toNat * 4)) (does_indexArr ty_ok rfl rfl rfl ⟨by omega, by omega⟩ rfl) ?_
    refine at_store ty_ok (halfM k (i + 1)) rfl rfl rfl rfl rfl rfl (by unfold halfM; rw [List.length_append, flatM_len, List.length_replicate, List.length_replicate]; show i * 4 + 4 ≤ _; omega) (halfM_step (by omega)) rfl ?_
    refine run 400 rfl ?_
    exact at_again (i + 1) (by omega) (by omega) ⟨SVle.refl _, SVle.refl _, SVle.refl _, SVle.of_eq (by show I ((i : Int) + 1) = I ((i + 1 : Nat) : Int); rw [Int.natCast_add]; rfl), trivial⟩ ⟨rfl, trivial⟩
  have e : i = k := by omega
  subst e
  have hrl : (rowsM (List.replicate i mx)).length = i := by simp
  refine at_publish 5 4 (rowsM (List.replicate i mx)) (by show some (SO.cells 37 (halfM i i)) = _; unfold halfM; rw [Nat.sub_self, Nat.zero_mul, List.replicate_zero, List.append_nil]) (fun r hr => by obtain ⟨t, _, rfl⟩ := List.mem_map.1 hr; rfl) (own2 := []) (fun j o h => by simp [ownq] at h) (by repeat' (first | exact trivial | refine ⟨show (bif Nat.beq 5 5 then i = _ else True) by rw [hrl]; rfl, ?_⟩ | refine ⟨trivial, ?_⟩)) ?_
  refine run 400 rfl ?_
  have hR1 := run_fn [] (List.replicate i mx) (by simp)
  have he := run_e i
  generalize runF [] (List.replicate i mx) = R1 at hR1 he
  refine at_fn (hR1.weak (args' := [.tl 0 [], .tl 4 (rowsM (List.replicate i mx))]) ⟨SVle.nils, SVle.tl _ _, trivial⟩) rfl ?_
  refine run 400 rfl ?_
  refine at_fn (within21 n 8 (by omega)) rfl ?_
  refine run 400 rfl ?_
  rw [← hd]
  refine at_gro (.tl 4 [mr mx]) (doesG_build ty_ok _ rfl ⟨⟨rfl, rfl, _, rfl, SVles.refl _⟩, trivial⟩ rfl rfl (by decide)) ?_
  refine run 400 rfl ?_
  refine at_name 9 6 4 rfl (.inl rfl) ?_
  refine run 400 rfl ?_
  refine at_loop (fun j : Nat => j ≤ d) (fun j => [(3, I i), (4, .tl 4 (rowsM (List.replicate i mx))), (7, I R1.2), (8, I d), (9, .gl 6 4 (rowsM (mx :: (List.range j).map hm))), (10, I j)]) (fun _ => [(6, .tok 4)]) (fun j => d - j) [0, 1, 2, 3, 4, 5, 7]
    0 (by omega) ⟨SVle.refl _, SVle.refl _, SVle.refl _, SVle.refl _, SVle.refl _, SVle.refl _, trivial⟩ ⟨rfl, trivial⟩ ?_
  intro j hj
  refine run 400 rfl ?_
  refine at_ifd rfl (fun g => ?_) (fun g => ?_)
  · refine run 400 rfl ?_
    refine at_gro (.tl 4 [mr (hm j)]) (doesG_build ty_ok _ rfl ⟨⟨rfl, rfl, _, rfl, SVles.refl _⟩, trivial⟩ rfl rfl (by decide)) ?_
    refine run 400 rfl ?_
    refine at_grow 6 6 4 (rowsM (mx :: (List.range j).map hm) ++ [mr (hm j)]) rfl (doesU_append ty_ok rfl rfl rfl rfl rfl rfl rfl (by simp; omega) (by show _ * 40 ≤ _; simp; omega)) rfl ?_
    refine run 400 rfl ?_
    refine at_again (j + 1) (by omega) (by omega) ⟨SVle.refl _, SVle.refl _, SVle.refl _, SVle.refl _, SVle.of_eq ?_, SVle.of_eq (by show I ((j : Int) + 1) = I ((j + 1 : Nat) : Int); rw [Int.natCast_add]; rfl), trivial⟩ ⟨rfl, trivial⟩
    show SV.gl 6 4 (rowsM (mx :: (List.range j).map hm) ++ [mr (hm j)]) = SV.gl 6 4 (rowsM (mx :: (List.range (j + 1)).map hm))
    rw [List.range_succ]
    simp
  have e : j = d := by omega
  subst e
  refine run 400 rfl ?_
  have hR2 := run_fn [] (mx :: (List.range j).map hm) (by simp)
  have hf := run_f j (by omega)
  generalize runF [] (mx :: (List.range j).map hm) = R2 at hR2 hf
  refine at_deg 6 ?_
  refine run 400 rfl ?_
  refine at_fn (hR2.weak (args' := [.tl 0 [], .lst 4 (rowsM (mx :: (List.range j).map hm))]) ⟨SVle.nils, SVle.refl _, trivial⟩) rfl ?_
  refine run 400 rfl ?_
  refine at_gro (.tl 4 [mr Mv.zero]) (doesG_build ty_ok _ rfl ⟨⟨rfl, rfl, _, rfl, SVles.refl _⟩, trivial⟩ rfl rfl (by decide)) ?_
  refine run 400 rfl ?_
  refine at_new 5 4 (rowsM (List.replicate i mx) ++ [mr Mv.zero]) (doesT_append ty_ok rfl rfl rfl rfl rfl rfl rfl (by simp; omega) (by show _ * 40 ≤ _; simp; omega)) ?_
  refine run 400 rfl ?_
  refine at_deg 5 ?_
  refine run 400 rfl ?_
  have hR3 := run_fn [] (List.replicate i mx ++ [Mv.zero]) (by simp)
  have hg := run_g i
  generalize runF [] (List.replicate i mx ++ [Mv.zero]) = R3 at hR3 hg
  refine at_fn (hR3.weak (args' := [.tl 0 [], .lst 4 (rowsM (List.replicate i mx) ++ [mr Mv.zero])]) ⟨SVle.nils, SVle.of_eq (by simp), trivial⟩) rfl ?_
  refine run 400 rfl ?_
  refine at_true 69 rfl (by rw [he]; by_cases h : 1024 < i <;> simp [h] <;> omega) ?_
  refine run 400 rfl ?_
  by_cases h1 : 1024 < i
  · rw [if_pos h1] at he
    refine at_false 72 rfl (by rw [he]; rfl) ?_
    refine run 400 rfl ?_
    refine at_true 77 rfl (by rw [he]; rfl) ?_
    refine run 400 rfl ?_
    refine at_true 85 rfl (by rw [hf]; by_cases h : j + 1 ≤ 16 <;> simp [h] <;> omega) ?_
    refine run 400 rfl ?_
    by_cases h2 : j + 1 ≤ 16
    · rw [if_pos h2] at hf
      refine at_true 88 rfl (by rw [hf]; rfl) ?_
      refine run 400 rfl ?_
      refine at_ret rfl rfl [] ⟨?_, rfl, rfl⟩ trivial
      show SV.bl (decide (R3.2 = 7) == decide ((i : Int) + 1 > 1024)) = .bl true
      rw [hg]
      by_cases h : 1024 < i + 1 <;> simp [h] <;> omega
    · rw [if_neg h2] at hf
      refine at_false 88 rfl (by rw [hf]; rfl) ?_
      refine run 400 rfl ?_
      refine at_true 93 rfl (by rw [hf]; rfl) ?_
      refine run 400 rfl ?_
      refine at_ret rfl rfl [] ⟨?_, rfl, rfl⟩ trivial
      show SV.bl (decide (R3.2 = 7) == decide ((i : Int) + 1 > 1024)) = .bl true
      rw [hg]
      by_cases h : 1024 < i + 1 <;> simp [h] <;> omega
  · rw [if_neg h1] at he
    refine at_true 72 rfl (by rw [he]; rfl) ?_
    refine run 400 rfl ?_
    refine at_true 85 rfl (by rw [hf]; by_cases h : j + 1 ≤ 16 <;> simp [h] <;> omega) ?_
    refine run 400 rfl ?_
    by_cases h2 : j + 1 ≤ 16
    · rw [if_pos h2] at hf
      refine at_true 88 rfl (by rw [hf]; rfl) ?_
      refine run 400 rfl ?_
      refine at_ret rfl rfl [] ⟨?_, rfl, rfl⟩ trivial
      show SV.bl (decide (R3.2 = 7) == decide ((i : Int) + 1 > 1024)) = .bl true
      rw [hg]
      by_cases h : 1024 < i + 1 <;> simp [h] <;> omega
    · rw [if_neg h2] at hf
      refine at_false 88 rfl (by rw [hf]; rfl) ?_
      refine run 400 rfl ?_
      refine at_true 93 rfl (by rw [hf]; rfl) ?_
      refine run 400 rfl ?_
      refine at_ret rfl rfl [] ⟨?_, rfl, rfl⟩ trivial
      show SV.bl (decide (R3.2 = 7) == decide ((i : Int) + 1 > 1024)) = .bl true
      rw [hg]
      by_cases h : 1024 < i + 1 <;> simp [h] <;> omega
end Go.Proofs.Ytmnmhehddbemkaa
namespace Go.Proofs.Ytmnmhehddbemkaa
open Go Go.Eng

mutual
/-- Each node by itself is right. -/
def allR : Tm → Bool
  | .mk k n s l => rightF (.mk k n s l) && allRL l
def allRL : List Tm → Bool
  | [] => true
  | t :: l => allR t && allRL l
end
mutual
def dpT : Tm → Nat
  | .mk _ _ _ l => dpL l + 1
def dpL : List Tm → Nat
  | [] => 0
  | t :: l => max (dpT t) (dpL l)
end
mutual
theorem may_yes : ∀ (t : Tm) (d c : Int), allR t = true → c + szT t ≤ 64 → d + dpT t ≤ 17 → mayT t d c = (true, c + szT t)
  | .mk k n s l, d, c, h, h1, h2 => by
    rw [allR, Bool.and_eq_true] at h
    rw [szT] at h1 ⊢
    rw [dpT] at h2
    rw [mayT, h.1, if_neg (by omega), if_neg (by omega), if_neg (by decide), may_yesL l (d + 1) (c + 1) h.2 (by omega) (by omega)]
    congr 1
    omega
theorem may_yesL : ∀ (l : List Tm) (d c : Int), allRL l = true → c + szL l ≤ 64 → d + dpL l ≤ 17 → mayL l d c = (true, c + szL l)
  | [], d, c, _, _, _ => by simp [mayL, szL]
  | t :: l, d, c, h, h1, h2 => by
    rw [allRL, Bool.and_eq_true] at h
    rw [szL] at h1 ⊢
    rw [dpL] at h2
    rw [mayL, may_yes t d c h.1 (by omega) (by omega)]
    show mayL l d (c + szT t) = _
    rw [may_yesL l d _ h.2 (by omega) (by omega)]
    congr 1
    omega
end
mutual
theorem may_of : ∀ (t : Tm) (d c : Int), (mayT t d c).1 = true → allR t = true ∧ c + szT t ≤ 64 ∧ d + dpT t ≤ 17 ∧ (mayT t d c).2 = c + szT t
  | .mk k n s l, d, c, h => by
    rw [mayT] at h ⊢
    rw [szT, dpT, allR]
    split at h
    · cases h
    split at h
    · cases h
    split at h
    · cases h
    rename_i q1 q2 q3
    rw [if_neg q1, if_neg q2, if_neg q3]
    obtain ⟨a1, a2, a3, a4⟩ := may_ofL l (d + 1) (c + 1) h (by omega) (by omega)
    have q3 : rightF (.mk k n s l) = true := by simpa using q3
    refine ⟨by rw [q3, a1]; rfl, by omega, by omega, by omega⟩
theorem may_ofL : ∀ (l : List Tm) (d c : Int), (mayL l d c).1 = true → c ≤ 64 → d ≤ 17 → allRL l = true ∧ c + szL l ≤ 64 ∧ d + dpL l ≤ 17 ∧ (mayL l d c).2 = c + szL l
  | [], d, c, h, h1, h2 => by simp [mayL, szL, dpL, allRL]; omega
  | t :: l, d, c, h, h1, h2 => by
    rw [mayL] at h ⊢
    rw [szL, dpL, allRL]
    rcases e : mayT t d c with ⟨b, c'⟩
    rw [e] at h
    cases b with
    | false => cases h
    | true =>
      have h : (mayL l d c').1 = true := h
      obtain ⟨b1, b2, b3, b4⟩ := may_of t d c (by rw [e])
      rw [e] at b4
      have b4 : c' = c + szT t := b4
      subst b4
      obtain ⟨a1, a2, a3, a4⟩ := may_ofL l d _ h (by omega) h2
      refine ⟨by rw [b1, a1]; rfl, by omega, by omega, ?_⟩
      show (mayL l d (c + szT t)).2 = _
      rw [a4]; omega
end
theorem mayF_iff (t : Tm) : mayF t = (allR t && decide (szT t ≤ 64 ∧ dpT t ≤ 16)) := by
  cases h : mayF t with
  | true =>
    obtain ⟨a1, a2, a3, _⟩ := may_of t 1 0 h
    rw [a1, decide_eq_true (by omega)]
    rfl
  | false =>
    cases h2 : allR t with
    | false => rfl
    | true =>
      rw [Bool.true_and]
      symm
      apply decide_eq_false
      intro h3
      have := may_yes t 1 0 h2 (by omega) (by omega)
      rw [mayF, this] at h
      cases h

theorem right_leafA (ns : List Int) (j : Int) : rightF (leafA ns j).1 = true := by
  have hx : ∀ b ∈ words, (b.size : Int) ≤ 1024 := by
    intro b hb
    simp only [words, List.mem_cons, List.not_mem_nil, or_false] at hb
    rcases hb with rfl | rfl | rfl | rfl | rfl | rfl | rfl | rfl | rfl <;> decide
  have hp : ((pickF ns j words).1.size : Int) ≤ 1024 := by
    unfold pickF
    rw [List.getD_eq_getElem?_getD]
    cases h : words[(nextF ns j words.length).1.toNat]? with
    | none => simp
    | some b => exact hx b (List.mem_of_getElem? h)
  unfold leafA rightF
  simp [kidsF, Tm.k, Tm.n, Tm.s, Tm.kids]
  exact .inr hp
theorem right_leafN (ns : List Int) (j : Int) : rightF (leafN ns j).1 = true := by
  have hx : ∀ n ∈ nums, n = 0 ∨ 0 < n ∧ n ≤ 1073741824 := by decide
  have hp : (nums.getD (nextF ns j 8).1.toNat 0) = 0 ∨ 0 < (nums.getD (nextF ns j 8).1.toNat 0) ∧ (nums.getD (nextF ns j 8).1.toNat 0) ≤ 1073741824 := by
    rw [List.getD_eq_getElem?_getD]
    cases h : nums[(nextF ns j 8).1.toNat]? with
    | none => simp
    | some b => exact hx b (List.mem_of_getElem? h)
  have e : seq ByteArray.empty .empty = true := seq_self _
  unfold leafN rightF
  simp [kidsF, Tm.k, Tm.n, Tm.s, Tm.kids, e]
  rcases hp with h | ⟨h1, h2⟩
  · exact .inl h
  · exact .inr ⟨h1, h2⟩
theorem right_k1 (k : Int) (t : Tm) (hk : k = 3 ∨ k = 4) : rightF (.mk k 0 .empty [t]) = true := by
  have e : seq ByteArray.empty .empty = true := seq_self _
  unfold rightF
  rcases hk with rfl | rfl <;> simp [kidsF, Tm.k, Tm.n, Tm.s, Tm.kids, e]
theorem right_k2 (k : Int) (t u : Tm) (hk : k = 5 ∨ k = 6 ∨ k = 7) : rightF (.mk k 0 .empty [t, u]) = true := by
  have e : seq ByteArray.empty .empty = true := seq_self _
  unfold rightF
  rcases hk with rfl | rfl | rfl <;> simp [kidsF, Tm.k, Tm.n, Tm.s, Tm.kids, e]
theorem genT_may (ns : List Int) : ∀ (d : Nat) (j : Int), 0 ≤ j ∧ j ≤ ns.length → allR (genT ns d j).1 = true ∧ dpT (genT ns d j).1 ≤ d + 1 := by
  have hA : ∀ j : Int, allR (leafA ns j).1 = true ∧ dpT (leafA ns j).1 = 1 := fun j => ⟨by
    have := right_leafA ns j
    unfold leafA at this ⊢
    simp only [allR, allRL, this]
    rfl, by simp [leafA, dpT, dpL]⟩
  have hN : ∀ j : Int, allR (leafN ns j).1 = true ∧ dpT (leafN ns j).1 = 1 := fun j => ⟨by
    have := right_leafN ns j
    unfold leafN at this ⊢
    simp only [allR, allRL, this]
    rfl, by simp [leafN, dpT, dpL]⟩
  intro d
  induction d with
  | zero =>
    intro j h
    simp only [genT]
    split
    · exact ⟨(hA _).1, by rw [(hA _).2]; decide⟩
    · exact ⟨(hN _).1, by rw [(hN _).2]; decide⟩
  | succ d ih =>
    intro j h
    have hx := nextF_le (l := ns) (j := j) (n := 10) h
    simp only [genT]
    split
    · exact ⟨(hA _).1, by rw [(hA _).2]; omega⟩
    · split
      · exact ⟨(hN _).1, by rw [(hN _).2]; omega⟩
      · obtain ⟨u1, u2⟩ := ih _ hx.2.2
        have hu3 := genT_le ns d _ hx.2.2
        split
        · refine ⟨?_, by simp only [dpT, dpL]; omega⟩
          simp only [allR, allRL, u1]
          rw [right_k1 _ _ (by omega)]
          rfl
        · obtain ⟨v1, v2⟩ := ih _ hu3
          refine ⟨?_, by simp only [dpT, dpL]; omega⟩
          simp only [allR, allRL, u1, v1]
          rw [right_k2 _ _ _ (by omega)]
          rfl
theorem gen4_may (ns : List Int) : mayF (genT ns 4 0).1 = true := by
  obtain ⟨h1, h2⟩ := genT_may ns 4 0 (by omega)
  have h3 := (genT_gd ns 4 0 (by omega)).2
  rw [mayF_iff, h1, decide_eq_true (by omega)]
  rfl
end Go.Proofs.Ytmnmhehddbemkaa
namespace Go.Proofs.Ytmnmhehddbemkaa
open Go Go.Eng

abbrev rsO (L out : List Tm) (c r : Nat) : List (Nat × SO) := [(0, .cells 73 [.lst 4 (rowsT L), .sl 1 0 out.length c]), (1, .buf (rowsT out) r)]
abbrev zSV : SV := .agg [I 0, I 0, .str .empty, .tl 0 []]
theorem at_no_fn (L out : List Tm) (c r : Nat) (n : Int) (h : inF n out.length = false) : Contract Try.prog 86 2 (rsO L out c r) [.ptr 0 0, I n] fun s post => s = .tup [zSV, .ff] ∧ post = rsO L out c r := by
  refine contract_of ty_ok [3, 4, 5, 6, 7] Try.func86 rfl (by decide) Try.ntmps86 rfl fun z => ?_
  refine run 400 rfl ?_
  refine at_split 8 rfl (fun q => ?_) (fun q => ?_)
  · refine run 400 rfl ?_
    exact at_ret rfl rfl (rsO L out c r) ⟨rfl, rfl⟩ ⟨rfl, rfl, trivial⟩
  · refine run 400 rfl ?_
    refine at_ifd rfl (fun q2 => ?_) (fun q2 => ?_)
    · refine run 400 rfl ?_
      exact at_ret rfl rfl (rsO L out c r) ⟨rfl, rfl⟩ ⟨rfl, rfl, trivial⟩
    · exfalso
      simp [inF] at h q
      omega
theorem at_yes_fn (L out : List Tm) (c r : Nat) (n : Int) (h : inF n out.length = true) : Contract Try.prog 86 2 (rsO L out c r) [.ptr 0 0, I n] fun s post => s = .tup [(out.getD n.toNat .zero).sv, .tt] ∧ post = rsO L out c r := by
  have hn := inF_lt h
  have hget := rowsT_get (l := out) (n := n.toNat) (by omega)
  generalize out.getD n.toNat .zero = u at hget
  refine contract_of ty_ok [3, 4, 5, 6, 7] Try.func86 rfl (by decide) Try.ntmps86 rfl fun z => ?_
  refine run 400 rfl ?_
  refine at_false 8 rfl (by simp; omega) ?_
  refine run 400 rfl ?_
  refine at_ifd rfl (fun q2 => ?_) (fun q2 => ?_)
  · omega
  · refine run 400 rfl ?_
    refine at_val (.ptr 1 (0 + n.toNat * 4)) (does_indexS ty_ok rfl rfl rfl hn rfl) ?_
    refine at_val u.sv (does_loadB ty_ok rfl rfl rfl rfl rfl (Nat.zero_add _) rowsT_sz hget) ?_
    refine run 400 rfl ?_
    exact at_ret rfl rfl (rsO L out c r) ⟨rfl, rfl⟩ ⟨rfl, rfl, trivial⟩

/-- One move, by the document, ahead of the question whether the result may be. -/
def oneF (l res : List Tm) (m : Mv) : Option Tm × Int :=
  match readF m with
  | none => (none, 2)
  | some s => if nearF s res.length l.length then (match stepT l res s with
    | some t => (some t, 0)
    | none => (none, 3)) else (none, 8)
abbrev oneS (r : Option Tm × Int) : SV := match r with
  | (some t, e) => .tup [t.sv, I e]
  | (none, e) => .tup [zSV, I e]
end Go.Proofs.Ytmnmhehddbemkaa
namespace Go.Proofs.Ytmnmhehddbemkaa
open Go Go.Eng
set_option maxRecDepth 100000

theorem one_bad (l res : List Tm) (c r : Nat) (m : Mv) (h : m.k < 1 ∨ 10 < m.k) : Contract Try.prog 60 2 (rsO l res c r) [.ptr 0 0, m.sv] fun s post => s = .tup [zSV, I 2] ∧ post = rsO l res c r := by
  refine contract_of ty_ok [3, 4, 5, 6, 7] Try.func60 rfl (by decide) Try.ntmps60 rfl fun z => ?_
  refine run 400 rfl ?_
  refine at_split 15 rfl (fun q => ?_) (fun q => ?_)
  · refine run 400 rfl ?_
    exact at_ret rfl rfl (rsO l res c r) ⟨rfl, rfl⟩ ⟨rfl, rfl, trivial⟩
  · refine run 400 rfl ?_
    refine at_ifd rfl (fun q2 => ?_) (fun q2 => ?_)
    · refine run 400 rfl ?_
      exact at_ret rfl rfl (rsO l res c r) ⟨rfl, rfl⟩ ⟨rfl, rfl, trivial⟩
    · exfalso
      simp at q
      omega
theorem one_known (l res : List Tm) (c r : Nat) (m : Mv) (hk : m.k = 1) (h : inF m.a l.length = true) : Contract Try.prog 60 2 (rsO l res c r) [.ptr 0 0, m.sv] fun s post => s = .tup [(l.getD m.a.toNat .zero).sv, I 0] ∧ post = rsO l res c r := by
  have hl := rowsT_len l
  have hn := inF_lt h
  have hget := rowsT_get (l := l) (n := m.a.toNat) (by omega)
  generalize l.getD m.a.toNat .zero = u at hget
  refine contract_of ty_ok [3, 4, 5, 6, 7] Try.func60 rfl (by decide) Try.ntmps60 rfl fun z => ?_
  refine run 400 rfl ?_
  refine at_false 15 rfl (by rw [hk]; rfl) ?_
  refine run 400 rfl ?_
  refine at_ifd rfl (fun q2 => by omega) (fun _ => ?_)
  refine run 400 rfl ?_
  refine at_drawn 19 rfl rfl [(2, .yes), (6, .no)] [20, 21, 22] rfl ⟨by simp; omega, by rw [hk]; rfl⟩ ?_
  refine run 400 rfl ?_
  refine at_ifd rfl (fun q2 => by omega) (fun _ => ?_)
  refine run 400 rfl ?_
  refine at_if rfl (fun _ => ?_) (fun q2 => by rw [hk] at q2; cases q2)
  refine run 400 rfl ?_
  refine at_drawn 8 rfl rfl [(6, .val (.rp (tr u) 0))] [20, 21, 22] rfl (by exact does_index ty_ok _ rfl rfl rfl (by omega) (show (rowsT l)[m.a.toNat]? = some (tr u) from hget) rfl) ?_
  refine run 400 rfl ?_
  exact at_ret rfl rfl (rsO l res c r) ⟨rfl, rfl⟩ ⟨rfl, rfl, trivial⟩
theorem one_known_no (l res : List Tm) (c r : Nat) (m : Mv) (hk : m.k = 1) (h : inF m.a l.length = false) : Contract Try.prog 60 2 (rsO l res c r) [.ptr 0 0, m.sv] fun s post => s = .tup [zSV, I 8] ∧ post = rsO l res c r := by
  have hl := rowsT_len l
  have hn : m.a < 0 ∨ (l.length : Int) ≤ m.a := by
    simp [inF] at h
    omega
  by_cases h0 : m.a < 0
  · refine contract_of ty_ok [3, 4, 5, 6, 7] Try.func60 rfl (by decide) Try.ntmps60 rfl fun z => ?_
    refine run 400 rfl ?_
    refine at_false 15 rfl (by rw [hk]; rfl) ?_
    refine run 400 rfl ?_
    refine at_ifd rfl (fun q2 => by omega) (fun _ => ?_)
    refine run 400 rfl ?_
    refine at_drawn 19 rfl rfl [(2, .yes), (6, .yes)] [20, 21, 22] rfl ⟨by simp; omega, by rw [hk]; rfl⟩ ?_
    refine run 400 rfl ?_
    exact at_ret rfl rfl (rsO l res c r) ⟨rfl, rfl⟩ ⟨rfl, rfl, trivial⟩
  · refine contract_of ty_ok [3, 4, 5, 6, 7] Try.func60 rfl (by decide) Try.ntmps60 rfl fun z => ?_
    refine run 400 rfl ?_
    refine at_false 15 rfl (by rw [hk]; rfl) ?_
    refine run 400 rfl ?_
    refine at_ifd rfl (fun q2 => by omega) (fun _ => ?_)
    refine run 400 rfl ?_
    refine at_drawn 19 rfl rfl [(2, .yes), (6, .no)] [20, 21, 22] rfl ⟨by simp; omega, by rw [hk]; rfl⟩ ?_
    refine run 400 rfl ?_
    refine at_ifd rfl (fun q2 => ?_) (fun _ => by omega)
    refine run 400 rfl ?_
    exact at_ret rfl rfl (rsO l res c r) ⟨rfl, rfl⟩ ⟨rfl, rfl, trivial⟩
theorem one_atom (l res : List Tm) (c r : Nat) (m : Mv) (hk : m.k = 2) : Contract Try.prog 60 2 (rsO l res c r) [.ptr 0 0, m.sv] fun s post => s = .tup [(Tm.mk 1 0 m.s []).sv, I 0] ∧ post = rsO l res c r := by
  refine contract_of ty_ok [3, 4, 5, 6, 7] Try.func60 rfl (by decide) Try.ntmps60 rfl fun z => ?_
  refine run 400 rfl ?_
  refine at_false 15 rfl (by rw [hk]; rfl) ?_
  refine run 400 rfl ?_
  refine at_ifd rfl (fun q2 => by omega) (fun _ => ?_)
  refine run 400 rfl ?_
  refine at_drawn 19 rfl rfl [(2, .no)] [20, 21, 22] rfl (by rw [hk]; rfl) ?_
  refine run 400 rfl ?_
  refine at_if rfl (fun q2 => by rw [hk] at q2; cases q2) (fun _ => ?_)
  refine run 400 rfl ?_
  refine at_if rfl (fun _ => ?_) (fun q2 => by rw [hk] at q2; cases q2)
  refine run 400 rfl ?_
  refine at_fn (A_fn m.s) rfl ?_
  refine run 400 rfl ?_
  exact at_ret rfl rfl (rsO l res c r) ⟨rfl, rfl⟩ ⟨rfl, rfl, trivial⟩
theorem one_left_no (l res : List Tm) (c r : Nat) (m : Mv) (hk : m.k = 3) (h : inF m.a res.length = false) : Contract Try.prog 60 2 (rsO l res c r) [.ptr 0 0, m.sv] fun s post => s = .tup [zSV, I 8] ∧ post = rsO l res c r := by
  have ha := at_no_fn l res c r m.a h
  by_cases hb : inF m.b res.length = true
  · refine contract_of ty_ok [3, 4, 5, 6, 7] Try.func60 rfl (by decide) Try.ntmps60 rfl fun z => ?_
    refine run 400 rfl ?_
    refine at_false 15 rfl (by rw [hk]; rfl) ?_
    refine run 400 rfl ?_
    refine at_ifd rfl (fun q2 => by omega) (fun _ => ?_)
    refine run 400 rfl ?_
    refine at_drawn 19 rfl rfl [(2, .no)] [20, 21, 22] rfl (by rw [hk]; rfl) ?_
    refine run 400 rfl ?_
    refine at_if rfl (fun q2 => by rw [hk] at q2; cases q2) (fun _ => ?_)
    refine run 400 rfl ?_
    refine at_if rfl (fun q2 => by rw [hk] at q2; cases q2) (fun _ => ?_)
    refine run 400 rfl ?_
    refine at_callF [0, 1] (ha) rfl ⟨rfl, rfl, trivial⟩ rfl rfl rfl ?_
    refine run 400 rfl ?_
    refine at_callF [0, 1] (at_yes_fn l res c r m.b hb) rfl ⟨rfl, rfl, trivial⟩ rfl rfl rfl ?_
    refine run 400 rfl ?_
    refine at_false 77 rfl (by rw [hk]; rfl) ?_
    refine run 400 rfl ?_
    refine at_false 82 rfl (by rw [hk]; rfl) ?_
    refine run 400 rfl ?_
    refine at_false 10 rfl (by rw [hk]; rfl) ?_
    refine run 400 rfl ?_
    exact at_ret rfl rfl (rsO l res c r) ⟨rfl, rfl⟩ ⟨rfl, rfl, trivial⟩
  · refine contract_of ty_ok [3, 4, 5, 6, 7] Try.func60 rfl (by decide) Try.ntmps60 rfl fun z => ?_
    refine run 400 rfl ?_
    refine at_false 15 rfl (by rw [hk]; rfl) ?_
    refine run 400 rfl ?_
    refine at_ifd rfl (fun q2 => by omega) (fun _ => ?_)
    refine run 400 rfl ?_
    refine at_drawn 19 rfl rfl [(2, .no)] [20, 21, 22] rfl (by rw [hk]; rfl) ?_
    refine run 400 rfl ?_
    refine at_if rfl (fun q2 => by rw [hk] at q2; cases q2) (fun _ => ?_)
    refine run 400 rfl ?_
    refine at_if rfl (fun q2 => by rw [hk] at q2; cases q2) (fun _ => ?_)
    refine run 400 rfl ?_
    refine at_callF [0, 1] (ha) rfl ⟨rfl, rfl, trivial⟩ rfl rfl rfl ?_
    refine run 400 rfl ?_
    refine at_callF [0, 1] (at_no_fn l res c r m.b (by simpa using hb)) rfl ⟨rfl, rfl, trivial⟩ rfl rfl rfl ?_
    refine run 400 rfl ?_
    refine at_false 77 rfl (by rw [hk]; rfl) ?_
    refine run 400 rfl ?_
    refine at_false 82 rfl (by rw [hk]; rfl) ?_
    refine run 400 rfl ?_
    refine at_false 10 rfl (by rw [hk]; rfl) ?_
    refine run 400 rfl ?_
    exact at_ret rfl rfl (rsO l res c r) ⟨rfl, rfl⟩ ⟨rfl, rfl, trivial⟩
theorem one_right_no (l res : List Tm) (c r : Nat) (m : Mv) (hk : m.k = 4) (h : inF m.a res.length = false) : Contract Try.prog 60 2 (rsO l res c r) [.ptr 0 0, m.sv] fun s post => s = .tup [zSV, I 8] ∧ post = rsO l res c r := by
  have ha := at_no_fn l res c r m.a h
  by_cases hb : inF m.b res.length = true
  · refine contract_of ty_ok [3, 4, 5, 6, 7] Try.func60 rfl (by decide) Try.ntmps60 rfl fun z => ?_
    refine run 400 rfl ?_
    refine at_false 15 rfl (by rw [hk]; rfl) ?_
    refine run 400 rfl ?_
    refine at_ifd rfl (fun q2 => by omega) (fun _ => ?_)
    refine run 400 rfl ?_
    refine at_drawn 19 rfl rfl [(2, .no)] [20, 21, 22] rfl (by rw [hk]; rfl) ?_
    refine run 400 rfl ?_
    refine at_if rfl (fun q2 => by rw [hk] at q2; cases q2) (fun _ => ?_)
    refine run 400 rfl ?_
    refine at_if rfl (fun q2 => by rw [hk] at q2; cases q2) (fun _ => ?_)
    refine run 400 rfl ?_
    refine at_callF [0, 1] (ha) rfl ⟨rfl, rfl, trivial⟩ rfl rfl rfl ?_
    refine run 400 rfl ?_
    refine at_callF [0, 1] (at_yes_fn l res c r m.b hb) rfl ⟨rfl, rfl, trivial⟩ rfl rfl rfl ?_
    refine run 400 rfl ?_
    refine at_false 77 rfl (by rw [hk]; rfl) ?_
    refine run 400 rfl ?_
    refine at_false 82 rfl (by rw [hk]; rfl) ?_
    refine run 400 rfl ?_
    refine at_false 10 rfl (by rw [hk]; rfl) ?_
    refine run 400 rfl ?_
    exact at_ret rfl rfl (rsO l res c r) ⟨rfl, rfl⟩ ⟨rfl, rfl, trivial⟩
  · refine contract_of ty_ok [3, 4, 5, 6, 7] Try.func60 rfl (by decide) Try.ntmps60 rfl fun z => ?_
    refine run 400 rfl ?_
    refine at_false 15 rfl (by rw [hk]; rfl) ?_
    refine run 400 rfl ?_
    refine at_ifd rfl (fun q2 => by omega) (fun _ => ?_)
    refine run 400 rfl ?_
    refine at_drawn 19 rfl rfl [(2, .no)] [20, 21, 22] rfl (by rw [hk]; rfl) ?_
    refine run 400 rfl ?_
    refine at_if rfl (fun q2 => by rw [hk] at q2; cases q2) (fun _ => ?_)
    refine run 400 rfl ?_
    refine at_if rfl (fun q2 => by rw [hk] at q2; cases q2) (fun _ => ?_)
    refine run 400 rfl ?_
    refine at_callF [0, 1] (ha) rfl ⟨rfl, rfl, trivial⟩ rfl rfl rfl ?_
    refine run 400 rfl ?_
    refine at_callF [0, 1] (at_no_fn l res c r m.b (by simpa using hb)) rfl ⟨rfl, rfl, trivial⟩ rfl rfl rfl ?_
    refine run 400 rfl ?_
    refine at_false 77 rfl (by rw [hk]; rfl) ?_
    refine run 400 rfl ?_
    refine at_false 82 rfl (by rw [hk]; rfl) ?_
    refine run 400 rfl ?_
    refine at_false 10 rfl (by rw [hk]; rfl) ?_
    refine run 400 rfl ?_
    exact at_ret rfl rfl (rsO l res c r) ⟨rfl, rfl⟩ ⟨rfl, rfl, trivial⟩
theorem one_open_no (l res : List Tm) (c r : Nat) (m : Mv) (hk : m.k = 5) (h : inF m.a res.length = false) : Contract Try.prog 60 2 (rsO l res c r) [.ptr 0 0, m.sv] fun s post => s = .tup [zSV, I 8] ∧ post = rsO l res c r := by
  have ha := at_no_fn l res c r m.a h
  by_cases hb : inF m.b res.length = true
  · refine contract_of ty_ok [3, 4, 5, 6, 7] Try.func60 rfl (by decide) Try.ntmps60 rfl fun z => ?_
    refine run 400 rfl ?_
    refine at_false 15 rfl (by rw [hk]; rfl) ?_
    refine run 400 rfl ?_
    refine at_ifd rfl (fun q2 => by omega) (fun _ => ?_)
    refine run 400 rfl ?_
    refine at_drawn 19 rfl rfl [(2, .no)] [20, 21, 22] rfl (by rw [hk]; rfl) ?_
    refine run 400 rfl ?_
    refine at_if rfl (fun q2 => by rw [hk] at q2; cases q2) (fun _ => ?_)
    refine run 400 rfl ?_
    refine at_if rfl (fun q2 => by rw [hk] at q2; cases q2) (fun _ => ?_)
    refine run 400 rfl ?_
    refine at_callF [0, 1] (ha) rfl ⟨rfl, rfl, trivial⟩ rfl rfl rfl ?_
    refine run 400 rfl ?_
    refine at_callF [0, 1] (at_yes_fn l res c r m.b hb) rfl ⟨rfl, rfl, trivial⟩ rfl rfl rfl ?_
    refine run 400 rfl ?_
    refine at_false 77 rfl (by rw [hk]; rfl) ?_
    refine run 400 rfl ?_
    refine at_false 82 rfl (by rw [hk]; rfl) ?_
    refine run 400 rfl ?_
    refine at_false 10 rfl (by rw [hk]; rfl) ?_
    refine run 400 rfl ?_
    exact at_ret rfl rfl (rsO l res c r) ⟨rfl, rfl⟩ ⟨rfl, rfl, trivial⟩
  · refine contract_of ty_ok [3, 4, 5, 6, 7] Try.func60 rfl (by decide) Try.ntmps60 rfl fun z => ?_
    refine run 400 rfl ?_
    refine at_false 15 rfl (by rw [hk]; rfl) ?_
    refine run 400 rfl ?_
    refine at_ifd rfl (fun q2 => by omega) (fun _ => ?_)
    refine run 400 rfl ?_
    refine at_drawn 19 rfl rfl [(2, .no)] [20, 21, 22] rfl (by rw [hk]; rfl) ?_
    refine run 400 rfl ?_
    refine at_if rfl (fun q2 => by rw [hk] at q2; cases q2) (fun _ => ?_)
    refine run 400 rfl ?_
    refine at_if rfl (fun q2 => by rw [hk] at q2; cases q2) (fun _ => ?_)
    refine run 400 rfl ?_
    refine at_callF [0, 1] (ha) rfl ⟨rfl, rfl, trivial⟩ rfl rfl rfl ?_
    refine run 400 rfl ?_
    refine at_callF [0, 1] (at_no_fn l res c r m.b (by simpa using hb)) rfl ⟨rfl, rfl, trivial⟩ rfl rfl rfl ?_
    refine run 400 rfl ?_
    refine at_false 77 rfl (by rw [hk]; rfl) ?_
    refine run 400 rfl ?_
    refine at_false 82 rfl (by rw [hk]; rfl) ?_
    refine run 400 rfl ?_
    refine at_false 10 rfl (by rw [hk]; rfl) ?_
    refine run 400 rfl ?_
    exact at_ret rfl rfl (rsO l res c r) ⟨rfl, rfl⟩ ⟨rfl, rfl, trivial⟩
theorem one_hash_no (l res : List Tm) (c r : Nat) (m : Mv) (hk : m.k = 6) (h : inF m.a res.length = false) : Contract Try.prog 60 2 (rsO l res c r) [.ptr 0 0, m.sv] fun s post => s = .tup [zSV, I 8] ∧ post = rsO l res c r := by
  have ha := at_no_fn l res c r m.a h
  by_cases hb : inF m.b res.length = true
  · refine contract_of ty_ok [3, 4, 5, 6, 7] Try.func60 rfl (by decide) Try.ntmps60 rfl fun z => ?_
    refine run 400 rfl ?_
    refine at_false 15 rfl (by rw [hk]; rfl) ?_
    refine run 400 rfl ?_
    refine at_ifd rfl (fun q2 => by omega) (fun _ => ?_)
    refine run 400 rfl ?_
    refine at_drawn 19 rfl rfl [(2, .no)] [20, 21, 22] rfl (by rw [hk]; rfl) ?_
    refine run 400 rfl ?_
    refine at_if rfl (fun q2 => by rw [hk] at q2; cases q2) (fun _ => ?_)
    refine run 400 rfl ?_
    refine at_if rfl (fun q2 => by rw [hk] at q2; cases q2) (fun _ => ?_)
    refine run 400 rfl ?_
    refine at_callF [0, 1] (ha) rfl ⟨rfl, rfl, trivial⟩ rfl rfl rfl ?_
    refine run 400 rfl ?_
    refine at_callF [0, 1] (at_yes_fn l res c r m.b hb) rfl ⟨rfl, rfl, trivial⟩ rfl rfl rfl ?_
    refine run 400 rfl ?_
    refine at_false 77 rfl (by rw [hk]; rfl) ?_
    refine run 400 rfl ?_
    refine at_false 82 rfl (by rw [hk]; rfl) ?_
    refine run 400 rfl ?_
    refine at_false 10 rfl (by rw [hk]; rfl) ?_
    refine run 400 rfl ?_
    exact at_ret rfl rfl (rsO l res c r) ⟨rfl, rfl⟩ ⟨rfl, rfl, trivial⟩
  · refine contract_of ty_ok [3, 4, 5, 6, 7] Try.func60 rfl (by decide) Try.ntmps60 rfl fun z => ?_
    refine run 400 rfl ?_
    refine at_false 15 rfl (by rw [hk]; rfl) ?_
    refine run 400 rfl ?_
    refine at_ifd rfl (fun q2 => by omega) (fun _ => ?_)
    refine run 400 rfl ?_
    refine at_drawn 19 rfl rfl [(2, .no)] [20, 21, 22] rfl (by rw [hk]; rfl) ?_
    refine run 400 rfl ?_
    refine at_if rfl (fun q2 => by rw [hk] at q2; cases q2) (fun _ => ?_)
    refine run 400 rfl ?_
    refine at_if rfl (fun q2 => by rw [hk] at q2; cases q2) (fun _ => ?_)
    refine run 400 rfl ?_
    refine at_callF [0, 1] (ha) rfl ⟨rfl, rfl, trivial⟩ rfl rfl rfl ?_
    refine run 400 rfl ?_
    refine at_callF [0, 1] (at_no_fn l res c r m.b (by simpa using hb)) rfl ⟨rfl, rfl, trivial⟩ rfl rfl rfl ?_
    refine run 400 rfl ?_
    refine at_false 77 rfl (by rw [hk]; rfl) ?_
    refine run 400 rfl ?_
    refine at_false 82 rfl (by rw [hk]; rfl) ?_
    refine run 400 rfl ?_
    refine at_false 10 rfl (by rw [hk]; rfl) ?_
    refine run 400 rfl ?_
    exact at_ret rfl rfl (rsO l res c r) ⟨rfl, rfl⟩ ⟨rfl, rfl, trivial⟩
theorem one_pub_no (l res : List Tm) (c r : Nat) (m : Mv) (hk : m.k = 7) (h : inF m.a res.length = false) : Contract Try.prog 60 2 (rsO l res c r) [.ptr 0 0, m.sv] fun s post => s = .tup [zSV, I 8] ∧ post = rsO l res c r := by
  have ha := at_no_fn l res c r m.a h
  by_cases hb : inF m.b res.length = true
  · refine contract_of ty_ok [3, 4, 5, 6, 7] Try.func60 rfl (by decide) Try.ntmps60 rfl fun z => ?_
    refine run 400 rfl ?_
    refine at_false 15 rfl (by rw [hk]; rfl) ?_
    refine run 400 rfl ?_
    refine at_ifd rfl (fun q2 => by omega) (fun _ => ?_)
    refine run 400 rfl ?_
    refine at_drawn 19 rfl rfl [(2, .no)] [20, 21, 22] rfl (by rw [hk]; rfl) ?_
    refine run 400 rfl ?_
    refine at_if rfl (fun q2 => by rw [hk] at q2; cases q2) (fun _ => ?_)
    refine run 400 rfl ?_
    refine at_if rfl (fun q2 => by rw [hk] at q2; cases q2) (fun _ => ?_)
    refine run 400 rfl ?_
    refine at_callF [0, 1] (ha) rfl ⟨rfl, rfl, trivial⟩ rfl rfl rfl ?_
    refine run 400 rfl ?_
    refine at_callF [0, 1] (at_yes_fn l res c r m.b hb) rfl ⟨rfl, rfl, trivial⟩ rfl rfl rfl ?_
    refine run 400 rfl ?_
    refine at_false 77 rfl (by rw [hk]; rfl) ?_
    refine run 400 rfl ?_
    refine at_false 82 rfl (by rw [hk]; rfl) ?_
    refine run 400 rfl ?_
    refine at_false 10 rfl (by rw [hk]; rfl) ?_
    refine run 400 rfl ?_
    exact at_ret rfl rfl (rsO l res c r) ⟨rfl, rfl⟩ ⟨rfl, rfl, trivial⟩
  · refine contract_of ty_ok [3, 4, 5, 6, 7] Try.func60 rfl (by decide) Try.ntmps60 rfl fun z => ?_
    refine run 400 rfl ?_
    refine at_false 15 rfl (by rw [hk]; rfl) ?_
    refine run 400 rfl ?_
    refine at_ifd rfl (fun q2 => by omega) (fun _ => ?_)
    refine run 400 rfl ?_
    refine at_drawn 19 rfl rfl [(2, .no)] [20, 21, 22] rfl (by rw [hk]; rfl) ?_
    refine run 400 rfl ?_
    refine at_if rfl (fun q2 => by rw [hk] at q2; cases q2) (fun _ => ?_)
    refine run 400 rfl ?_
    refine at_if rfl (fun q2 => by rw [hk] at q2; cases q2) (fun _ => ?_)
    refine run 400 rfl ?_
    refine at_callF [0, 1] (ha) rfl ⟨rfl, rfl, trivial⟩ rfl rfl rfl ?_
    refine run 400 rfl ?_
    refine at_callF [0, 1] (at_no_fn l res c r m.b (by simpa using hb)) rfl ⟨rfl, rfl, trivial⟩ rfl rfl rfl ?_
    refine run 400 rfl ?_
    refine at_false 77 rfl (by rw [hk]; rfl) ?_
    refine run 400 rfl ?_
    refine at_false 82 rfl (by rw [hk]; rfl) ?_
    refine run 400 rfl ?_
    refine at_false 10 rfl (by rw [hk]; rfl) ?_
    refine run 400 rfl ?_
    exact at_ret rfl rfl (rsO l res c r) ⟨rfl, rfl⟩ ⟨rfl, rfl, trivial⟩
theorem T1_fn (k : Int) (u : Tm) : Gives Try.prog 35 [I k, .tl 4 [tr u]] (Tm.mk k 0 .empty [u]).sv := (T_fn k [u]).weak ⟨SVle.refl _, by rw [rowsT_cons, rowsT_nil]; exact SVle.tl _ _, trivial⟩
theorem T2_fn (k : Int) (u v : Tm) : Gives Try.prog 35 [I k, .tl 4 [tr u, tr v]] (Tm.mk k 0 .empty [u, v]).sv := (T_fn k [u, v]).weak ⟨SVle.refl _, by rw [rowsT_cons, rowsT_cons, rowsT_nil]; exact SVle.tl _ _, trivial⟩
theorem one_left_form (l res : List Tm) (c r : Nat) (m : Mv) (hk : m.k = 3) (h : inF m.a res.length = true) (hq : (res.getD m.a.toNat .zero).k ≠ 7) : Contract Try.prog 60 2 (rsO l res c r) [.ptr 0 0, m.sv] fun s post => s = .tup [zSV, I 3] ∧ post = rsO l res c r := by
  have ha := at_yes_fn l res c r m.a h
  generalize res.getD m.a.toNat .zero = u at ha hq
  by_cases hb : inF m.b res.length = true
  · refine contract_of ty_ok [3, 4, 5, 6, 7] Try.func60 rfl (by decide) Try.ntmps60 rfl fun z => ?_
    refine run 400 rfl ?_
    refine at_false 15 rfl (by rw [hk]; rfl) ?_
    refine run 400 rfl ?_
    refine at_ifd rfl (fun q2 => by omega) (fun _ => ?_)
    refine run 400 rfl ?_
    refine at_drawn 19 rfl rfl [(2, .no)] [20, 21, 22] rfl (by rw [hk]; rfl) ?_
    refine run 400 rfl ?_
    refine at_if rfl (fun q2 => by rw [hk] at q2; cases q2) (fun _ => ?_)
    refine run 400 rfl ?_
    refine at_if rfl (fun q2 => by rw [hk] at q2; cases q2) (fun _ => ?_)
    refine run 400 rfl ?_
    refine at_callF [0, 1] (ha) rfl ⟨rfl, rfl, trivial⟩ rfl rfl rfl ?_
    refine run 400 rfl ?_
    refine at_callF [0, 1] (at_yes_fn l res c r m.b hb) rfl ⟨rfl, rfl, trivial⟩ rfl rfl rfl ?_
    refine run 400 rfl ?_
    refine at_false 77 rfl (by rw [hk]; rfl) ?_
    refine run 400 rfl ?_
    refine at_false 82 rfl (by rw [hk]; rfl) ?_
    refine run 400 rfl ?_
    refine at_false 91 rfl (by rw [hk]; rfl) ?_
    refine run 400 rfl ?_
    refine at_if rfl (fun _ => ?_) (fun q2 => by rw [hk] at q2; cases q2)
    refine run 400 rfl ?_
    refine at_if rfl (fun _ => ?_) (fun q2 => by rw [hk] at q2; cases q2)
    refine run 400 rfl ?_
    refine at_if rfl (fun _ => ?_) (fun q2 => absurd (by simpa using q2) hq)
    refine run 400 rfl ?_
    exact at_ret rfl rfl (rsO l res c r) ⟨rfl, rfl⟩ ⟨rfl, rfl, trivial⟩
  · refine contract_of ty_ok [3, 4, 5, 6, 7] Try.func60 rfl (by decide) Try.ntmps60 rfl fun z => ?_
    refine run 400 rfl ?_
    refine at_false 15 rfl (by rw [hk]; rfl) ?_
    refine run 400 rfl ?_
    refine at_ifd rfl (fun q2 => by omega) (fun _ => ?_)
    refine run 400 rfl ?_
    refine at_drawn 19 rfl rfl [(2, .no)] [20, 21, 22] rfl (by rw [hk]; rfl) ?_
    refine run 400 rfl ?_
    refine at_if rfl (fun q2 => by rw [hk] at q2; cases q2) (fun _ => ?_)
    refine run 400 rfl ?_
    refine at_if rfl (fun q2 => by rw [hk] at q2; cases q2) (fun _ => ?_)
    refine run 400 rfl ?_
    refine at_callF [0, 1] (ha) rfl ⟨rfl, rfl, trivial⟩ rfl rfl rfl ?_
    refine run 400 rfl ?_
    refine at_callF [0, 1] (at_no_fn l res c r m.b (by simpa using hb)) rfl ⟨rfl, rfl, trivial⟩ rfl rfl rfl ?_
    refine run 400 rfl ?_
    refine at_false 77 rfl (by rw [hk]; rfl) ?_
    refine run 400 rfl ?_
    refine at_false 82 rfl (by rw [hk]; rfl) ?_
    refine run 400 rfl ?_
    refine at_false 91 rfl (by rw [hk]; rfl) ?_
    refine run 400 rfl ?_
    refine at_if rfl (fun _ => ?_) (fun q2 => by rw [hk] at q2; cases q2)
    refine run 400 rfl ?_
    refine at_if rfl (fun _ => ?_) (fun q2 => by rw [hk] at q2; cases q2)
    refine run 400 rfl ?_
    refine at_if rfl (fun _ => ?_) (fun q2 => absurd (by simpa using q2) hq)
    refine run 400 rfl ?_
    exact at_ret rfl rfl (rsO l res c r) ⟨rfl, rfl⟩ ⟨rfl, rfl, trivial⟩
theorem one_left (l res : List Tm) (c r : Nat) (m : Mv) (hk : m.k = 3) (h : inF m.a res.length = true) (hq : (res.getD m.a.toNat .zero).k = 7) (hn : 0 < (res.getD m.a.toNat .zero).kids.length) : Contract Try.prog 60 2 (rsO l res c r) [.ptr 0 0, m.sv] fun s post => s = .tup [((res.getD m.a.toNat .zero).kids.getD 0 .zero).sv, I 0] ∧ post = rsO l res c r := by
  have ha := at_yes_fn l res c r m.a h
  generalize res.getD m.a.toNat .zero = u at ha hq hn
  have hget := rowsT_get hn
  generalize u.kids.getD 0 .zero = v at hget
  by_cases hb : inF m.b res.length = true
  · refine contract_of ty_ok [3, 4, 5, 6, 7] Try.func60 rfl (by decide) Try.ntmps60 rfl fun z => ?_
    refine run 400 rfl ?_
    refine at_false 15 rfl (by rw [hk]; rfl) ?_
    refine run 400 rfl ?_
    refine at_ifd rfl (fun q2 => by omega) (fun _ => ?_)
    refine run 400 rfl ?_
    refine at_drawn 19 rfl rfl [(2, .no)] [20, 21, 22] rfl (by rw [hk]; rfl) ?_
    refine run 400 rfl ?_
    refine at_if rfl (fun q2 => by rw [hk] at q2; cases q2) (fun _ => ?_)
    refine run 400 rfl ?_
    refine at_if rfl (fun q2 => by rw [hk] at q2; cases q2) (fun _ => ?_)
    refine run 400 rfl ?_
    refine at_callF [0, 1] (ha) rfl ⟨rfl, rfl, trivial⟩ rfl rfl rfl ?_
    refine run 400 rfl ?_
    refine at_callF [0, 1] (at_yes_fn l res c r m.b hb) rfl ⟨rfl, rfl, trivial⟩ rfl rfl rfl ?_
    refine run 400 rfl ?_
    refine at_false 77 rfl (by rw [hk]; rfl) ?_
    refine run 400 rfl ?_
    refine at_false 82 rfl (by rw [hk]; rfl) ?_
    refine run 400 rfl ?_
    refine at_false 91 rfl (by rw [hk]; rfl) ?_
    refine run 400 rfl ?_
    refine at_if rfl (fun _ => ?_) (fun q2 => by rw [hk] at q2; cases q2)
    refine run 400 rfl ?_
    refine at_if rfl (fun _ => ?_) (fun q2 => by rw [hk] at q2; cases q2)
    refine run 400 rfl ?_
    refine at_if rfl (fun q2 => absurd hq (by simpa using q2)) (fun _ => ?_)
    refine run 400 rfl ?_
    refine at_val (.rp (tr v) 0) (does_index ty_ok _ rfl rfl rfl (by omega) (show (rowsT u.kids)[(m.k - 3).toNat]? = some (tr v) from by rw [hk]; exact hget) rfl) ?_
    refine run 400 rfl ?_
    exact at_ret rfl rfl (rsO l res c r) ⟨rfl, rfl⟩ ⟨rfl, rfl, trivial⟩
  · refine contract_of ty_ok [3, 4, 5, 6, 7] Try.func60 rfl (by decide) Try.ntmps60 rfl fun z => ?_
    refine run 400 rfl ?_
    refine at_false 15 rfl (by rw [hk]; rfl) ?_
    refine run 400 rfl ?_
    refine at_ifd rfl (fun q2 => by omega) (fun _ => ?_)
    refine run 400 rfl ?_
    refine at_drawn 19 rfl rfl [(2, .no)] [20, 21, 22] rfl (by rw [hk]; rfl) ?_
    refine run 400 rfl ?_
    refine at_if rfl (fun q2 => by rw [hk] at q2; cases q2) (fun _ => ?_)
    refine run 400 rfl ?_
    refine at_if rfl (fun q2 => by rw [hk] at q2; cases q2) (fun _ => ?_)
    refine run 400 rfl ?_
    refine at_callF [0, 1] (ha) rfl ⟨rfl, rfl, trivial⟩ rfl rfl rfl ?_
    refine run 400 rfl ?_
    refine at_callF [0, 1] (at_no_fn l res c r m.b (by simpa using hb)) rfl ⟨rfl, rfl, trivial⟩ rfl rfl rfl ?_
    refine run 400 rfl ?_
    refine at_false 77 rfl (by rw [hk]; rfl) ?_
    refine run 400 rfl ?_
    refine at_false 82 rfl (by rw [hk]; rfl) ?_
    refine run 400 rfl ?_
    refine at_false 91 rfl (by rw [hk]; rfl) ?_
    refine run 400 rfl ?_
    refine at_if rfl (fun _ => ?_) (fun q2 => by rw [hk] at q2; cases q2)
    refine run 400 rfl ?_
    refine at_if rfl (fun _ => ?_) (fun q2 => by rw [hk] at q2; cases q2)
    refine run 400 rfl ?_
    refine at_if rfl (fun q2 => absurd hq (by simpa using q2)) (fun _ => ?_)
    refine run 400 rfl ?_
    refine at_val (.rp (tr v) 0) (does_index ty_ok _ rfl rfl rfl (by omega) (show (rowsT u.kids)[(m.k - 3).toNat]? = some (tr v) from by rw [hk]; exact hget) rfl) ?_
    refine run 400 rfl ?_
    exact at_ret rfl rfl (rsO l res c r) ⟨rfl, rfl⟩ ⟨rfl, rfl, trivial⟩
theorem one_right_form (l res : List Tm) (c r : Nat) (m : Mv) (hk : m.k = 4) (h : inF m.a res.length = true) (hq : (res.getD m.a.toNat .zero).k ≠ 7) : Contract Try.prog 60 2 (rsO l res c r) [.ptr 0 0, m.sv] fun s post => s = .tup [zSV, I 3] ∧ post = rsO l res c r := by
  have ha := at_yes_fn l res c r m.a h
  generalize res.getD m.a.toNat .zero = u at ha hq
  by_cases hb : inF m.b res.length = true
  · refine contract_of ty_ok [3, 4, 5, 6, 7] Try.func60 rfl (by decide) Try.ntmps60 rfl fun z => ?_
    refine run 400 rfl ?_
    refine at_false 15 rfl (by rw [hk]; rfl) ?_
    refine run 400 rfl ?_
    refine at_ifd rfl (fun q2 => by omega) (fun _ => ?_)
    refine run 400 rfl ?_
    refine at_drawn 19 rfl rfl [(2, .no)] [20, 21, 22] rfl (by rw [hk]; rfl) ?_
    refine run 400 rfl ?_
    refine at_if rfl (fun q2 => by rw [hk] at q2; cases q2) (fun _ => ?_)
    refine run 400 rfl ?_
    refine at_if rfl (fun q2 => by rw [hk] at q2; cases q2) (fun _ => ?_)
    refine run 400 rfl ?_
    refine at_callF [0, 1] (ha) rfl ⟨rfl, rfl, trivial⟩ rfl rfl rfl ?_
    refine run 400 rfl ?_
    refine at_callF [0, 1] (at_yes_fn l res c r m.b hb) rfl ⟨rfl, rfl, trivial⟩ rfl rfl rfl ?_
    refine run 400 rfl ?_
    refine at_false 77 rfl (by rw [hk]; rfl) ?_
    refine run 400 rfl ?_
    refine at_false 82 rfl (by rw [hk]; rfl) ?_
    refine run 400 rfl ?_
    refine at_false 91 rfl (by rw [hk]; rfl) ?_
    refine run 400 rfl ?_
    refine at_if rfl (fun q2 => by rw [hk] at q2; cases q2) (fun _ => ?_)
    refine run 400 rfl ?_
    refine at_if rfl (fun _ => ?_) (fun q2 => by rw [hk] at q2; cases q2)
    refine run 400 rfl ?_
    refine at_if rfl (fun _ => ?_) (fun q2 => absurd (by simpa using q2) hq)
    refine run 400 rfl ?_
    exact at_ret rfl rfl (rsO l res c r) ⟨rfl, rfl⟩ ⟨rfl, rfl, trivial⟩
  · refine contract_of ty_ok [3, 4, 5, 6, 7] Try.func60 rfl (by decide) Try.ntmps60 rfl fun z => ?_
    refine run 400 rfl ?_
    refine at_false 15 rfl (by rw [hk]; rfl) ?_
    refine run 400 rfl ?_
    refine at_ifd rfl (fun q2 => by omega) (fun _ => ?_)
    refine run 400 rfl ?_
    refine at_drawn 19 rfl rfl [(2, .no)] [20, 21, 22] rfl (by rw [hk]; rfl) ?_
    refine run 400 rfl ?_
    refine at_if rfl (fun q2 => by rw [hk] at q2; cases q2) (fun _ => ?_)
    refine run 400 rfl ?_
    refine at_if rfl (fun q2 => by rw [hk] at q2; cases q2) (fun _ => ?_)
    refine run 400 rfl ?_
    refine at_callF [0, 1] (ha) rfl ⟨rfl, rfl, trivial⟩ rfl rfl rfl ?_
    refine run 400 rfl ?_
    refine at_callF [0, 1] (at_no_fn l res c r m.b (by simpa using hb)) rfl ⟨rfl, rfl, trivial⟩ rfl rfl rfl ?_
    refine run 400 rfl ?_
    refine at_false 77 rfl (by rw [hk]; rfl) ?_
    refine run 400 rfl ?_
    refine at_false 82 rfl (by rw [hk]; rfl) ?_
    refine run 400 rfl ?_
    refine at_false 91 rfl (by rw [hk]; rfl) ?_
    refine run 400 rfl ?_
    refine at_if rfl (fun q2 => by rw [hk] at q2; cases q2) (fun _ => ?_)
    refine run 400 rfl ?_
    refine at_if rfl (fun _ => ?_) (fun q2 => by rw [hk] at q2; cases q2)
    refine run 400 rfl ?_
    refine at_if rfl (fun _ => ?_) (fun q2 => absurd (by simpa using q2) hq)
    refine run 400 rfl ?_
    exact at_ret rfl rfl (rsO l res c r) ⟨rfl, rfl⟩ ⟨rfl, rfl, trivial⟩
theorem one_right (l res : List Tm) (c r : Nat) (m : Mv) (hk : m.k = 4) (h : inF m.a res.length = true) (hq : (res.getD m.a.toNat .zero).k = 7) (hn : 1 < (res.getD m.a.toNat .zero).kids.length) : Contract Try.prog 60 2 (rsO l res c r) [.ptr 0 0, m.sv] fun s post => s = .tup [((res.getD m.a.toNat .zero).kids.getD 1 .zero).sv, I 0] ∧ post = rsO l res c r := by
  have ha := at_yes_fn l res c r m.a h
  generalize res.getD m.a.toNat .zero = u at ha hq hn
  have hget := rowsT_get hn
  generalize u.kids.getD 1 .zero = v at hget
  by_cases hb : inF m.b res.length = true
  · refine contract_of ty_ok [3, 4, 5, 6, 7] Try.func60 rfl (by decide) Try.ntmps60 rfl fun z => ?_
    refine run 400 rfl ?_
    refine at_false 15 rfl (by rw [hk]; rfl) ?_
    refine run 400 rfl ?_
    refine at_ifd rfl (fun q2 => by omega) (fun _ => ?_)
    refine run 400 rfl ?_
    refine at_drawn 19 rfl rfl [(2, .no)] [20, 21, 22] rfl (by rw [hk]; rfl) ?_
    refine run 400 rfl ?_
    refine at_if rfl (fun q2 => by rw [hk] at q2; cases q2) (fun _ => ?_)
    refine run 400 rfl ?_
    refine at_if rfl (fun q2 => by rw [hk] at q2; cases q2) (fun _ => ?_)
    refine run 400 rfl ?_
    refine at_callF [0, 1] (ha) rfl ⟨rfl, rfl, trivial⟩ rfl rfl rfl ?_
    refine run 400 rfl ?_
    refine at_callF [0, 1] (at_yes_fn l res c r m.b hb) rfl ⟨rfl, rfl, trivial⟩ rfl rfl rfl ?_
    refine run 400 rfl ?_
    refine at_false 77 rfl (by rw [hk]; rfl) ?_
    refine run 400 rfl ?_
    refine at_false 82 rfl (by rw [hk]; rfl) ?_
    refine run 400 rfl ?_
    refine at_false 91 rfl (by rw [hk]; rfl) ?_
    refine run 400 rfl ?_
    refine at_if rfl (fun q2 => by rw [hk] at q2; cases q2) (fun _ => ?_)
    refine run 400 rfl ?_
    refine at_if rfl (fun _ => ?_) (fun q2 => by rw [hk] at q2; cases q2)
    refine run 400 rfl ?_
    refine at_if rfl (fun q2 => absurd hq (by simpa using q2)) (fun _ => ?_)
    refine run 400 rfl ?_
    refine at_val (.rp (tr v) 0) (does_index ty_ok _ rfl rfl rfl (by omega) (show (rowsT u.kids)[(m.k - 3).toNat]? = some (tr v) from by rw [hk]; exact hget) rfl) ?_
    refine run 400 rfl ?_
    exact at_ret rfl rfl (rsO l res c r) ⟨rfl, rfl⟩ ⟨rfl, rfl, trivial⟩
  · refine contract_of ty_ok [3, 4, 5, 6, 7] Try.func60 rfl (by decide) Try.ntmps60 rfl fun z => ?_
    refine run 400 rfl ?_
    refine at_false 15 rfl (by rw [hk]; rfl) ?_
    refine run 400 rfl ?_
    refine at_ifd rfl (fun q2 => by omega) (fun _ => ?_)
    refine run 400 rfl ?_
    refine at_drawn 19 rfl rfl [(2, .no)] [20, 21, 22] rfl (by rw [hk]; rfl) ?_
    refine run 400 rfl ?_
    refine at_if rfl (fun q2 => by rw [hk] at q2; cases q2) (fun _ => ?_)
    refine run 400 rfl ?_
    refine at_if rfl (fun q2 => by rw [hk] at q2; cases q2) (fun _ => ?_)
    refine run 400 rfl ?_
    refine at_callF [0, 1] (ha) rfl ⟨rfl, rfl, trivial⟩ rfl rfl rfl ?_
    refine run 400 rfl ?_
    refine at_callF [0, 1] (at_no_fn l res c r m.b (by simpa using hb)) rfl ⟨rfl, rfl, trivial⟩ rfl rfl rfl ?_
    refine run 400 rfl ?_
    refine at_false 77 rfl (by rw [hk]; rfl) ?_
    refine run 400 rfl ?_
    refine at_false 82 rfl (by rw [hk]; rfl) ?_
    refine run 400 rfl ?_
    refine at_false 91 rfl (by rw [hk]; rfl) ?_
    refine run 400 rfl ?_
    refine at_if rfl (fun q2 => by rw [hk] at q2; cases q2) (fun _ => ?_)
    refine run 400 rfl ?_
    refine at_if rfl (fun _ => ?_) (fun q2 => by rw [hk] at q2; cases q2)
    refine run 400 rfl ?_
    refine at_if rfl (fun q2 => absurd hq (by simpa using q2)) (fun _ => ?_)
    refine run 400 rfl ?_
    refine at_val (.rp (tr v) 0) (does_index ty_ok _ rfl rfl rfl (by omega) (show (rowsT u.kids)[(m.k - 3).toNat]? = some (tr v) from by rw [hk]; exact hget) rfl) ?_
    refine run 400 rfl ?_
    exact at_ret rfl rfl (rsO l res c r) ⟨rfl, rfl⟩ ⟨rfl, rfl, trivial⟩
theorem one_open_form (l res : List Tm) (c r : Nat) (m : Mv) (hk : m.k = 5) (h : inF m.a res.length = true) (hq : (res.getD m.a.toNat .zero).k ≠ 6) : Contract Try.prog 60 2 (rsO l res c r) [.ptr 0 0, m.sv] fun s post => s = .tup [zSV, I 3] ∧ post = rsO l res c r := by
  have ha := at_yes_fn l res c r m.a h
  generalize res.getD m.a.toNat .zero = u at ha hq
  by_cases hb : inF m.b res.length = true
  · refine contract_of ty_ok [3, 4, 5, 6, 7] Try.func60 rfl (by decide) Try.ntmps60 rfl fun z => ?_
    refine run 400 rfl ?_
    refine at_false 15 rfl (by rw [hk]; rfl) ?_
    refine run 400 rfl ?_
    refine at_ifd rfl (fun q2 => by omega) (fun _ => ?_)
    refine run 400 rfl ?_
    refine at_drawn 19 rfl rfl [(2, .no)] [20, 21, 22] rfl (by rw [hk]; rfl) ?_
    refine run 400 rfl ?_
    refine at_if rfl (fun q2 => by rw [hk] at q2; cases q2) (fun _ => ?_)
    refine run 400 rfl ?_
    refine at_if rfl (fun q2 => by rw [hk] at q2; cases q2) (fun _ => ?_)
    refine run 400 rfl ?_
    refine at_callF [0, 1] (ha) rfl ⟨rfl, rfl, trivial⟩ rfl rfl rfl ?_
    refine run 400 rfl ?_
    refine at_callF [0, 1] (at_yes_fn l res c r m.b hb) rfl ⟨rfl, rfl, trivial⟩ rfl rfl rfl ?_
    refine run 400 rfl ?_
    refine at_false 77 rfl (by rw [hk]; rfl) ?_
    refine run 400 rfl ?_
    refine at_false 82 rfl (by rw [hk]; rfl) ?_
    refine run 400 rfl ?_
    refine at_false 91 rfl (by rw [hk]; rfl) ?_
    refine run 400 rfl ?_
    refine at_if rfl (fun q2 => by rw [hk] at q2; cases q2) (fun _ => ?_)
    refine run 400 rfl ?_
    refine at_if rfl (fun q2 => by rw [hk] at q2; cases q2) (fun _ => ?_)
    refine run 400 rfl ?_
    refine at_if rfl (fun _ => ?_) (fun q2 => by rw [hk] at q2; cases q2)
    refine run 400 rfl ?_
    refine at_if rfl (fun _ => ?_) (fun q2 => absurd (by simpa using q2) hq)
    refine run 400 rfl ?_
    exact at_ret rfl rfl (rsO l res c r) ⟨rfl, rfl⟩ ⟨rfl, rfl, trivial⟩
  · refine contract_of ty_ok [3, 4, 5, 6, 7] Try.func60 rfl (by decide) Try.ntmps60 rfl fun z => ?_
    refine run 400 rfl ?_
    refine at_false 15 rfl (by rw [hk]; rfl) ?_
    refine run 400 rfl ?_
    refine at_ifd rfl (fun q2 => by omega) (fun _ => ?_)
    refine run 400 rfl ?_
    refine at_drawn 19 rfl rfl [(2, .no)] [20, 21, 22] rfl (by rw [hk]; rfl) ?_
    refine run 400 rfl ?_
    refine at_if rfl (fun q2 => by rw [hk] at q2; cases q2) (fun _ => ?_)
    refine run 400 rfl ?_
    refine at_if rfl (fun q2 => by rw [hk] at q2; cases q2) (fun _ => ?_)
    refine run 400 rfl ?_
    refine at_callF [0, 1] (ha) rfl ⟨rfl, rfl, trivial⟩ rfl rfl rfl ?_
    refine run 400 rfl ?_
    refine at_callF [0, 1] (at_no_fn l res c r m.b (by simpa using hb)) rfl ⟨rfl, rfl, trivial⟩ rfl rfl rfl ?_
    refine run 400 rfl ?_
    refine at_false 77 rfl (by rw [hk]; rfl) ?_
    refine run 400 rfl ?_
    refine at_false 82 rfl (by rw [hk]; rfl) ?_
    refine run 400 rfl ?_
    refine at_false 91 rfl (by rw [hk]; rfl) ?_
    refine run 400 rfl ?_
    refine at_if rfl (fun q2 => by rw [hk] at q2; cases q2) (fun _ => ?_)
    refine run 400 rfl ?_
    refine at_if rfl (fun q2 => by rw [hk] at q2; cases q2) (fun _ => ?_)
    refine run 400 rfl ?_
    refine at_if rfl (fun _ => ?_) (fun q2 => by rw [hk] at q2; cases q2)
    refine run 400 rfl ?_
    refine at_if rfl (fun _ => ?_) (fun q2 => absurd (by simpa using q2) hq)
    refine run 400 rfl ?_
    exact at_ret rfl rfl (rsO l res c r) ⟨rfl, rfl⟩ ⟨rfl, rfl, trivial⟩
theorem one_open (l res : List Tm) (c r : Nat) (m : Mv) (hk : m.k = 5) (h : inF m.a res.length = true) (hq : (res.getD m.a.toNat .zero).k = 6) (hn : 1 < (res.getD m.a.toNat .zero).kids.length) : Contract Try.prog 60 2 (rsO l res c r) [.ptr 0 0, m.sv] fun s post => s = .tup [((res.getD m.a.toNat .zero).kids.getD 1 .zero).sv, I 0] ∧ post = rsO l res c r := by
  have ha := at_yes_fn l res c r m.a h
  generalize res.getD m.a.toNat .zero = u at ha hq hn
  have hget := rowsT_get hn
  generalize u.kids.getD 1 .zero = v at hget
  by_cases hb : inF m.b res.length = true
  · refine contract_of ty_ok [3, 4, 5, 6, 7] Try.func60 rfl (by decide) Try.ntmps60 rfl fun z => ?_
    refine run 400 rfl ?_
    refine at_false 15 rfl (by rw [hk]; rfl) ?_
    refine run 400 rfl ?_
    refine at_ifd rfl (fun q2 => by omega) (fun _ => ?_)
    refine run 400 rfl ?_
    refine at_drawn 19 rfl rfl [(2, .no)] [20, 21, 22] rfl (by rw [hk]; rfl) ?_
    refine run 400 rfl ?_
    refine at_if rfl (fun q2 => by rw [hk] at q2; cases q2) (fun _ => ?_)
    refine run 400 rfl ?_
    refine at_if rfl (fun q2 => by rw [hk] at q2; cases q2) (fun _ => ?_)
    refine run 400 rfl ?_
    refine at_callF [0, 1] (ha) rfl ⟨rfl, rfl, trivial⟩ rfl rfl rfl ?_
    refine run 400 rfl ?_
    refine at_callF [0, 1] (at_yes_fn l res c r m.b hb) rfl ⟨rfl, rfl, trivial⟩ rfl rfl rfl ?_
    refine run 400 rfl ?_
    refine at_false 77 rfl (by rw [hk]; rfl) ?_
    refine run 400 rfl ?_
    refine at_false 82 rfl (by rw [hk]; rfl) ?_
    refine run 400 rfl ?_
    refine at_false 91 rfl (by rw [hk]; rfl) ?_
    refine run 400 rfl ?_
    refine at_if rfl (fun q2 => by rw [hk] at q2; cases q2) (fun _ => ?_)
    refine run 400 rfl ?_
    refine at_if rfl (fun q2 => by rw [hk] at q2; cases q2) (fun _ => ?_)
    refine run 400 rfl ?_
    refine at_if rfl (fun _ => ?_) (fun q2 => by rw [hk] at q2; cases q2)
    refine run 400 rfl ?_
    refine at_if rfl (fun q2 => absurd hq (by simpa using q2)) (fun _ => ?_)
    refine run 400 rfl ?_
    refine at_val (.rp (tr v) 0) (does_index ty_ok _ rfl rfl rfl (by omega) (show (rowsT u.kids)[(1 : Int).toNat]? = some (tr v) from hget) rfl) ?_
    refine run 400 rfl ?_
    exact at_ret rfl rfl (rsO l res c r) ⟨rfl, rfl⟩ ⟨rfl, rfl, trivial⟩
  · refine contract_of ty_ok [3, 4, 5, 6, 7] Try.func60 rfl (by decide) Try.ntmps60 rfl fun z => ?_
    refine run 400 rfl ?_
    refine at_false 15 rfl (by rw [hk]; rfl) ?_
    refine run 400 rfl ?_
    refine at_ifd rfl (fun q2 => by omega) (fun _ => ?_)
    refine run 400 rfl ?_
    refine at_drawn 19 rfl rfl [(2, .no)] [20, 21, 22] rfl (by rw [hk]; rfl) ?_
    refine run 400 rfl ?_
    refine at_if rfl (fun q2 => by rw [hk] at q2; cases q2) (fun _ => ?_)
    refine run 400 rfl ?_
    refine at_if rfl (fun q2 => by rw [hk] at q2; cases q2) (fun _ => ?_)
    refine run 400 rfl ?_
    refine at_callF [0, 1] (ha) rfl ⟨rfl, rfl, trivial⟩ rfl rfl rfl ?_
    refine run 400 rfl ?_
    refine at_callF [0, 1] (at_no_fn l res c r m.b (by simpa using hb)) rfl ⟨rfl, rfl, trivial⟩ rfl rfl rfl ?_
    refine run 400 rfl ?_
    refine at_false 77 rfl (by rw [hk]; rfl) ?_
    refine run 400 rfl ?_
    refine at_false 82 rfl (by rw [hk]; rfl) ?_
    refine run 400 rfl ?_
    refine at_false 91 rfl (by rw [hk]; rfl) ?_
    refine run 400 rfl ?_
    refine at_if rfl (fun q2 => by rw [hk] at q2; cases q2) (fun _ => ?_)
    refine run 400 rfl ?_
    refine at_if rfl (fun q2 => by rw [hk] at q2; cases q2) (fun _ => ?_)
    refine run 400 rfl ?_
    refine at_if rfl (fun _ => ?_) (fun q2 => by rw [hk] at q2; cases q2)
    refine run 400 rfl ?_
    refine at_if rfl (fun q2 => absurd hq (by simpa using q2)) (fun _ => ?_)
    refine run 400 rfl ?_
    refine at_val (.rp (tr v) 0) (does_index ty_ok _ rfl rfl rfl (by omega) (show (rowsT u.kids)[(1 : Int).toNat]? = some (tr v) from hget) rfl) ?_
    refine run 400 rfl ?_
    exact at_ret rfl rfl (rsO l res c r) ⟨rfl, rfl⟩ ⟨rfl, rfl, trivial⟩
theorem one_hash (l res : List Tm) (c r : Nat) (m : Mv) (hk : m.k = 6) (h : inF m.a res.length = true) : Contract Try.prog 60 2 (rsO l res c r) [.ptr 0 0, m.sv] fun s post => s = .tup [(Tm.mk 3 0 .empty [res.getD m.a.toNat .zero]).sv, I 0] ∧ post = rsO l res c r := by
  have ha := at_yes_fn l res c r m.a h
  generalize res.getD m.a.toNat .zero = u at ha
  by_cases hb : inF m.b res.length = true
  · refine contract_of ty_ok [3, 4, 5, 6, 7] Try.func60 rfl (by decide) Try.ntmps60 rfl fun z => ?_
    refine run 400 rfl ?_
    refine at_false 15 rfl (by rw [hk]; rfl) ?_
    refine run 400 rfl ?_
    refine at_ifd rfl (fun q2 => by omega) (fun _ => ?_)
    refine run 400 rfl ?_
    refine at_drawn 19 rfl rfl [(2, .no)] [20, 21, 22] rfl (by rw [hk]; rfl) ?_
    refine run 400 rfl ?_
    refine at_if rfl (fun q2 => by rw [hk] at q2; cases q2) (fun _ => ?_)
    refine run 400 rfl ?_
    refine at_if rfl (fun q2 => by rw [hk] at q2; cases q2) (fun _ => ?_)
    refine run 400 rfl ?_
    refine at_callF [0, 1] (ha) rfl ⟨rfl, rfl, trivial⟩ rfl rfl rfl ?_
    refine run 400 rfl ?_
    refine at_callF [0, 1] (at_yes_fn l res c r m.b hb) rfl ⟨rfl, rfl, trivial⟩ rfl rfl rfl ?_
    refine run 400 rfl ?_
    refine at_false 77 rfl (by rw [hk]; rfl) ?_
    refine run 400 rfl ?_
    refine at_false 82 rfl (by rw [hk]; rfl) ?_
    refine run 400 rfl ?_
    refine at_false 91 rfl (by rw [hk]; rfl) ?_
    refine run 400 rfl ?_
    refine at_if rfl (fun q2 => by rw [hk] at q2; cases q2) (fun _ => ?_)
    refine run 400 rfl ?_
    refine at_if rfl (fun q2 => by rw [hk] at q2; cases q2) (fun _ => ?_)
    refine run 400 rfl ?_
    refine at_if rfl (fun q2 => by rw [hk] at q2; cases q2) (fun _ => ?_)
    refine run 400 rfl ?_
    refine at_if rfl (fun _ => ?_) (fun q2 => by rw [hk] at q2; cases q2)
    refine run 400 rfl ?_
    refine at_gro (.tl 4 [tr u]) (doesG_build ty_ok _ rfl ⟨⟨rfl, rfl, _, rfl, SVles.refl _⟩, trivial⟩ rfl rfl (by decide)) ?_
    refine run 400 rfl ?_
    refine at_fn (T1_fn 3 u) rfl ?_
    refine run 400 rfl ?_
    exact at_ret rfl rfl (rsO l res c r) ⟨rfl, rfl⟩ ⟨rfl, rfl, trivial⟩
  · refine contract_of ty_ok [3, 4, 5, 6, 7] Try.func60 rfl (by decide) Try.ntmps60 rfl fun z => ?_
    refine run 400 rfl ?_
    refine at_false 15 rfl (by rw [hk]; rfl) ?_
    refine run 400 rfl ?_
    refine at_ifd rfl (fun q2 => by omega) (fun _ => ?_)
    refine run 400 rfl ?_
    refine at_drawn 19 rfl rfl [(2, .no)] [20, 21, 22] rfl (by rw [hk]; rfl) ?_
    refine run 400 rfl ?_
    refine at_if rfl (fun q2 => by rw [hk] at q2; cases q2) (fun _ => ?_)
    refine run 400 rfl ?_
    refine at_if rfl (fun q2 => by rw [hk] at q2; cases q2) (fun _ => ?_)
    refine run 400 rfl ?_
    refine at_callF [0, 1] (ha) rfl ⟨rfl, rfl, trivial⟩ rfl rfl rfl ?_
    refine run 400 rfl ?_
    refine at_callF [0, 1] (at_no_fn l res c r m.b (by simpa using hb)) rfl ⟨rfl, rfl, trivial⟩ rfl rfl rfl ?_
    refine run 400 rfl ?_
    refine at_false 77 rfl (by rw [hk]; rfl) ?_
    refine run 400 rfl ?_
    refine at_false 82 rfl (by rw [hk]; rfl) ?_
    refine run 400 rfl ?_
    refine at_false 91 rfl (by rw [hk]; rfl) ?_
    refine run 400 rfl ?_
    refine at_if rfl (fun q2 => by rw [hk] at q2; cases q2) (fun _ => ?_)
    refine run 400 rfl ?_
    refine at_if rfl (fun q2 => by rw [hk] at q2; cases q2) (fun _ => ?_)
    refine run 400 rfl ?_
    refine at_if rfl (fun q2 => by rw [hk] at q2; cases q2) (fun _ => ?_)
    refine run 400 rfl ?_
    refine at_if rfl (fun _ => ?_) (fun q2 => by rw [hk] at q2; cases q2)
    refine run 400 rfl ?_
    refine at_gro (.tl 4 [tr u]) (doesG_build ty_ok _ rfl ⟨⟨rfl, rfl, _, rfl, SVles.refl _⟩, trivial⟩ rfl rfl (by decide)) ?_
    refine run 400 rfl ?_
    refine at_fn (T1_fn 3 u) rfl ?_
    refine run 400 rfl ?_
    exact at_ret rfl rfl (rsO l res c r) ⟨rfl, rfl⟩ ⟨rfl, rfl, trivial⟩
theorem one_pub (l res : List Tm) (c r : Nat) (m : Mv) (hk : m.k = 7) (h : inF m.a res.length = true) : Contract Try.prog 60 2 (rsO l res c r) [.ptr 0 0, m.sv] fun s post => s = .tup [(Tm.mk 4 0 .empty [res.getD m.a.toNat .zero]).sv, I 0] ∧ post = rsO l res c r := by
  have ha := at_yes_fn l res c r m.a h
  generalize res.getD m.a.toNat .zero = u at ha
  by_cases hb : inF m.b res.length = true
  · refine contract_of ty_ok [3, 4, 5, 6, 7] Try.func60 rfl (by decide) Try.ntmps60 rfl fun z => ?_
    refine run 400 rfl ?_
    refine at_false 15 rfl (by rw [hk]; rfl) ?_
    refine run 400 rfl ?_
    refine at_ifd rfl (fun q2 => by omega) (fun _ => ?_)
    refine run 400 rfl ?_
    refine at_drawn 19 rfl rfl [(2, .no)] [20, 21, 22] rfl (by rw [hk]; rfl) ?_
    refine run 400 rfl ?_
    refine at_if rfl (fun q2 => by rw [hk] at q2; cases q2) (fun _ => ?_)
    refine run 400 rfl ?_
    refine at_if rfl (fun q2 => by rw [hk] at q2; cases q2) (fun _ => ?_)
    refine run 400 rfl ?_
    refine at_callF [0, 1] (ha) rfl ⟨rfl, rfl, trivial⟩ rfl rfl rfl ?_
    refine run 400 rfl ?_
    refine at_callF [0, 1] (at_yes_fn l res c r m.b hb) rfl ⟨rfl, rfl, trivial⟩ rfl rfl rfl ?_
    refine run 400 rfl ?_
    refine at_false 77 rfl (by rw [hk]; rfl) ?_
    refine run 400 rfl ?_
    refine at_false 82 rfl (by rw [hk]; rfl) ?_
    refine run 400 rfl ?_
    refine at_false 91 rfl (by rw [hk]; rfl) ?_
    refine run 400 rfl ?_
    refine at_if rfl (fun q2 => by rw [hk] at q2; cases q2) (fun _ => ?_)
    refine run 400 rfl ?_
    refine at_if rfl (fun q2 => by rw [hk] at q2; cases q2) (fun _ => ?_)
    refine run 400 rfl ?_
    refine at_if rfl (fun q2 => by rw [hk] at q2; cases q2) (fun _ => ?_)
    refine run 400 rfl ?_
    refine at_if rfl (fun q2 => by rw [hk] at q2; cases q2) (fun _ => ?_)
    refine run 400 rfl ?_
    refine at_if rfl (fun _ => ?_) (fun q2 => by rw [hk] at q2; cases q2)
    refine run 400 rfl ?_
    refine at_gro (.tl 4 [tr u]) (doesG_build ty_ok _ rfl ⟨⟨rfl, rfl, _, rfl, SVles.refl _⟩, trivial⟩ rfl rfl (by decide)) ?_
    refine run 400 rfl ?_
    refine at_fn (T1_fn 4 u) rfl ?_
    refine run 400 rfl ?_
    exact at_ret rfl rfl (rsO l res c r) ⟨rfl, rfl⟩ ⟨rfl, rfl, trivial⟩
  · refine contract_of ty_ok [3, 4, 5, 6, 7] Try.func60 rfl (by decide) Try.ntmps60 rfl fun z => ?_
    refine run 400 rfl ?_
    refine at_false 15 rfl (by rw [hk]; rfl) ?_
    refine run 400 rfl ?_
    refine at_ifd rfl (fun q2 => by omega) (fun _ => ?_)
    refine run 400 rfl ?_
    refine at_drawn 19 rfl rfl [(2, .no)] [20, 21, 22] rfl (by rw [hk]; rfl) ?_
    refine run 400 rfl ?_
    refine at_if rfl (fun q2 => by rw [hk] at q2; cases q2) (fun _ => ?_)
    refine run 400 rfl ?_
    refine at_if rfl (fun q2 => by rw [hk] at q2; cases q2) (fun _ => ?_)
    refine run 400 rfl ?_
    refine at_callF [0, 1] (ha) rfl ⟨rfl, rfl, trivial⟩ rfl rfl rfl ?_
    refine run 400 rfl ?_
    refine at_callF [0, 1] (at_no_fn l res c r m.b (by simpa using hb)) rfl ⟨rfl, rfl, trivial⟩ rfl rfl rfl ?_
    refine run 400 rfl ?_
    refine at_false 77 rfl (by rw [hk]; rfl) ?_
    refine run 400 rfl ?_
    refine at_false 82 rfl (by rw [hk]; rfl) ?_
    refine run 400 rfl ?_
    refine at_false 91 rfl (by rw [hk]; rfl) ?_
    refine run 400 rfl ?_
    refine at_if rfl (fun q2 => by rw [hk] at q2; cases q2) (fun _ => ?_)
    refine run 400 rfl ?_
    refine at_if rfl (fun q2 => by rw [hk] at q2; cases q2) (fun _ => ?_)
    refine run 400 rfl ?_
    refine at_if rfl (fun q2 => by rw [hk] at q2; cases q2) (fun _ => ?_)
    refine run 400 rfl ?_
    refine at_if rfl (fun q2 => by rw [hk] at q2; cases q2) (fun _ => ?_)
    refine run 400 rfl ?_
    refine at_if rfl (fun _ => ?_) (fun q2 => by rw [hk] at q2; cases q2)
    refine run 400 rfl ?_
    refine at_gro (.tl 4 [tr u]) (doesG_build ty_ok _ rfl ⟨⟨rfl, rfl, _, rfl, SVles.refl _⟩, trivial⟩ rfl rfl (by decide)) ?_
    refine run 400 rfl ?_
    refine at_fn (T1_fn 4 u) rfl ?_
    refine run 400 rfl ?_
    exact at_ret rfl rfl (rsO l res c r) ⟨rfl, rfl⟩ ⟨rfl, rfl, trivial⟩
theorem one_mac (l res : List Tm) (c r : Nat) (m : Mv) (hk : m.k = 8) (h : inF m.a res.length = true) (hb : inF m.b res.length = true) : Contract Try.prog 60 2 (rsO l res c r) [.ptr 0 0, m.sv] fun s post => s = .tup [(Tm.mk 5 0 .empty [res.getD m.a.toNat .zero, res.getD m.b.toNat .zero]).sv, I 0] ∧ post = rsO l res c r := by
  have ha := at_yes_fn l res c r m.a h
  have hc := at_yes_fn l res c r m.b hb
  generalize res.getD m.a.toNat .zero = u at ha
  generalize res.getD m.b.toNat .zero = v at hc
  refine contract_of ty_ok [3, 4, 5, 6, 7] Try.func60 rfl (by decide) Try.ntmps60 rfl fun z => ?_
  refine run 400 rfl ?_
  refine at_false 15 rfl (by rw [hk]; rfl) ?_
  refine run 400 rfl ?_
  refine at_ifd rfl (fun q2 => by omega) (fun _ => ?_)
  refine run 400 rfl ?_
  refine at_drawn 19 rfl rfl [(2, .no)] [20, 21, 22] rfl (by rw [hk]; rfl) ?_
  refine run 400 rfl ?_
  refine at_if rfl (fun q2 => by rw [hk] at q2; cases q2) (fun _ => ?_)
  refine run 400 rfl ?_
  refine at_if rfl (fun q2 => by rw [hk] at q2; cases q2) (fun _ => ?_)
  refine run 400 rfl ?_
  refine at_callF [0, 1] (ha) rfl ⟨rfl, rfl, trivial⟩ rfl rfl rfl ?_
  refine run 400 rfl ?_
  refine at_callF [0, 1] (hc) rfl ⟨rfl, rfl, trivial⟩ rfl rfl rfl ?_
  refine run 400 rfl ?_
  refine at_true 77 rfl (by rw [hk]; rfl) ?_
  refine run 400 rfl ?_
  refine at_if rfl (fun q2 => by rw [hk] at q2; cases q2) (fun _ => ?_)
  refine run 400 rfl ?_
  refine at_if rfl (fun q2 => by rw [hk] at q2; cases q2) (fun _ => ?_)
  refine run 400 rfl ?_
  refine at_if rfl (fun q2 => by rw [hk] at q2; cases q2) (fun _ => ?_)
  refine run 400 rfl ?_
  refine at_if rfl (fun q2 => by rw [hk] at q2; cases q2) (fun _ => ?_)
  refine run 400 rfl ?_
  refine at_if rfl (fun q2 => by rw [hk] at q2; cases q2) (fun _ => ?_)
  refine run 400 rfl ?_
  refine at_if rfl (fun _ => ?_) (fun q2 => by rw [hk] at q2; cases q2)
  refine run 400 rfl ?_
  refine at_gro (.tl 4 [tr u, tr v]) (doesG_build ty_ok _ rfl ⟨⟨rfl, rfl, _, rfl, SVles.refl _⟩, ⟨rfl, rfl, _, rfl, SVles.refl _⟩, trivial⟩ rfl rfl (by decide)) ?_
  refine run 400 rfl ?_
  refine at_fn (T2_fn 5 u v) rfl ?_
  refine run 400 rfl ?_
  exact at_ret rfl rfl (rsO l res c r) ⟨rfl, rfl⟩ ⟨rfl, rfl, trivial⟩
theorem one_mac_no (l res : List Tm) (c r : Nat) (m : Mv) (hk : m.k = 8) (h : inF m.a res.length = false) : Contract Try.prog 60 2 (rsO l res c r) [.ptr 0 0, m.sv] fun s post => s = .tup [zSV, I 8] ∧ post = rsO l res c r := by
  have ha := at_no_fn l res c r m.a h
  by_cases hb : inF m.b res.length = true
  · refine contract_of ty_ok [3, 4, 5, 6, 7] Try.func60 rfl (by decide) Try.ntmps60 rfl fun z => ?_
    refine run 400 rfl ?_
    refine at_false 15 rfl (by rw [hk]; rfl) ?_
    refine run 400 rfl ?_
    refine at_ifd rfl (fun q2 => by omega) (fun _ => ?_)
    refine run 400 rfl ?_
    refine at_drawn 19 rfl rfl [(2, .no)] [20, 21, 22] rfl (by rw [hk]; rfl) ?_
    refine run 400 rfl ?_
    refine at_if rfl (fun q2 => by rw [hk] at q2; cases q2) (fun _ => ?_)
    refine run 400 rfl ?_
    refine at_if rfl (fun q2 => by rw [hk] at q2; cases q2) (fun _ => ?_)
    refine run 400 rfl ?_
    refine at_callF [0, 1] (ha) rfl ⟨rfl, rfl, trivial⟩ rfl rfl rfl ?_
    refine run 400 rfl ?_
    refine at_callF [0, 1] (at_yes_fn l res c r m.b hb) rfl ⟨rfl, rfl, trivial⟩ rfl rfl rfl ?_
    refine run 400 rfl ?_
    refine at_true 77 rfl (by rw [hk]; rfl) ?_
    refine run 400 rfl ?_
    exact at_ret rfl rfl (rsO l res c r) ⟨rfl, rfl⟩ ⟨rfl, rfl, trivial⟩
  · refine contract_of ty_ok [3, 4, 5, 6, 7] Try.func60 rfl (by decide) Try.ntmps60 rfl fun z => ?_
    refine run 400 rfl ?_
    refine at_false 15 rfl (by rw [hk]; rfl) ?_
    refine run 400 rfl ?_
    refine at_ifd rfl (fun q2 => by omega) (fun _ => ?_)
    refine run 400 rfl ?_
    refine at_drawn 19 rfl rfl [(2, .no)] [20, 21, 22] rfl (by rw [hk]; rfl) ?_
    refine run 400 rfl ?_
    refine at_if rfl (fun q2 => by rw [hk] at q2; cases q2) (fun _ => ?_)
    refine run 400 rfl ?_
    refine at_if rfl (fun q2 => by rw [hk] at q2; cases q2) (fun _ => ?_)
    refine run 400 rfl ?_
    refine at_callF [0, 1] (ha) rfl ⟨rfl, rfl, trivial⟩ rfl rfl rfl ?_
    refine run 400 rfl ?_
    refine at_callF [0, 1] (at_no_fn l res c r m.b (by simpa using hb)) rfl ⟨rfl, rfl, trivial⟩ rfl rfl rfl ?_
    refine run 400 rfl ?_
    refine at_true 77 rfl (by rw [hk]; rfl) ?_
    refine run 400 rfl ?_
    exact at_ret rfl rfl (rsO l res c r) ⟨rfl, rfl⟩ ⟨rfl, rfl, trivial⟩
theorem one_mac_no2 (l res : List Tm) (c r : Nat) (m : Mv) (hk : m.k = 8) (h : inF m.a res.length = true) (hb : inF m.b res.length = false) : Contract Try.prog 60 2 (rsO l res c r) [.ptr 0 0, m.sv] fun s post => s = .tup [zSV, I 8] ∧ post = rsO l res c r := by
  have ha := at_yes_fn l res c r m.a h
  have hc := at_no_fn l res c r m.b hb
  generalize res.getD m.a.toNat .zero = u at ha
  refine contract_of ty_ok [3, 4, 5, 6, 7] Try.func60 rfl (by decide) Try.ntmps60 rfl fun z => ?_
  refine run 400 rfl ?_
  refine at_false 15 rfl (by rw [hk]; rfl) ?_
  refine run 400 rfl ?_
  refine at_ifd rfl (fun q2 => by omega) (fun _ => ?_)
  refine run 400 rfl ?_
  refine at_drawn 19 rfl rfl [(2, .no)] [20, 21, 22] rfl (by rw [hk]; rfl) ?_
  refine run 400 rfl ?_
  refine at_if rfl (fun q2 => by rw [hk] at q2; cases q2) (fun _ => ?_)
  refine run 400 rfl ?_
  refine at_if rfl (fun q2 => by rw [hk] at q2; cases q2) (fun _ => ?_)
  refine run 400 rfl ?_
  refine at_callF [0, 1] (ha) rfl ⟨rfl, rfl, trivial⟩ rfl rfl rfl ?_
  refine run 400 rfl ?_
  refine at_callF [0, 1] (hc) rfl ⟨rfl, rfl, trivial⟩ rfl rfl rfl ?_
  refine run 400 rfl ?_
  refine at_true 77 rfl (by rw [hk]; rfl) ?_
  refine run 400 rfl ?_
  exact at_ret rfl rfl (rsO l res c r) ⟨rfl, rfl⟩ ⟨rfl, rfl, trivial⟩
theorem one_sig (l res : List Tm) (c r : Nat) (m : Mv) (hk : m.k = 9) (h : inF m.a res.length = true) (hb : inF m.b res.length = true) : Contract Try.prog 60 2 (rsO l res c r) [.ptr 0 0, m.sv] fun s post => s = .tup [(Tm.mk 6 0 .empty [res.getD m.a.toNat .zero, res.getD m.b.toNat .zero]).sv, I 0] ∧ post = rsO l res c r := by
  have ha := at_yes_fn l res c r m.a h
  have hc := at_yes_fn l res c r m.b hb
  generalize res.getD m.a.toNat .zero = u at ha
  generalize res.getD m.b.toNat .zero = v at hc
  refine contract_of ty_ok [3, 4, 5, 6, 7] Try.func60 rfl (by decide) Try.ntmps60 rfl fun z => ?_
  refine run 400 rfl ?_
  refine at_false 15 rfl (by rw [hk]; rfl) ?_
  refine run 400 rfl ?_
  refine at_ifd rfl (fun q2 => by omega) (fun _ => ?_)
  refine run 400 rfl ?_
  refine at_drawn 19 rfl rfl [(2, .no)] [20, 21, 22] rfl (by rw [hk]; rfl) ?_
  refine run 400 rfl ?_
  refine at_if rfl (fun q2 => by rw [hk] at q2; cases q2) (fun _ => ?_)
  refine run 400 rfl ?_
  refine at_if rfl (fun q2 => by rw [hk] at q2; cases q2) (fun _ => ?_)
  refine run 400 rfl ?_
  refine at_callF [0, 1] (ha) rfl ⟨rfl, rfl, trivial⟩ rfl rfl rfl ?_
  refine run 400 rfl ?_
  refine at_callF [0, 1] (hc) rfl ⟨rfl, rfl, trivial⟩ rfl rfl rfl ?_
  refine run 400 rfl ?_
  refine at_false 77 rfl (by rw [hk]; rfl) ?_
  refine run 400 rfl ?_
  refine at_true 82 rfl (by rw [hk]; rfl) ?_
  refine run 400 rfl ?_
  refine at_if rfl (fun q2 => by rw [hk] at q2; cases q2) (fun _ => ?_)
  refine run 400 rfl ?_
  refine at_if rfl (fun q2 => by rw [hk] at q2; cases q2) (fun _ => ?_)
  refine run 400 rfl ?_
  refine at_if rfl (fun q2 => by rw [hk] at q2; cases q2) (fun _ => ?_)
  refine run 400 rfl ?_
  refine at_if rfl (fun q2 => by rw [hk] at q2; cases q2) (fun _ => ?_)
  refine run 400 rfl ?_
  refine at_if rfl (fun q2 => by rw [hk] at q2; cases q2) (fun _ => ?_)
  refine run 400 rfl ?_
  refine at_if rfl (fun q2 => by rw [hk] at q2; cases q2) (fun _ => ?_)
  refine run 400 rfl ?_
  refine at_if rfl (fun _ => ?_) (fun q2 => by rw [hk] at q2; cases q2)
  refine run 400 rfl ?_
  refine at_gro (.tl 4 [tr u, tr v]) (doesG_build ty_ok _ rfl ⟨⟨rfl, rfl, _, rfl, SVles.refl _⟩, ⟨rfl, rfl, _, rfl, SVles.refl _⟩, trivial⟩ rfl rfl (by decide)) ?_
  refine run 400 rfl ?_
  refine at_fn (T2_fn 6 u v) rfl ?_
  refine run 400 rfl ?_
  exact at_ret rfl rfl (rsO l res c r) ⟨rfl, rfl⟩ ⟨rfl, rfl, trivial⟩
theorem one_sig_no (l res : List Tm) (c r : Nat) (m : Mv) (hk : m.k = 9) (h : inF m.a res.length = false) : Contract Try.prog 60 2 (rsO l res c r) [.ptr 0 0, m.sv] fun s post => s = .tup [zSV, I 8] ∧ post = rsO l res c r := by
  have ha := at_no_fn l res c r m.a h
  by_cases hb : inF m.b res.length = true
  · refine contract_of ty_ok [3, 4, 5, 6, 7] Try.func60 rfl (by decide) Try.ntmps60 rfl fun z => ?_
    refine run 400 rfl ?_
    refine at_false 15 rfl (by rw [hk]; rfl) ?_
    refine run 400 rfl ?_
    refine at_ifd rfl (fun q2 => by omega) (fun _ => ?_)
    refine run 400 rfl ?_
    refine at_drawn 19 rfl rfl [(2, .no)] [20, 21, 22] rfl (by rw [hk]; rfl) ?_
    refine run 400 rfl ?_
    refine at_if rfl (fun q2 => by rw [hk] at q2; cases q2) (fun _ => ?_)
    refine run 400 rfl ?_
    refine at_if rfl (fun q2 => by rw [hk] at q2; cases q2) (fun _ => ?_)
    refine run 400 rfl ?_
    refine at_callF [0, 1] (ha) rfl ⟨rfl, rfl, trivial⟩ rfl rfl rfl ?_
    refine run 400 rfl ?_
    refine at_callF [0, 1] (at_yes_fn l res c r m.b hb) rfl ⟨rfl, rfl, trivial⟩ rfl rfl rfl ?_
    refine run 400 rfl ?_
    refine at_false 77 rfl (by rw [hk]; rfl) ?_
    refine run 400 rfl ?_
    refine at_true 82 rfl (by rw [hk]; rfl) ?_
    refine run 400 rfl ?_
    exact at_ret rfl rfl (rsO l res c r) ⟨rfl, rfl⟩ ⟨rfl, rfl, trivial⟩
  · refine contract_of ty_ok [3, 4, 5, 6, 7] Try.func60 rfl (by decide) Try.ntmps60 rfl fun z => ?_
    refine run 400 rfl ?_
    refine at_false 15 rfl (by rw [hk]; rfl) ?_
    refine run 400 rfl ?_
    refine at_ifd rfl (fun q2 => by omega) (fun _ => ?_)
    refine run 400 rfl ?_
    refine at_drawn 19 rfl rfl [(2, .no)] [20, 21, 22] rfl (by rw [hk]; rfl) ?_
    refine run 400 rfl ?_
    refine at_if rfl (fun q2 => by rw [hk] at q2; cases q2) (fun _ => ?_)
    refine run 400 rfl ?_
    refine at_if rfl (fun q2 => by rw [hk] at q2; cases q2) (fun _ => ?_)
    refine run 400 rfl ?_
    refine at_callF [0, 1] (ha) rfl ⟨rfl, rfl, trivial⟩ rfl rfl rfl ?_
    refine run 400 rfl ?_
    refine at_callF [0, 1] (at_no_fn l res c r m.b (by simpa using hb)) rfl ⟨rfl, rfl, trivial⟩ rfl rfl rfl ?_
    refine run 400 rfl ?_
    refine at_false 77 rfl (by rw [hk]; rfl) ?_
    refine run 400 rfl ?_
    refine at_true 82 rfl (by rw [hk]; rfl) ?_
    refine run 400 rfl ?_
    exact at_ret rfl rfl (rsO l res c r) ⟨rfl, rfl⟩ ⟨rfl, rfl, trivial⟩
theorem one_sig_no2 (l res : List Tm) (c r : Nat) (m : Mv) (hk : m.k = 9) (h : inF m.a res.length = true) (hb : inF m.b res.length = false) : Contract Try.prog 60 2 (rsO l res c r) [.ptr 0 0, m.sv] fun s post => s = .tup [zSV, I 8] ∧ post = rsO l res c r := by
  have ha := at_yes_fn l res c r m.a h
  have hc := at_no_fn l res c r m.b hb
  generalize res.getD m.a.toNat .zero = u at ha
  refine contract_of ty_ok [3, 4, 5, 6, 7] Try.func60 rfl (by decide) Try.ntmps60 rfl fun z => ?_
  refine run 400 rfl ?_
  refine at_false 15 rfl (by rw [hk]; rfl) ?_
  refine run 400 rfl ?_
  refine at_ifd rfl (fun q2 => by omega) (fun _ => ?_)
  refine run 400 rfl ?_
  refine at_drawn 19 rfl rfl [(2, .no)] [20, 21, 22] rfl (by rw [hk]; rfl) ?_
  refine run 400 rfl ?_
  refine at_if rfl (fun q2 => by rw [hk] at q2; cases q2) (fun _ => ?_)
  refine run 400 rfl ?_
  refine at_if rfl (fun q2 => by rw [hk] at q2; cases q2) (fun _ => ?_)
  refine run 400 rfl ?_
  refine at_callF [0, 1] (ha) rfl ⟨rfl, rfl, trivial⟩ rfl rfl rfl ?_
  refine run 400 rfl ?_
  refine at_callF [0, 1] (hc) rfl ⟨rfl, rfl, trivial⟩ rfl rfl rfl ?_
  refine run 400 rfl ?_
  refine at_false 77 rfl (by rw [hk]; rfl) ?_
  refine run 400 rfl ?_
  refine at_true 82 rfl (by rw [hk]; rfl) ?_
  refine run 400 rfl ?_
  exact at_ret rfl rfl (rsO l res c r) ⟨rfl, rfl⟩ ⟨rfl, rfl, trivial⟩
theorem one_pair (l res : List Tm) (c r : Nat) (m : Mv) (hk : m.k = 10) (h : inF m.a res.length = true) (hb : inF m.b res.length = true) : Contract Try.prog 60 2 (rsO l res c r) [.ptr 0 0, m.sv] fun s post => s = .tup [(Tm.mk 7 0 .empty [res.getD m.a.toNat .zero, res.getD m.b.toNat .zero]).sv, I 0] ∧ post = rsO l res c r := by
  have ha := at_yes_fn l res c r m.a h
  have hc := at_yes_fn l res c r m.b hb
  generalize res.getD m.a.toNat .zero = u at ha
  generalize res.getD m.b.toNat .zero = v at hc
  refine contract_of ty_ok [3, 4, 5, 6, 7] Try.func60 rfl (by decide) Try.ntmps60 rfl fun z => ?_
  refine run 400 rfl ?_
  refine at_false 15 rfl (by rw [hk]; rfl) ?_
  refine run 400 rfl ?_
  refine at_ifd rfl (fun q2 => by omega) (fun _ => ?_)
  refine run 400 rfl ?_
  refine at_drawn 19 rfl rfl [(2, .no)] [20, 21, 22] rfl (by rw [hk]; rfl) ?_
  refine run 400 rfl ?_
  refine at_if rfl (fun q2 => by rw [hk] at q2; cases q2) (fun _ => ?_)
  refine run 400 rfl ?_
  refine at_if rfl (fun q2 => by rw [hk] at q2; cases q2) (fun _ => ?_)
  refine run 400 rfl ?_
  refine at_callF [0, 1] (ha) rfl ⟨rfl, rfl, trivial⟩ rfl rfl rfl ?_
  refine run 400 rfl ?_
  refine at_callF [0, 1] (hc) rfl ⟨rfl, rfl, trivial⟩ rfl rfl rfl ?_
  refine run 400 rfl ?_
  refine at_false 77 rfl (by rw [hk]; rfl) ?_
  refine run 400 rfl ?_
  refine at_false 82 rfl (by rw [hk]; rfl) ?_
  refine run 400 rfl ?_
  refine at_true 91 rfl (by rw [hk]; rfl) ?_
  refine run 400 rfl ?_
  refine at_if rfl (fun q2 => by rw [hk] at q2; cases q2) (fun _ => ?_)
  refine run 400 rfl ?_
  refine at_if rfl (fun q2 => by rw [hk] at q2; cases q2) (fun _ => ?_)
  refine run 400 rfl ?_
  refine at_if rfl (fun q2 => by rw [hk] at q2; cases q2) (fun _ => ?_)
  refine run 400 rfl ?_
  refine at_if rfl (fun q2 => by rw [hk] at q2; cases q2) (fun _ => ?_)
  refine run 400 rfl ?_
  refine at_if rfl (fun q2 => by rw [hk] at q2; cases q2) (fun _ => ?_)
  refine run 400 rfl ?_
  refine at_if rfl (fun q2 => by rw [hk] at q2; cases q2) (fun _ => ?_)
  refine run 400 rfl ?_
  refine at_if rfl (fun q2 => by rw [hk] at q2; cases q2) (fun _ => ?_)
  refine run 400 rfl ?_
  refine at_gro (.tl 4 [tr u, tr v]) (doesG_build ty_ok _ rfl ⟨⟨rfl, rfl, _, rfl, SVles.refl _⟩, ⟨rfl, rfl, _, rfl, SVles.refl _⟩, trivial⟩ rfl rfl (by decide)) ?_
  refine run 400 rfl ?_
  refine at_fn (T2_fn 7 u v) rfl ?_
  refine run 400 rfl ?_
  exact at_ret rfl rfl (rsO l res c r) ⟨rfl, rfl⟩ ⟨rfl, rfl, trivial⟩
theorem one_pair_no (l res : List Tm) (c r : Nat) (m : Mv) (hk : m.k = 10) (h : inF m.a res.length = false) : Contract Try.prog 60 2 (rsO l res c r) [.ptr 0 0, m.sv] fun s post => s = .tup [zSV, I 8] ∧ post = rsO l res c r := by
  have ha := at_no_fn l res c r m.a h
  by_cases hb : inF m.b res.length = true
  · refine contract_of ty_ok [3, 4, 5, 6, 7] Try.func60 rfl (by decide) Try.ntmps60 rfl fun z => ?_
    refine run 400 rfl ?_
    refine at_false 15 rfl (by rw [hk]; rfl) ?_
    refine run 400 rfl ?_
    refine at_ifd rfl (fun q2 => by omega) (fun _ => ?_)
    refine run 400 rfl ?_
    refine at_drawn 19 rfl rfl [(2, .no)] [20, 21, 22] rfl (by rw [hk]; rfl) ?_
    refine run 400 rfl ?_
    refine at_if rfl (fun q2 => by rw [hk] at q2; cases q2) (fun _ => ?_)
    refine run 400 rfl ?_
    refine at_if rfl (fun q2 => by rw [hk] at q2; cases q2) (fun _ => ?_)
    refine run 400 rfl ?_
    refine at_callF [0, 1] (ha) rfl ⟨rfl, rfl, trivial⟩ rfl rfl rfl ?_
    refine run 400 rfl ?_
    refine at_callF [0, 1] (at_yes_fn l res c r m.b hb) rfl ⟨rfl, rfl, trivial⟩ rfl rfl rfl ?_
    refine run 400 rfl ?_
    refine at_false 77 rfl (by rw [hk]; rfl) ?_
    refine run 400 rfl ?_
    refine at_false 82 rfl (by rw [hk]; rfl) ?_
    refine run 400 rfl ?_
    refine at_true 10 rfl (by rw [hk]; rfl) ?_
    refine run 400 rfl ?_
    exact at_ret rfl rfl (rsO l res c r) ⟨rfl, rfl⟩ ⟨rfl, rfl, trivial⟩
  · refine contract_of ty_ok [3, 4, 5, 6, 7] Try.func60 rfl (by decide) Try.ntmps60 rfl fun z => ?_
    refine run 400 rfl ?_
    refine at_false 15 rfl (by rw [hk]; rfl) ?_
    refine run 400 rfl ?_
    refine at_ifd rfl (fun q2 => by omega) (fun _ => ?_)
    refine run 400 rfl ?_
    refine at_drawn 19 rfl rfl [(2, .no)] [20, 21, 22] rfl (by rw [hk]; rfl) ?_
    refine run 400 rfl ?_
    refine at_if rfl (fun q2 => by rw [hk] at q2; cases q2) (fun _ => ?_)
    refine run 400 rfl ?_
    refine at_if rfl (fun q2 => by rw [hk] at q2; cases q2) (fun _ => ?_)
    refine run 400 rfl ?_
    refine at_callF [0, 1] (ha) rfl ⟨rfl, rfl, trivial⟩ rfl rfl rfl ?_
    refine run 400 rfl ?_
    refine at_callF [0, 1] (at_no_fn l res c r m.b (by simpa using hb)) rfl ⟨rfl, rfl, trivial⟩ rfl rfl rfl ?_
    refine run 400 rfl ?_
    refine at_false 77 rfl (by rw [hk]; rfl) ?_
    refine run 400 rfl ?_
    refine at_false 82 rfl (by rw [hk]; rfl) ?_
    refine run 400 rfl ?_
    refine at_true 10 rfl (by rw [hk]; rfl) ?_
    refine run 400 rfl ?_
    exact at_ret rfl rfl (rsO l res c r) ⟨rfl, rfl⟩ ⟨rfl, rfl, trivial⟩
theorem one_pair_no2 (l res : List Tm) (c r : Nat) (m : Mv) (hk : m.k = 10) (h : inF m.a res.length = true) (hb : inF m.b res.length = false) : Contract Try.prog 60 2 (rsO l res c r) [.ptr 0 0, m.sv] fun s post => s = .tup [zSV, I 8] ∧ post = rsO l res c r := by
  have ha := at_yes_fn l res c r m.a h
  have hc := at_no_fn l res c r m.b hb
  generalize res.getD m.a.toNat .zero = u at ha
  refine contract_of ty_ok [3, 4, 5, 6, 7] Try.func60 rfl (by decide) Try.ntmps60 rfl fun z => ?_
  refine run 400 rfl ?_
  refine at_false 15 rfl (by rw [hk]; rfl) ?_
  refine run 400 rfl ?_
  refine at_ifd rfl (fun q2 => by omega) (fun _ => ?_)
  refine run 400 rfl ?_
  refine at_drawn 19 rfl rfl [(2, .no)] [20, 21, 22] rfl (by rw [hk]; rfl) ?_
  refine run 400 rfl ?_
  refine at_if rfl (fun q2 => by rw [hk] at q2; cases q2) (fun _ => ?_)
  refine run 400 rfl ?_
  refine at_if rfl (fun q2 => by rw [hk] at q2; cases q2) (fun _ => ?_)
  refine run 400 rfl ?_
  refine at_callF [0, 1] (ha) rfl ⟨rfl, rfl, trivial⟩ rfl rfl rfl ?_
  refine run 400 rfl ?_
  refine at_callF [0, 1] (hc) rfl ⟨rfl, rfl, trivial⟩ rfl rfl rfl ?_
  refine run 400 rfl ?_
  refine at_false 77 rfl (by rw [hk]; rfl) ?_
  refine run 400 rfl ?_
  refine at_false 82 rfl (by rw [hk]; rfl) ?_
  refine run 400 rfl ?_
  refine at_true 91 rfl (by rw [hk]; rfl) ?_
  refine run 400 rfl ?_
  exact at_ret rfl rfl (rsO l res c r) ⟨rfl, rfl⟩ ⟨rfl, rfl, trivial⟩
end Go.Proofs.Ytmnmhehddbemkaa
namespace Go.Proofs.Ytmnmhehddbemkaa
open Go Go.Eng
set_option maxRecDepth 100000

theorem one_fn (l res : List Tm) (c r : Nat) (m : Mv) (hr : ∀ x ∈ res, Gd x) : Contract Try.prog 60 2 (rsO l res c r) [.ptr 0 0, m.sv] fun s post => s = oneS (oneF l res m) ∧ post = rsO l res c r := by
  have hkid : ∀ (n : Int) (q : Int), inF n res.length = true → (res.getD n.toNat .zero).k = q → ((res.getD n.toNat .zero).kids.length : Int) = kidsF q := by
    intro n q hn hq
    have h0 := inF_lt hn
    have hm := getD_mem (l := res) (n := n.toNat) (by omega)
    have := hr _ hm
    generalize res.getD n.toNat .zero = u at this hq
    cases this with
    | mk h1 h2 => rw [← hq]; exact h1
  by_cases hb : m.k < 1 ∨ 10 < m.k
  · have e : oneF l res m = (none, 2) := by
      have : readF m = none := by
        unfold readF
        repeat rw [if_neg (by omega)]
      rw [oneF, this]
    rw [e]
    exact one_bad l res c r m hb
  have hk : m.k = 1 ∨ m.k = 2 ∨ m.k = 3 ∨ m.k = 4 ∨ m.k = 5 ∨ m.k = 6 ∨ m.k = 7 ∨ m.k = 8 ∨ m.k = 9 ∨ m.k = 10 := by omega
  rcases hk with hk | hk | hk | hk | hk | hk | hk | hk | hk | hk
  · have er : readF m = some (.given m.a) := by unfold readF; rw [if_pos hk]
    cases hn : inF m.a l.length with
    | true =>
      have e : oneF l res m = (some (l.getD m.a.toNat .zero), 0) := by rw [oneF, er]; simp [nearF, hn, stepT]
      rw [e]; exact one_known l res c r m hk hn
    | false =>
      have e : oneF l res m = (none, 8) := by rw [oneF, er]; simp [nearF, hn]
      rw [e]; exact one_known_no l res c r m hk hn
  · have er : readF m = some (.atom m.s) := by unfold readF; rw [if_neg (by omega), if_pos hk]
    have e : oneF l res m = (some (.mk 1 0 m.s []), 0) := by rw [oneF, er]; simp [nearF, stepT]
    rw [e]; exact one_atom l res c r m hk
  · have er : readF m = some (.half m.a 7 0) := by unfold readF; rw [if_neg (by omega), if_neg (by omega), if_pos hk]
    cases hn : inF m.a res.length with
    | true =>
      by_cases hq : (res.getD m.a.toNat .zero).k = 7
      · have hl : ((res.getD m.a.toNat .zero).kids.length : Int) = 2 := hkid _ _ hn hq
        have e : oneF l res m = (some ((res.getD m.a.toNat .zero).kids.getD 0 .zero), 0) := by
          rw [oneF, er]
          dsimp only
          rw [nearF, if_pos hn, stepT, if_pos ⟨hq, by omega⟩]
          rfl
        rw [e]; exact one_left l res c r m hk hn hq (by omega)
      · have e : oneF l res m = (none, 3) := by
          rw [oneF, er]
          dsimp only
          rw [nearF, if_pos hn, stepT, if_neg (fun h => hq h.1)]
        rw [e]; exact one_left_form l res c r m hk hn hq
    | false =>
      have e : oneF l res m = (none, 8) := by
        rw [oneF, er]
        dsimp only
        rw [nearF, hn, if_neg (by decide)]
      rw [e]; exact one_left_no l res c r m hk hn
  · have er : readF m = some (.half m.a 7 1) := by unfold readF; rw [if_neg (by omega), if_neg (by omega), if_neg (by omega), if_pos hk]
    cases hn : inF m.a res.length with
    | true =>
      by_cases hq : (res.getD m.a.toNat .zero).k = 7
      · have hl : ((res.getD m.a.toNat .zero).kids.length : Int) = 2 := hkid _ _ hn hq
        have e : oneF l res m = (some ((res.getD m.a.toNat .zero).kids.getD 1 .zero), 0) := by
          rw [oneF, er]
          dsimp only
          rw [nearF, if_pos hn, stepT, if_pos ⟨hq, by omega⟩]
          rfl
        rw [e]; exact one_right l res c r m hk hn hq (by omega)
      · have e : oneF l res m = (none, 3) := by
          rw [oneF, er]
          dsimp only
          rw [nearF, if_pos hn, stepT, if_neg (fun h => hq h.1)]
        rw [e]; exact one_right_form l res c r m hk hn hq
    | false =>
      have e : oneF l res m = (none, 8) := by
        rw [oneF, er]
        dsimp only
        rw [nearF, hn, if_neg (by decide)]
      rw [e]; exact one_right_no l res c r m hk hn
  · have er : readF m = some (.half m.a 6 1) := by unfold readF; rw [if_neg (by omega), if_neg (by omega), if_neg (by omega), if_neg (by omega), if_pos hk]
    cases hn : inF m.a res.length with
    | true =>
      by_cases hq : (res.getD m.a.toNat .zero).k = 6
      · have hl : ((res.getD m.a.toNat .zero).kids.length : Int) = 2 := hkid _ _ hn hq
        have e : oneF l res m = (some ((res.getD m.a.toNat .zero).kids.getD 1 .zero), 0) := by
          rw [oneF, er]
          dsimp only
          rw [nearF, if_pos hn, stepT, if_pos ⟨hq, by omega⟩]
          rfl
        rw [e]; exact one_open l res c r m hk hn hq (by omega)
      · have e : oneF l res m = (none, 3) := by
          rw [oneF, er]
          dsimp only
          rw [nearF, if_pos hn, stepT, if_neg (fun h => hq h.1)]
        rw [e]; exact one_open_form l res c r m hk hn hq
    | false =>
      have e : oneF l res m = (none, 8) := by
        rw [oneF, er]
        dsimp only
        rw [nearF, hn, if_neg (by decide)]
      rw [e]; exact one_open_no l res c r m hk hn
  · have er : readF m = some (.one 3 m.a) := by unfold readF; rw [if_neg (by omega), if_neg (by omega), if_neg (by omega), if_neg (by omega), if_neg (by omega), if_pos hk]
    cases hn : inF m.a res.length with
    | true =>
      have e : oneF l res m = (some (.mk 3 0 .empty [res.getD m.a.toNat .zero]), 0) := by
        rw [oneF, er]
        dsimp only
        rw [nearF, if_pos hn, stepT]
      rw [e]; exact one_hash l res c r m hk hn
    | false =>
      have e : oneF l res m = (none, 8) := by
        rw [oneF, er]
        dsimp only
        rw [nearF, hn, if_neg (by decide)]
      rw [e]; exact one_hash_no l res c r m hk hn
  · have er : readF m = some (.one 4 m.a) := by unfold readF; rw [if_neg (by omega), if_neg (by omega), if_neg (by omega), if_neg (by omega), if_neg (by omega), if_neg (by omega), if_pos hk]
    cases hn : inF m.a res.length with
    | true =>
      have e : oneF l res m = (some (.mk 4 0 .empty [res.getD m.a.toNat .zero]), 0) := by
        rw [oneF, er]
        dsimp only
        rw [nearF, if_pos hn, stepT]
      rw [e]; exact one_pub l res c r m hk hn
    | false =>
      have e : oneF l res m = (none, 8) := by
        rw [oneF, er]
        dsimp only
        rw [nearF, hn, if_neg (by decide)]
      rw [e]; exact one_pub_no l res c r m hk hn
  · have er : readF m = some (.two 5 m.a m.b) := by unfold readF; rw [if_neg (by omega), if_neg (by omega), if_neg (by omega), if_neg (by omega), if_neg (by omega), if_neg (by omega), if_neg (by omega), if_pos hk]
    cases hn : inF m.a res.length with
    | true =>
      cases hn2 : inF m.b res.length with
      | true =>
        have e : oneF l res m = (some (.mk 5 0 .empty [res.getD m.a.toNat .zero, res.getD m.b.toNat .zero]), 0) := by
          rw [oneF, er]
          dsimp only
          rw [nearF, hn, hn2, if_pos (by decide), stepT]
        rw [e]; exact one_mac l res c r m hk hn hn2
      | false =>
        have e : oneF l res m = (none, 8) := by
          rw [oneF, er]
          dsimp only
          rw [nearF, hn, hn2, if_neg (by decide)]
        rw [e]; exact one_mac_no2 l res c r m hk hn hn2
    | false =>
      have e : oneF l res m = (none, 8) := by
        rw [oneF, er]
        dsimp only
        rw [nearF, hn, Bool.false_and, if_neg (by decide)]
      rw [e]; exact one_mac_no l res c r m hk hn
  · have er : readF m = some (.two 6 m.a m.b) := by unfold readF; rw [if_neg (by omega), if_neg (by omega), if_neg (by omega), if_neg (by omega), if_neg (by omega), if_neg (by omega), if_neg (by omega), if_neg (by omega), if_pos hk]
    cases hn : inF m.a res.length with
    | true =>
      cases hn2 : inF m.b res.length with
      | true =>
        have e : oneF l res m = (some (.mk 6 0 .empty [res.getD m.a.toNat .zero, res.getD m.b.toNat .zero]), 0) := by
          rw [oneF, er]
          dsimp only
          rw [nearF, hn, hn2, if_pos (by decide), stepT]
        rw [e]; exact one_sig l res c r m hk hn hn2
      | false =>
        have e : oneF l res m = (none, 8) := by
          rw [oneF, er]
          dsimp only
          rw [nearF, hn, hn2, if_neg (by decide)]
        rw [e]; exact one_sig_no2 l res c r m hk hn hn2
    | false =>
      have e : oneF l res m = (none, 8) := by
        rw [oneF, er]
        dsimp only
        rw [nearF, hn, Bool.false_and, if_neg (by decide)]
      rw [e]; exact one_sig_no l res c r m hk hn
  · have er : readF m = some (.two 7 m.a m.b) := by unfold readF; rw [if_neg (by omega), if_neg (by omega), if_neg (by omega), if_neg (by omega), if_neg (by omega), if_neg (by omega), if_neg (by omega), if_neg (by omega), if_neg (by omega), if_pos hk]
    cases hn : inF m.a res.length with
    | true =>
      cases hn2 : inF m.b res.length with
      | true =>
        have e : oneF l res m = (some (.mk 7 0 .empty [res.getD m.a.toNat .zero, res.getD m.b.toNat .zero]), 0) := by
          rw [oneF, er]
          dsimp only
          rw [nearF, hn, hn2, if_pos (by decide), stepT]
        rw [e]; exact one_pair l res c r m hk hn hn2
      | false =>
        have e : oneF l res m = (none, 8) := by
          rw [oneF, er]
          dsimp only
          rw [nearF, hn, hn2, if_neg (by decide)]
        rw [e]; exact one_pair_no2 l res c r m hk hn hn2
    | false =>
      have e : oneF l res m = (none, 8) := by
        rw [oneF, er]
        dsimp only
        rw [nearF, hn, Bool.false_and, if_neg (by decide)]
      rw [e]; exact one_pair_no l res c r m hk hn

/-- The document's run. -/
def runR (l : List Tm) : List Mv → List Tm → List Tm × Int
  | [], acc => (acc, 0)
  | m :: ms, acc => match oneF l acc m with
    | (some t, _) => if mayF t then runR l ms (acc ++ [t]) else ([], 3)
    | (none, e) => ([], e)
theorem runR_eq (l : List Tm) : ∀ (ms : List Mv) (acc : List Tm), runR l ms acc = runG l ms acc
  | [], _ => by rw [runR, runG]
  | m :: ms, acc => by
    cases hr : readF m with
    | none => simp only [runR, runG, oneF, hr]
    | some s =>
      by_cases hn : nearF s acc.length l.length = true
      · cases hs : stepT l acc s with
        | none => simp only [runR, runG, oneF, hr, if_pos hn, doesF, hs]
        | some t =>
          cases hm : mayF t with
          | true => simp only [runR, runG, oneF, hr, if_pos hn, doesF, hs, hm, if_true]; exact runR_eq l ms _
          | false => simp [runR, runG, oneF, hr, hn, doesF, hs, hm]
      · simp [runR, runG, oneF, hr, hn]
end Go.Proofs.Ytmnmhehddbemkaa
namespace Go.Proofs.Ytmnmhehddbemkaa
open Go Go.Eng
set_option maxRecDepth 100000

abbrev z0 : Tm := .mk 0 0 .empty []
theorem row_z0 : ([.int .i64 0, .int .i64 0, .str .empty, .lst 4 []] : List DV) = tr z0 := by
  show _ = [DV.int .i64 0, .int .i64 0, .str .empty, .lst 4 (rowsT [])]
  rw [rowsT_nil]
theorem set_last {α : Type} (l : List α) (x y : α) : (l ++ [x]).set l.length y = l ++ [y] := by
  rw [List.set_append_right _ _ (Nat.le_refl _), Nat.sub_self]
  rfl

theorem rrun_fn (l : List Tm) (ms : List Mv) : Gives Try.prog 22 [.lst 4 (rowsT l), .lst 4 (rowsM ms)] (.tup [.lst 4 (rowsT (runF l ms).1), I (runF l ms).2]) := by
  refine GivesP.le (Post := fun s => ∃ a, s = .tup [a, I (runF l ms).2] ∧ SVle a (.lst 4 (rowsT (runF l ms).1))) ?_ (fun s h => by
    obtain ⟨a, rfl, h⟩ := h
    exact SVle.tup ⟨h, SVle.refl _, trivial⟩)
  have hml : (rowsM ms).length = ms.length := by simp
  refine contract_of ty_ok [0, 1, 2, 3, 4, 5, 6, 7] Try.func22 rfl (by decide) Try.ntmps22 rfl fun z => ?_
  refine run 400 rfl ?_
  refine at_ifd rfl (fun h => ?_) (fun h => ?_)
  · rw [hml] at h
    have e : runF l ms = ([], 7) := by unfold runF; rw [if_pos (by omega)]
    refine run 400 rfl ?_
    exact at_ret rfl rfl [] ⟨⟨_, by rw [e], by rw [e]; exact SVle.nils⟩, rfl, rfl⟩ trivial
  rw [hml] at h
  have e : runF l ms = runG l ms [] := by unfold runF; rw [if_neg (by omega)]
  rw [e]
  refine run 400 rfl ?_
  refine at_nilSI 0 1 1 rfl rfl rfl ?_
  refine at_loop (fun x : Nat × List Tm × Nat × Nat => x.1 ≤ ms.length ∧ x.2.1.length = x.1 ∧ runG l (ms.drop x.1) x.2.1 = runG l ms [] ∧ (∀ t ∈ x.2.1, Gd t) ∧ x.2.1.length ≤ x.2.2.1 ∧ x.2.1.length * 4 + x.2.2.2 = x.2.2.1 * 4)
    (fun x => [(0, .lst 4 (rowsT l)), (1, .lst 4 (rowsM ms)), (6, .ptr 0 0), (7, I x.1)]) (fun x => rsO l x.2.1 x.2.2.1 x.2.2.2) (fun x => ms.length - x.1) [2, 3, 4, 5, 6, 7, 8, 9]
    (0, [], 0, 0) ⟨by dsimp only; omega, rfl, rfl, by simp, by simp, by simp⟩ ⟨SVle.refl _, SVle.refl _, SVle.refl _, SVle.refl _, trivial⟩ ⟨rfl, by show some _ = some (SO.buf (rowsT []) 0); rw [rowsT_nil], trivial⟩ ?_
  rintro ⟨i, acc, c, r⟩ ⟨a1, a2, a3, a4, a5, a6⟩
  dsimp only at a1 a2 a3 a4 a5 a6
  refine run 400 rfl ?_
  refine at_ifd rfl (fun g => ?_) (fun g => ?_)
  rotate_left
  · dsimp only at g
    rw [hml] at g
    have : i = ms.length := by omega
    subst this
    rw [List.drop_length] at a3
    refine run 400 rfl ?_
    refine at_pubS 4 1 4 rfl rfl (rowsT_len acc).symm a5 rowsT_sz rfl ?_
    refine at_ret rfl rfl [] ⟨⟨.lst 4 (rowsT acc), by rw [← a3, runG], by rw [← a3, runG]; exact SVle.refl _⟩, rfl, rfl⟩ trivial
  dsimp only at g
  rw [hml] at g
  have hlt : i < ms.length := by omega
  have hget := rowsM_get hlt
  have hdr : ms.drop i = ms.getD i .zero :: ms.drop (i + 1) := by
    rw [List.drop_eq_getElem_cons hlt, List.getD_eq_getElem?_getD, List.getElem?_eq_getElem hlt]
    rfl
  rw [hdr] at a3
  generalize ms.getD i .zero = m at hget a3
  refine run 400 rfl ?_
  refine at_val (.rp (mr m) 0) (does_index ty_ok _ rfl rfl rfl (by omega) (show (rowsM ms)[(i : Int).toNat]? = some (mr m) from hget) rfl) ?_
  refine run 400 rfl ?_
  have hone := one_fn l acc c r m a4
  have hstep := runR_eq l (m :: ms.drop (i + 1)) acc
  rw [runR] at hstep
  rcases hr : oneF l acc m with ⟨ot, e1⟩
  rw [hr] at hone hstep
  cases ot with
  | none =>
    have hstep : ([], e1) = runG l (m :: ms.drop (i + 1)) acc := hstep
    refine at_callF [0, 1] hone rfl ⟨rfl, rfl, trivial⟩ rfl rfl rfl ?_
    have he : e1 ≠ 0 := by
      intro h0
      subst h0
      rw [oneF] at hr
      split at hr
      · cases hr
      · split at hr
        · split at hr <;> cases hr
        · cases hr
    refine run 400 rfl ?_
    refine at_false 33 rfl (by simpa using he) ?_
    refine run 400 rfl ?_
    refine at_if rfl (fun _ => ?_) (fun q => absurd (by simpa using q) he)
    refine run 400 rfl ?_
    exact at_ret rfl rfl [] ⟨⟨.tl 0 [], by rw [← a3, ← hstep]; rfl, by rw [← a3, ← hstep]; exact SVle.nils⟩, rfl, rfl⟩ trivial
  | some t =>
    have he : e1 = 0 := by
      rw [oneF] at hr
      split at hr
      · cases hr
      · split at hr
        · split at hr
          · cases hr; rfl
          · cases hr
        · cases hr
    subst he
    have hstep : (if mayF t then runR l (ms.drop (i + 1)) (acc ++ [t]) else ([], 3)) = runG l (m :: ms.drop (i + 1)) acc := hstep
    refine at_callF [0, 1] hone rfl ⟨rfl, rfl, trivial⟩ rfl rfl rfl ?_
    refine run 400 rfl ?_
    refine at_true 33 rfl rfl ?_
    refine run 400 rfl ?_
    refine at_fn (rmay_fn t) rfl ?_
    refine run 400 rfl ?_
    refine at_if rfl (fun q => ?_) (fun q => ?_)
    · have q : mayF t = false := by simpa using q
      rw [q, if_neg (by decide)] at hstep
      refine run 400 rfl ?_
      refine at_if rfl (fun _ => ?_) (fun q => by cases q)
      refine run 400 rfl ?_
      exact at_ret rfl rfl [] ⟨⟨.tl 0 [], by rw [← a3, ← hstep], by rw [← a3, ← hstep]; exact SVle.nils⟩, rfl, rfl⟩ trivial
    · have q : mayF t = true := by simpa using q
      rw [q, if_pos rfl, runR_eq] at hstep
      refine run 400 rfl ?_
      refine at_if rfl (fun q => by cases q) (fun _ => ?_)
      refine run 400 rfl ?_
      refine at_stages ?_
      refine at_stage 7 [] rfl rfl rfl rfl rfl [(6, .gro (.tl 4 [[.int .i64 0, .int .i64 0, .str .empty, .lst 4 []]]))] [10, 11, 12] rfl (by exact doesG_build ty_ok _ rfl ⟨⟨rfl, rfl, _, rfl, ⟨SVle.refl _, SVle.refl _, SVle.refl _, fun g H x h => SVle.tl 4 [] g H x (SVle.nil 4 g H x h), trivial⟩⟩, trivial⟩ rfl rfl (by decide)) ?_
      refine at_forced [21, 22] (fun y : Nat × Nat => acc.length + 1 ≤ y.1 ∧ (acc.length + 1) * 4 + y.2 = y.1 * 4) (fun y => [(0, .lst 4 (rowsT l)), (1, .lst 4 (rowsM ms)), (6, .ptr 0 0), (7, I i), (41, .ptr 0 0), (45, t.sv), (46, I acc.length), (48, .sl 20 0 (acc.length + 1) y.1)])
        (fun y => [(0, .cells 73 [.lst 4 (rowsT l), .sl 1 0 acc.length c]), (20, .buf (rowsT acc ++ [tr z0]) y.2)]) rfl rfl rfl rfl rfl ?_ ?_
      · refine at_appendS 1 20 4 ty_ok rfl rfl rfl rfl rfl rfl rfl (rowsT_len acc).symm rowsT_sz a6 a5 (by simp) rfl (by simp; omega) (by show _ * 56 ≤ _; simp; omega) rfl ?_
        intro c' r' h1 h2
        refine run 400 rfl ?_
        exact at_joined (c', r') ⟨h1, h2⟩ ⟨SVle.refl _, SVle.refl _, SVle.refl _, SVle.refl _, SVle.refl _, SVle.refl _, SVle.refl _, SVle.refl _, trivial⟩ ⟨rfl, by rw [← row_z0]; rfl, trivial⟩
      · rintro ⟨c', r'⟩ ⟨h1, h2⟩
        dsimp only at h1 h2 ⊢
        have hsz : ∀ q ∈ rowsT acc ++ [tr z0], q.length = 4 := by
          intro q hq
          rcases List.mem_append.1 hq with hq | hq
          · exact rowsT_sz q hq
          · rw [List.mem_singleton] at hq; subst hq; rfl
        have hset : (rowsT acc ++ [tr z0]).set acc.length (tr t) = rowsT (acc ++ [t]) := by
          rw [← rowsT_len acc, set_last, rowsT_app, rowsT_cons, rowsT_nil]
        refine at_stage 5 [0, 20] rfl rfl rfl rfl rfl [(8, .val (.ptr 20 (0 + (acc.length : Int).toNat * 4))), (9, .put 20 (.buf ((rowsT acc ++ [tr z0]).set acc.length (tr t)) r'))] [30] rfl
          ⟨doesWS_row (i := acc.length) (sz := 4) ty_ok (tr t) rfl rfl rfl (fun e => by cases e) rfl (by omega) hsz (by simp [rowsT_len]) rfl, does_indexS ty_ok rfl rfl rfl (by omega) rfl⟩ ?_
        refine at_stage_end [2, 3, 4, 5, 6, 7, 8, 9] rfl ?_
        refine at_swap 1 20 ?_
        refine run 400 rfl ?_
        have hgt : Gd t := mayF_gd q
        exact at_again (i + 1, acc ++ [t], c', r') ⟨by dsimp only; omega, by simp [a2], by dsimp only; rw [hstep, a3], by
            intro x hx
            dsimp only at hx
            rcases List.mem_append.1 hx with hx | hx
            · exact a4 x hx
            · rw [List.mem_singleton] at hx; subst hx; exact hgt, by dsimp only; rw [List.length_append]; exact h1, by dsimp only; rw [List.length_append]; exact h2⟩ (by dsimp only; omega)
          ⟨SVle.refl _, SVle.refl _, SVle.refl _, SVle.of_eq (by show I ((i : Int) + 1) = I ((i + 1 : Nat) : Int); rw [Int.natCast_add]; rfl), trivial⟩
          ⟨by show some _ = some (SO.cells 73 [.lst 4 (rowsT l), .sl 1 0 (acc ++ [t]).length c']); rw [List.length_append]; rfl, by dsimp only; rw [← hset]; rfl, trivial⟩
end Go.Proofs.Ytmnmhehddbemkaa
namespace Go.Proofs.Ytmnmhehddbemkaa
open Go Go.Eng
set_option maxRecDepth 100000

theorem all_fn (l : List Tm) (h : ∀ x ∈ l, Sm x) (hl : l.length ≤ 10000000) : Gives Try.prog 24 [.lst 4 (rowsT l), .lst 4 (rowsT l)] .tt := by
  have hlen := rowsT_len l
  refine contract_of ty_ok [0, 1, 2, 3, 4, 5, 6, 7] Try.func24 rfl (by decide) Try.ntmps24 rfl fun z => ?_
  refine run 400 rfl ?_
  refine at_if rfl (fun q => by simp at q) (fun _ => ?_)
  refine run 400 rfl ?_
  refine at_loop (fun i : Nat => i ≤ l.length) (fun i => [(0, .lst 4 (rowsT l)), (1, .lst 4 (rowsT l)), (5, I i)]) (fun _ => []) (fun i => l.length - i) [0, 1, 2, 3, 4, 5, 6, 7]
    0 (by omega) ⟨SVle.refl _, SVle.refl _, SVle.refl _, trivial⟩ trivial ?_
  intro i hi
  refine run 400 rfl ?_
  refine at_ifd rfl (fun g => ?_) (fun g => ?_)
  rotate_left
  · refine run 400 rfl ?_
    exact at_ret rfl rfl [] ⟨rfl, rfl, rfl⟩ trivial
  rw [hlen] at g
  have hlt : i < l.length := by omega
  have hget := rowsT_get hlt
  have hmem := getD_mem hlt
  generalize l.getD i .zero = u at hget hmem
  refine run 400 rfl ?_
  refine at_drawn 10 rfl rfl [(2, .val (.rp (tr u) 0)), (6, .val (.rp (tr u) 0)), (8, .sv (.bl (same u u)))] [20, 21, 22] rfl
    ⟨same_fn u u (h u hmem), does_index ty_ok _ rfl rfl rfl (by omega) (show (rowsT l)[(i : Int).toNat]? = some (tr u) from hget) rfl, does_index ty_ok _ rfl rfl rfl (by omega) (show (rowsT l)[(i : Int).toNat]? = some (tr u) from hget) rfl⟩ ?_
  refine run 400 rfl ?_
  refine at_if rfl (fun q => by rw [same_iff.2 rfl] at q; cases q) (fun _ => ?_)
  refine run 400 rfl ?_
  exact at_again (i + 1) (by omega) (by omega) ⟨SVle.refl _, SVle.refl _, SVle.of_eq (by show I ((i : Int) + 1) = I ((i + 1 : Nat) : Int); rw [Int.natCast_add]; rfl), trivial⟩ trivial

theorem runF_bnd (l : List Tm) (ms : List Mv) : (runF l ms).1.length ≤ 1024 := by
  by_cases h : (runF l ms).2 = 0
  · rw [runF_len l ms h]
    by_cases h2 : 1024 < ms.length
    · unfold runF at h; rw [if_pos h2] at h; cases h
    · omega
  · rw [runF_err l ms h]; simp
def provesF (l : List Tm) (ms : List Mv) (t : Tm) : Bool := ((runF l ms).2 == 0) && decide (0 < (runF l ms).1.length) && same ((runF l ms).1.getD ((runF l ms).1.length - 1) .zero) t

theorem proves_fn (l : List Tm) (ms : List Mv) (t : Tm) (hl : l.length ≤ 1000000) : Gives Try.prog 25 [.lst 4 (rowsT l), .lst 4 (rowsM ms), t.sv] (.bl (provesF l ms t)) := by
  have hR := run_fn l ms hl
  have hsm := runF_sm l ms
  unfold provesF
  have hlen := rowsT_len (runF l ms).1
  have hbd := runF_bnd l ms
  generalize runF l ms = R at hR hsm hlen hbd
  obtain ⟨out, e⟩ := R
  dsimp only at hR hsm hlen hbd ⊢
  by_cases he : e = 0
  · by_cases h0 : 0 < out.length
    · have hlt : out.length - 1 < out.length := by omega
      have hget := rowsT_get hlt
      have hmem := getD_mem hlt
      have hS := tsame_fn (out.getD (out.length - 1) .zero) t (hsm _ hmem)
      generalize out.getD (out.length - 1) .zero = u at hget hmem hS
      have hb : ((e == 0) && decide (0 < out.length) && same u t) = same u t := by simp [he, h0]
      rw [hb]
      refine contract_of ty_ok [0, 1, 2, 3, 4, 5, 6, 7] Try.func25 rfl (by decide) Try.ntmps25 rfl fun z => ?_
      refine run 400 rfl ?_
      refine at_fn hR rfl ?_
      refine run 400 rfl ?_
      refine at_drawn 18 rfl rfl [(1, .yes), (5, .yes), (12, .val (.rp (tr u) 0)), (15, .sv (.bl (same u t)))] [20, 21, 22] rfl
        ⟨hS, does_index ty_ok _ rfl rfl rfl (by omega) (show (rowsT out)[(((rowsT out).length : Int) - 1).toNat]? = some (tr u) by rw [hlen, show ((out.length : Int) - 1).toNat = out.length - 1 by omega]; exact hget) rfl, by simp only [inR]; omega, by simp; omega, by show (e == 0) = true; simp [he]⟩ ?_
      refine run 400 rfl ?_
      exact at_ret rfl rfl [] ⟨rfl, rfl, rfl⟩ trivial
    · have hb : ((e == 0) && decide (0 < out.length) && same (out.getD (out.length - 1) .zero) t) = false := by simp [h0]
      rw [hb]
      refine Gives.le (a := .ff) ?_ (SVle.ff rfl)
      refine contract_of ty_ok [0, 1, 2, 3, 4, 5, 6, 7] Try.func25 rfl (by decide) Try.ntmps25 rfl fun z => ?_
      refine run 400 rfl ?_
      refine at_fn hR rfl ?_
      refine run 400 rfl ?_
      refine at_drawn 18 rfl rfl [(1, .yes), (5, .no)] [20, 21, 22] rfl ⟨by show decide ((0 : Int) < ((rowsT out).length : Int)) = false; rw [hlen, decide_eq_false_iff_not]; omega, by show (e == 0) = true; simp [he]⟩ ?_
      refine run 400 rfl ?_
      exact at_ret rfl rfl [] ⟨rfl, rfl, rfl⟩ trivial
  · have hb : ((e == 0) && decide (0 < out.length) && same (out.getD (out.length - 1) .zero) t) = false := by simp [he]
    rw [hb]
    refine Gives.le (a := .ff) ?_ (SVle.ff rfl)
    refine contract_of ty_ok [0, 1, 2, 3, 4, 5, 6, 7] Try.func25 rfl (by decide) Try.ntmps25 rfl fun z => ?_
    refine run 400 rfl ?_
    refine at_fn hR rfl ?_
    refine run 400 rfl ?_
    refine at_drawn 18 rfl rfl [(1, .no)] [20, 21, 22] rfl (by show (e == 0) = false; simp [he]) ?_
    refine run 400 rfl ?_
    exact at_ret rfl rfl [] ⟨rfl, rfl, rfl⟩ trivial
theorem rproves_fn (l : List Tm) (ms : List Mv) (t : Tm) : Gives Try.prog 26 [.lst 4 (rowsT l), .lst 4 (rowsM ms), t.sv] (.bl (provesF l ms t)) := by
  have hR := rrun_fn l ms
  have hsm := runF_sm l ms
  unfold provesF
  have hlen := rowsT_len (runF l ms).1
  have hbd := runF_bnd l ms
  generalize runF l ms = R at hR hsm hlen hbd
  obtain ⟨out, e⟩ := R
  dsimp only at hR hsm hlen hbd ⊢
  by_cases he : e = 0
  · by_cases h0 : 0 < out.length
    · have hlt : out.length - 1 < out.length := by omega
      have hget := rowsT_get hlt
      have hmem := getD_mem hlt
      have hS := same_fn (out.getD (out.length - 1) .zero) t (hsm _ hmem)
      generalize out.getD (out.length - 1) .zero = u at hget hmem hS
      have hb : ((e == 0) && decide (0 < out.length) && same u t) = same u t := by simp [he, h0]
      rw [hb]
      refine contract_of ty_ok [0, 1, 2, 3, 4, 5, 6, 7] Try.func26 rfl (by decide) Try.ntmps26 rfl fun z => ?_
      refine run 400 rfl ?_
      refine at_fn hR rfl ?_
      refine run 400 rfl ?_
      refine at_drawn 18 rfl rfl [(1, .yes), (5, .yes), (12, .val (.rp (tr u) 0)), (15, .sv (.bl (same u t)))] [20, 21, 22] rfl
        ⟨hS, does_index ty_ok _ rfl rfl rfl (by omega) (show (rowsT out)[(((rowsT out).length : Int) - 1).toNat]? = some (tr u) by rw [hlen, show ((out.length : Int) - 1).toNat = out.length - 1 by omega]; exact hget) rfl, by simp only [inR]; omega, by simp; omega, by show (e == 0) = true; simp [he]⟩ ?_
      refine run 400 rfl ?_
      exact at_ret rfl rfl [] ⟨rfl, rfl, rfl⟩ trivial
    · have hb : ((e == 0) && decide (0 < out.length) && same (out.getD (out.length - 1) .zero) t) = false := by simp [h0]
      rw [hb]
      refine Gives.le (a := .ff) ?_ (SVle.ff rfl)
      refine contract_of ty_ok [0, 1, 2, 3, 4, 5, 6, 7] Try.func26 rfl (by decide) Try.ntmps26 rfl fun z => ?_
      refine run 400 rfl ?_
      refine at_fn hR rfl ?_
      refine run 400 rfl ?_
      refine at_drawn 18 rfl rfl [(1, .yes), (5, .no)] [20, 21, 22] rfl ⟨by show decide ((0 : Int) < ((rowsT out).length : Int)) = false; rw [hlen, decide_eq_false_iff_not]; omega, by show (e == 0) = true; simp [he]⟩ ?_
      refine run 400 rfl ?_
      exact at_ret rfl rfl [] ⟨rfl, rfl, rfl⟩ trivial
  · have hb : ((e == 0) && decide (0 < out.length) && same (out.getD (out.length - 1) .zero) t) = false := by simp [he]
    rw [hb]
    refine Gives.le (a := .ff) ?_ (SVle.ff rfl)
    refine contract_of ty_ok [0, 1, 2, 3, 4, 5, 6, 7] Try.func26 rfl (by decide) Try.ntmps26 rfl fun z => ?_
    refine run 400 rfl ?_
    refine at_fn hR rfl ?_
    refine run 400 rfl ?_
    refine at_drawn 18 rfl rfl [(1, .no)] [20, 21, 22] rfl (by show (e == 0) = false; simp [he]) ?_
    refine run 400 rfl ?_
    exact at_ret rfl rfl [] ⟨rfl, rfl, rfl⟩ trivial

theorem oneT_fn (ks : List Int) (hl : ks.length ≤ 9223372036854775807) : Gives Try.prog 23 [.lst 1 (ints ks)] (genT ks 4 0).1.sv := by
  refine contract_of ty_ok [0, 1, 2, 3, 4, 5, 6, 7] Try.func23 rfl (by decide) Try.ntmps23 rfl fun z => ?_
  refine run 400 rfl ?_
  refine at_metF 1 (term_fn ks hl 4 (by omega) 0 (by omega) (by omega)) rfl rfl rfl ?_
  refine run 400 rfl ?_
  exact at_ret rfl rfl [] ⟨rfl, rfl, rfl⟩ trivial
end Go.Proofs.Ytmnmhehddbemkaa
namespace Go.Proofs.Ytmnmhehddbemkaa
open Go Go.Eng
set_option maxRecDepth 100000

theorem has_self (a : Tm) : hasT a a = true := by
  cases a
  rw [hasT, same_iff.2 rfl, Bool.true_or]
theorem ints_gt {l : List Int} {i : Nat} {u : Int} (h : l[i]? = some u) : (ints l)[((i : Int)).toNat]? = some [.int .i64 u] := ints_at' h

theorem termParts_fn (ns ms : List Int) (h1 : ns.length ≤ 9223372036854775807) (h2 : ms.length ≤ 9223372036854775807) : Gives Try.prog 12 [.lst 1 (ints ns), .lst 1 (ints ms)] .tt := by
  have hA := oneT_fn ns h1
  have hB := oneT_fn ms h2
  obtain ⟨ga, sa⟩ := genT_gd ns 4 0 (by omega)
  obtain ⟨gb, sb⟩ := genT_gd ms 4 0 (by omega)
  generalize (genT ns 4 0).1 = a at hA ga sa
  generalize (genT ms 4 0).1 = b at hB gb sb
  have ha := ga.sm
  have hb := gb.sm
  have hN := nonces_fn a ha (by omega)
  have hR := rnon_fn a ha (by omega)
  have hln := rnonT_len a
  generalize rnonT a = L at hN hR hln
  have hll := ints_len L
  have hsT : Sm (Tm.mk 7 0 .empty [b, a]) := .mk (by simp) (by intro t ht; simp at ht; rcases ht with rfl | rfl; exact hb; exact ha)
  have hP : Gives Try.prog 49 [(Tm.mk 7 0 .empty [b, a]).sv, a.sv] .tt := gives_is (c := true) (has_fn (.mk 7 0 .empty [b, a]) a hsT) (by
    rw [hasT, hasL, hasL, has_self a]; simp)
  refine contract_of ty_ok [0, 1, 2, 3, 4, 5, 6, 7] Try.func12 rfl (by decide) Try.ntmps12 rfl fun z => ?_
  refine run 400 rfl ?_
  refine at_fn known37_fn rfl ?_
  refine run 400 rfl ?_
  refine at_fn hA rfl ?_
  refine run 400 rfl ?_
  refine at_fn hB rfl ?_
  refine run 400 rfl ?_
  refine at_drawn 4 rfl rfl [(1, .sv (.tl 1 (ints L))), (3, .sv (.lst 1 (ints L)))] [20, 21, 22] rfl ⟨hR, hN⟩ ?_
  refine run 400 rfl ?_
  refine at_if rfl (fun q => by simp at q) (fun _ => ?_)
  refine run 400 rfl ?_
  refine at_loop (fun i : Nat => i ≤ L.length) (fun i => [(5, .ptr 0 0), (6, .ptr 1 0), (7, .lst 1 (ints L)), (8, .lst 1 (ints L)), (9, I i)]) (fun _ => [(0, own33 a), (1, own33 b)]) (fun i => L.length - i) [2, 3, 4, 5, 6, 7]
    0 (by omega) ⟨SVle.refl _, SVle.refl _, SVle.tl _ _, SVle.refl _, SVle.refl _, trivial⟩ ⟨rfl, rfl, trivial⟩ ?_
  intro i hi
  refine run 400 rfl ?_
  refine at_ifd rfl (fun g => ?_) (fun g => ?_)
  · rw [hll] at g
    have hlt : i < L.length := by omega
    obtain ⟨u, hu⟩ : ∃ u, L[i]? = some u := ⟨_, List.getElem?_eq_getElem hlt⟩
    have hget := ints_gt hu
    refine run 400 rfl ?_
    refine at_drawn 9 rfl rfl [(2, .val (.rp [.int .i64 u] 0)), (6, .val (.rp [.int .i64 u] 0))] [20, 21, 22] rfl
      ⟨does_index ty_ok _ rfl rfl rfl (by omega) hget rfl, does_index ty_ok _ rfl rfl rfl (by omega) hget rfl⟩ ?_
    refine run 400 rfl ?_
    refine at_if rfl (fun q => by simp at q) (fun _ => ?_)
    refine run 400 rfl ?_
    exact at_again (i + 1) (by omega) (by omega) ⟨SVle.refl _, SVle.refl _, SVle.refl _, SVle.refl _, SVle.of_eq (by show I ((i : Int) + 1) = I ((i + 1 : Nat) : Int); rw [Int.natCast_add]; rfl), trivial⟩ ⟨rfl, rfl, trivial⟩
  refine run 400 rfl ?_
  refine at_drawn 40 rfl rfl [(1, .sv (I (szT a))), (3, .sv (I (szT a))), (5, .yes), (8, .sv (.bl (same a b))), (11, .sv (.bl (same a b))), (14, .yes), (17, .sv (.bl (decide (ordT a b < 0)))), (20, .sv (.bl (decide (ordT a b < 0)))), (23, .yes), (26, .sv (.bl (hasT b a))), (29, .sv (.bl (hasT b a))), (32, .yes), (35, .gro (.tl 4 [tr b, tr a])), (36, .sv (Tm.mk 7 0 .empty [b, a]).sv), (38, .sv .tt)] [20, 21, 22] rfl
    ⟨hP, T2_fn 7 b a, doesG_build ty_ok _ rfl ⟨⟨rfl, rfl, _, rfl, SVles.refl _⟩, ⟨rfl, rfl, _, rfl, SVles.refl _⟩, trivial⟩ rfl rfl (by decide), by simp, rhas_fn b a ha, has_fn a b ha, by simp, less_fn a b ha, tless_fn a b ha, by simp, same_fn a b ha, tsame_fn a b ha, by simp, rsize_fn a ha (by omega), size_fn a ha (by omega)⟩ ?_
  refine run 400 rfl ?_
  exact at_ret rfl rfl [] ⟨rfl, rfl, rfl⟩ trivial
end Go.Proofs.Ytmnmhehddbemkaa
namespace Go.Proofs.Ytmnmhehddbemkaa
open Go Go.Eng

set_option maxRecDepth 100000 in
theorem termsG_fn (ns : List Int) (most : Nat) (hl : ns.length ≤ 9223372036854775807) (hm : most ≤ 1000) : Contract Try.prog 17 0 [] [.lst 1 (ints ns), I most] fun s post => s = .gl 0 4 (rowsT (genL ns most 0)) ∧ post = [(0, .tok 4)] := by
  refine contract_of ty_ok [5, 1, 2, 3, 4, 6, 7] Try.func17 rfl (by decide) Try.ntmps17 rfl fun z => ?_
  refine run 400 rfl ?_
  refine at_name 6 0 4 rfl (.inr rfl) ?_
  refine at_loop (fun x : List Tm × Nat × Int => x.2.1 ≤ most ∧ x.1.length = x.2.1 ∧ 0 ≤ x.2.2 ∧ x.2.2 ≤ ns.length ∧ x.1 ++ genL ns (most - x.2.1) x.2.2 = genL ns most 0)
    (fun x => [(1, I most), (5, .ptr 5 0), (6, .gl 0 4 (rowsT x.1)), (7, I x.2.1)]) (fun x => [(5, tape ns x.2.2), (0, .tok 4)]) (fun x => most - x.2.1) [1, 2, 3, 4, 6, 7]
    ([], 0, 0) ⟨by simp, rfl, by simp, by simp, by simp⟩ ⟨SVle.refl _, SVle.refl _, SVle.of_eq (by show SV.gl 0 4 [] = SV.gl 0 4 (rowsT []); rw [rowsT_nil]), SVle.refl _, trivial⟩ ⟨rfl, rfl, trivial⟩ ?_
  rintro ⟨acc, i, j⟩ ⟨a1, a2, a3, a4, a5⟩
  dsimp only at a1 a2 a3 a4 a5
  refine run 400 rfl ?_
  refine at_split 14 rfl (fun h => ?_) (fun h => ?_)
  rotate_left
  · rw [decide_eq_false_iff_not] at h
    dsimp only at h
    have e : most - i = 0 := by omega
    rw [e, genL, List.append_nil] at a5
    refine run 400 rfl ?_
    exact at_ret rfl rfl [(0, .tok 4)] ⟨by rw [← a5], rfl⟩ ⟨rfl, trivial⟩
  rw [decide_eq_true_eq] at h
  dsimp only at h
  refine run 400 rfl ?_
  refine at_metF 5 (more_fn ns j) rfl rfl rfl ?_
  refine run 400 rfl ?_
  obtain ⟨q, hq⟩ : ∃ q, most - i = q + 1 := ⟨most - i - 1, by omega⟩
  rw [hq, genL] at a5
  refine at_ifd rfl (fun h2 => ?_) (fun h2 => ?_)
  rotate_left
  · rw [if_neg h2, List.append_nil] at a5
    refine run 400 rfl ?_
    exact at_ret rfl rfl [(0, .tok 4)] ⟨by rw [← a5], rfl⟩ ⟨rfl, trivial⟩
  rw [if_pos h2] at a5
  have ht := term_fn ns hl 3 (by omega) j a3 a4
  have ht2 := genT_le ns 3 j ⟨a3, a4⟩
  generalize genT ns 3 j = u at ht ht2 a5
  obtain ⟨u, j'⟩ := u
  dsimp only at ht ht2 a5
  have hlen : (rowsT acc).length = acc.length := rowsT_len acc
  refine run 400 rfl ?_
  refine at_metF 5 ht rfl rfl rfl ?_
  refine run 400 rfl ?_
  refine at_gro (.tl 4 [tr u]) (doesG_build ty_ok _ rfl ⟨⟨rfl, rfl, _, rfl, SVles.refl _⟩, trivial⟩ rfl rfl (by decide)) ?_
  refine at_grow 0 0 4 (rowsT acc ++ [tr u]) rfl (doesU_append ty_ok rfl rfl rfl rfl rfl rfl rfl (by simp; omega) (by show _ * 56 ≤ _; simp; omega)) rfl ?_
  refine run 400 rfl ?_
  exact at_again (acc ++ [u], i + 1, j') ⟨by dsimp only; omega, by simp [a2], by dsimp only; omega, by dsimp only; omega, by dsimp only; rw [← a5, List.append_assoc, show most - (i + 1) = q by omega]; rfl⟩ (by dsimp only; omega)
    ⟨SVle.refl _, SVle.refl _, SVle.of_eq (by show SV.gl 0 4 (rowsT acc ++ [tr u]) = SV.gl 0 4 (rowsT (acc ++ [u])); rw [rowsT_app, rowsT_cons, rowsT_nil]), SVle.of_eq (by show I ((i : Int) + 1) = I ((i + 1 : Nat) : Int); rw [Int.natCast_add]; rfl), trivial⟩ ⟨rfl, rfl, trivial⟩

set_option maxRecDepth 100000
theorem rsort_len (l : List Tm) : (rsortF l).length ≤ l.length := by
  have h := cmp_rsort (l := l) (l' := rsortF l) ((rsort_ss l).1.imp fun h => by rw [ord_anti]; omega) (rsort_ss l).2
  have : ∀ (l acc : List Tm), (l.foldl addF acc).length ≤ acc.length + l.length := by
    intro l
    induction l with
    | nil => intro acc; simp
    | cons t l ih =>
      intro acc
      have := ih (addF acc t)
      have := addF_len acc t
      simp only [List.foldl_cons, List.length_cons]
      omega
  have := this l []
  simpa [rsortF] using this

theorem termSort_fn (ns : List Int) (h1 : ns.length ≤ 9223372036854775807) : Gives Try.prog 14 [.lst 1 (ints ns)] .tt := by
  have hT := terms_fn ns 20 h1 (by omega)
  have hgl := genL_gd ns 20 0 (by omega)
  have hll := genL_len ns 20 0
  generalize genL ns 20 0 = l at hT hgl hll
  have hsm : ∀ t ∈ l, Sm t := fun t ht => (hgl.1 t ht).sm
  have hS := sort_fn l (by omega) hsm
  have hR := rsort_fn l hsm (by omega)
  have hrl := rsort_len l
  obtain ⟨hss, hmem⟩ := rsort_ss l
  have hxsm : ∀ t ∈ rsortF l, Sm t := fun t ht => hsm t ((hmem t).1 ht)
  have hrr : rsortF (l ++ rsortF l) = rsortF l := by
    obtain ⟨h1, h2⟩ := rsort_ss (l ++ rsortF l)
    exact ss_ext totT h1 hss fun x => by
      rw [h2, List.mem_append, hmem, or_self]
  have hS2 := sort_fn (l ++ rsortF l) (by simp; omega) (fun t ht => (List.mem_append.1 ht).elim (hsm t) (hxsm t))
  rw [hrr] at hS2
  generalize rsortF l = x at *
  have hxl := rowsT_len x
  have hrl' := rowsT_len l
  have hAll := all_fn x hxsm (by omega)
  have hAll2 := hAll.weak (args' := [.tl 4 (rowsT x), .lst 4 (rowsT x)]) ⟨SVle.tl _ _, SVle.refl _, trivial⟩
  have hAll3 := hAll.weak (args' := [.tl 4 (rowsT x), .tl 4 (rowsT x)]) ⟨SVle.tl _ _, SVle.tl _ _, trivial⟩
  refine contract_of ty_ok [0, 1, 2, 3, 4, 5, 6, 7] Try.func14 rfl (by decide) Try.ntmps14 rfl fun z => ?_
  refine run 400 rfl ?_
  refine at_fn known37_fn rfl ?_
  refine run 400 rfl ?_
  refine at_fn hT rfl ?_
  refine run 400 rfl ?_
  refine at_fn hS rfl ?_
  refine run 400 rfl ?_
  refine at_fn hR rfl ?_
  refine at_fn hAll2 rfl ?_
  refine run 400 rfl ?_
  refine at_loop (fun i : Nat => 1 ≤ i) (fun i => [(3, .lst 4 (rowsT l)), (4, .tl 4 (rowsT x)), (5, I i)]) (fun _ => []) (fun i => x.length - i) [0, 1, 2, 3, 4, 5, 6, 7]
    1 (by omega) ⟨SVle.refl _, SVle.refl _, SVle.refl _, trivial⟩ trivial ?_
  intro i hi
  refine run 400 rfl ?_
  refine at_ifd rfl (fun g => ?_) (fun g => ?_)
  · rw [hxl] at g
    have hlt : i < x.length := by omega
    have hget := rowsT_get hlt
    have hmu := getD_mem hlt
    have hget2 := rowsT_get (show i - 1 < x.length by omega)
    have hlt2 : i - 1 < x.length := by omega
    have hmv := getD_mem hlt2
    have hord : ordT (x.getD (i - 1) .zero) (x.getD i .zero) < 0 := by
      have := List.pairwise_iff_getElem.1 hss (i - 1) i hlt2 hlt (by omega)
      rw [List.getD_eq_getElem?_getD, List.getD_eq_getElem?_getD, List.getElem?_eq_getElem hlt, List.getElem?_eq_getElem hlt2]
      exact this
    generalize x.getD i .zero = u at hget hmu hord
    generalize x.getD (i - 1) .zero = v at hget2 hmv hord
    refine run 400 rfl ?_
    refine at_drawn 11 rfl rfl [(3, .val (.rp (tr v) 0)), (7, .val (.rp (tr u) 0)), (9, .sv .tt)] [20, 21, 22] rfl
      ⟨gives_is (c := true) (tless_fn v u (hxsm v hmv)) (by simp [hord]), does_index ty_ok _ rfl rfl rfl (by omega) (show (rowsT x)[(i : Int).toNat]? = some (tr u) from hget) rfl, does_index ty_ok _ rfl rfl rfl (by omega) (show (rowsT x)[((i : Int) - 1).toNat]? = some (tr v) by rw [show ((i : Int) - 1).toNat = i - 1 by omega]; exact hget2) rfl, by constructor <;> omega⟩ ?_
    refine run 400 rfl ?_
    exact at_again (i + 1) (by omega) (by omega) ⟨SVle.refl _, SVle.refl _, SVle.of_eq (by show I ((i : Int) + 1) = I ((i + 1 : Nat) : Int); rw [Int.natCast_add]; rfl), trivial⟩ trivial
  refine run 400 rfl ?_
  refine at_gro (.tl 4 []) (doesG_build ty_ok _ rfl trivial rfl rfl (by decide)) ?_
  refine run 400 rfl ?_
  refine at_name 34 5 4 rfl (.inl rfl) ?_
  refine at_grow 5 5 4 ([] ++ rowsT l) rfl (doesU_append ty_ok rfl rfl rfl rfl rfl rfl rfl (by simp; omega) (by show _ * 56 ≤ _; simp; omega)) rfl ?_
  refine run 400 rfl ?_
  refine at_grow 5 5 4 (rowsT l ++ rowsT x) rfl (doesU_append ty_ok rfl rfl rfl rfl rfl rfl rfl (by omega) (by show _ * 56 ≤ _; omega)) rfl ?_
  refine at_deg 5 ?_
  rw [← rowsT_app]
  refine at_fn hS2 rfl ?_
  refine run 400 rfl ?_
  refine at_fn hAll3 rfl ?_
  refine run 400 rfl ?_
  exact at_ret rfl rfl [] ⟨rfl, rfl, rfl⟩ trivial
end Go.Proofs.Ytmnmhehddbemkaa
