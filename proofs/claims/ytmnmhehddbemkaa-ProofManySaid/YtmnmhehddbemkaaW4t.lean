import Derived.Test.YtmnmhehddbemkaaW4s
namespace Go.Proofs.Ytmnmhehddbemkaa
open Go Go.Eng

abbrev xs : ByteArray := ⟨#[120]⟩
abbrev mx : Mv := ⟨2, 0, 0, xs⟩
abbrev ax : Tm := .mk 1 0 xs []
theorem right_ax : rightF ax = true := by
  have e : seq ax.s .empty = false := by rw [seq_data]; rfl
  unfold rightF
  rw [e]
  rfl
theorem runG_atoms (tl : List Mv) : ∀ (k : Nat) (acc : List Tm), runG [] (List.replicate k mx ++ tl) acc = runG [] tl (acc ++ List.replicate k ax)
  | 0, acc => by simp
  | k + 1, acc => by
    have d1 : doesF [] acc (.atom xs) = (ax, true) := by
      show (ax, mayF ax) = _
      have : mayF ax = true := by
        unfold mayF
        rw [mayT, right_ax]
        rfl
      rw [this]
    rw [List.replicate_succ, List.cons_append, runG]
    show (match doesF [] acc (.atom xs) with | (t, true) => runG [] (List.replicate k mx ++ tl) (acc ++ [t]) | (_, false) => ([], 3)) = _
    rw [d1]
    show runG [] (List.replicate k mx ++ tl) (acc ++ [ax]) = _
    rw [runG_atoms tl k (acc ++ [ax]), List.replicate_succ]
    simp
theorem run_e (k : Nat) : (runF [] (List.replicate k mx)).2 = if 1024 < k then 7 else 0 := by
  unfold runF
  rw [List.length_replicate]
  split
  · rfl
  · have := runG_atoms [] k []
    rw [List.append_nil] at this
    rw [this]
    rfl
theorem run_g (k : Nat) : (runF [] (List.replicate k mx ++ [Mv.zero])).2 = if 1024 < k + 1 then 7 else 2 := by
  unfold runF
  rw [List.length_append, List.length_replicate, List.length_singleton]
  split
  · rfl
  · rw [runG_atoms]
    rfl

/-- Hashes, so many, of an atom. -/
def tow : Nat → Tm
  | 0 => ax
  | j + 1 => .mk 3 0 .empty [tow j]
def tows (n : Nat) : List Tm := (List.range n).map tow
abbrev hm (i : Nat) : Mv := ⟨6, i, 0, .empty⟩
theorem right_h (t : Tm) : rightF (.mk 3 0 .empty [t]) = true := by
  have e : seq (Tm.mk 3 0 .empty [t]).s .empty = true := seq_self _
  unfold rightF
  rw [e]
  rfl
theorem may_tow : ∀ (j : Nat) (d c : Int), 0 ≤ c → c + j + 1 ≤ 64 → (mayT (tow j) d c).1 = decide (d + j ≤ 16)
  | 0, d, c, h0, h1 => by
    show (mayT ax d c).1 = _
    rw [mayT, right_ax, if_neg (by omega)]
    by_cases h : 16 < d
    · rw [if_pos h]
      exact (decide_eq_false (by omega)).symm
    · rw [if_neg h, if_neg (by simp), mayL]
      exact (decide_eq_true (by omega)).symm
  | j + 1, d, c, h0, h1 => by
    rw [tow, mayT, right_h, if_neg (by omega)]
    by_cases h : 16 < d
    · rw [if_pos h]
      exact (decide_eq_false (by omega)).symm
    · rw [if_neg h, if_neg (by simp)]
      have ih := may_tow j (d + 1) (c + 1) (by omega) (by omega)
      rw [mayL]
      rcases hm : mayT (tow j) (d + 1) (c + 1) with ⟨b, c'⟩
      rw [hm] at ih
      dsimp only at ih
      have e : decide (d + ((j + 1 : Nat) : Int) ≤ 16) = b := by
        rw [ih]
        exact decide_eq_decide.2 (by omega)
      rw [e]
      cases b <;> simp [mayL]
theorem runG_hash : ∀ (r i : Nat), i + 1 ≤ 16 → i + r ≤ 40 → (runG [] ((List.range' i r).map hm) (tows (i + 1))).2 = if i + r + 1 ≤ 16 then 0 else 3
  | 0, i, h, _ => by
    rw [if_pos (by omega)]
    rfl
  | r + 1, i, h, h40 => by
    have hlen : (tows (i + 1)).length = i + 1 := by simp [tows]
    have hget : (tows (i + 1)).getD (i : Int).toNat .zero = tow i := by
      rw [List.getD_eq_getElem?_getD]
      simp [tows]
    have hn : nearF (.one 3 i) (tows (i + 1)).length ([] : List Tm).length = true := by
      rw [hlen]
      simp [nearF, inF]
      omega
    have hd : doesF [] (tows (i + 1)) (.one 3 i) = (tow (i + 1), mayF (tow (i + 1))) := by
      simp only [doesF, stepT, hget]
      rfl
    have hr : readF (hm i) = some (.one 3 i) := rfl
    have hmay : mayF (tow (i + 1)) = decide (i + 2 ≤ 16) := by
      unfold mayF
      rw [may_tow (i + 1) 1 0 (by omega) (by omega)]
      exact decide_eq_decide.2 (by omega)
    rw [List.range'_succ, List.map_cons, runG, hr]
    dsimp only
    rw [if_pos hn, hd, hmay]
    by_cases h2 : i + 2 ≤ 16
    · rw [decide_eq_true h2]
      have e : tows (i + 1) ++ [tow (i + 1)] = tows (i + 1 + 1) := by
        unfold tows
        rw [List.range_succ (n := i + 1), List.map_append]
        rfl
      show (runG [] _ (tows (i + 1) ++ [tow (i + 1)])).2 = _
      rw [e, runG_hash r (i + 1) h2 (by omega)]
      by_cases h3 : i + (r + 1) + 1 ≤ 16
      · rw [if_pos h3, if_pos (by omega)]
      · rw [if_neg h3, if_neg (by omega)]
    · rw [decide_eq_false h2, if_neg (by omega)]
theorem run_f (d : Nat) (hd : d ≤ 40) : (runF [] (mx :: (List.range d).map hm)).2 = if d + 1 ≤ 16 then 0 else 3 := by
  unfold runF
  rw [if_neg (by simp; omega)]
  have := runG_atoms ((List.range d).map hm) 1 []
  have e1 : List.replicate 1 mx ++ (List.range d).map hm = mx :: (List.range d).map hm := rfl
  rw [e1] at this
  rw [this]
  have h2 := runG_hash d 0 (by omega) (by omega)
  have e2 : ([] : List Tm) ++ List.replicate 1 ax = tows (0 + 1) := rfl
  rw [e2, List.range_eq_range', h2, Nat.zero_add]

/-! A list of moves, filled. -/
theorem flatM_len (l : List Mv) : (flatU (rowsM l)).length = l.length * 4 := by
  unfold flatU
  induction l with
  | nil => rfl
  | cons m l ih =>
    show ((mr m ++ (rowsM l).flatten).map up).length = _
    rw [List.map_append, List.length_append, ih, List.length_cons]
    show 4 + _ = _
    omega
abbrev halfM (n i : Nat) : List SV := flatU (rowsM (List.replicate i mx)) ++ List.replicate ((n - i) * 4) .any
theorem halfM_step {n i : Nat} (h : i < n) : splice [I 2, I 0, I 0, .str xs] (i * 4) (halfM n i) = halfM n (i + 1) := by
  have hlen : (flatU (rowsM (List.replicate i mx))).length = i * 4 := by rw [flatM_len, List.length_replicate]
  unfold halfM
  rw [← hlen, show (n - i) * 4 = (n - (i + 1)) * 4 + [I 2, I 0, I 0, SV.str xs].length from by show _ = _ + 4; omega, splice_fill, List.replicate_succ']
  unfold flatU
  simp only [rowsM, List.map_append, List.flatten_append]
  rfl

set_option maxRecDepth 100000 in
theorem proofMany_fn (n : Int) : Gives Try.prog 4 [I n] .tt := by
  refine Gives.le (a := .bl true) ?_ (SVle.tt rfl)
  obtain ⟨k, hk, hk2⟩ : ∃ k : Nat, (k : Int) = 1021 + n % 6 ∧ k ≤ 1026 := ⟨(1021 + n % 6).toNat, by omega, by omega⟩
  obtain ⟨d, hd, hd2⟩ : ∃ d : Nat, (d : Int) = 12 + n % 8 ∧ d ≤ 19 := ⟨(12 + n % 8).toNat, by omega, by omega⟩
  refine contract_of ty_ok [0, 1, 2, 3, 4, 7] Try.func4 rfl (by decide) Try.ntmps4 rfl fun z => ?_
  refine run 400 rfl ?_
  refine at_fn known16_fn rfl ?_
  refine run 400 rfl ?_
  refine at_fn (within21 n 6 (by omega)) rfl ?_
  refine run 400 rfl ?_
  rw [← hk]
  refine at_make 5 4 ty_ok rfl rfl rfl (by omega) (show ((40 : Nat) : Int) * (k : Int) ≤ 281474976710656 by omega) (by omega) ?_
  refine run 400 rfl ?_
  refine at_loop (fun i : Nat => i ≤ k) (fun i => [(0, I n), (3, I k), (4, .arr 5 k), (5, I i)]) (fun i => [(5, .cells 37 (halfM k i))]) (fun i => k - i) [0, 1, 2, 3, 4, 7]
    0 (by omega) ⟨SVle.refl _, SVle.refl _, SVle.refl _, SVle.refl _, trivial⟩ ⟨rfl, trivial⟩ ?_
  intro i hi
  refine run 400 rfl ?_
  refine at_ifd rfl (fun g => ?_) (fun g => ?_)
  · refine run 400 rfl ?_
    refine at_val (.ptr 5 ((i : Int).toNat * 4)) (does_indexArr ty_ok rfl rfl rfl ⟨by omega, by omega⟩ rfl) ?_
    refine at_store ty_ok (halfM k (i + 1)) rfl rfl rfl rfl rfl rfl (by unfold halfM; rw [List.length_append, flatM_len, List.length_replicate, List.length_replicate]; show i * 4 + 4 ≤ _; omega) (halfM_step (by omega)) rfl ?_
    refine run 400 rfl ?_
    exact at_again (i + 1) (by omega) (by omega) ⟨SVle.refl _, SVle.refl _, SVle.refl _, SVle.of_eq (by show I ((i : Int) + 1) = I ((i + 1 : Nat) : Int); rw [Int.natCast_add]; rfl), trivial⟩ ⟨rfl, trivial⟩
  have e : i = k := by omega
  subst e
  have hrl : (rowsM (List.replicate i mx)).length = i := by simp
  refine at_publish 5 4 (rowsM (List.replicate i mx)) (by show some (SO.cells 37 (halfM i i)) = _; unfold halfM; rw [Nat.sub_self, Nat.zero_mul, List.replicate_zero, List.append_nil]) (fun r hr => by obtain ⟨t, _, rfl⟩ := List.mem_map.1 hr; rfl) (own2 := []) (fun j o h => by simp [ownq] at h) (by repeat' (first | exact trivial | refine ⟨show (bif Nat.beq 5 5 then i = _ else True) by rw [hrl]; rfl, ?_⟩ | refine ⟨trivial, ?_⟩)) ?_
  refine run 400 rfl ?_
  have hR1 := run_fn [] (List.replicate i mx) (by simp)
  have he := run_e i
  generalize runF [] (List.replicate i mx) = R1 at hR1 he
  refine at_fn (hR1.weak (args' := [.tl 0 [], .tl 4 (rowsM (List.replicate i mx))]) ⟨SVle.nils, SVle.tl _ _, trivial⟩) rfl ?_
  refine run 400 rfl ?_
  refine at_fn (within21 n 8 (by omega)) rfl ?_
  refine run 400 rfl ?_
  rw [← hd]
  refine at_gro (.tl 4 [mr mx]) (doesG_build ty_ok _ rfl ⟨⟨rfl, rfl, _, rfl, SVles.refl _⟩, trivial⟩ rfl rfl (by decide)) ?_
  refine run 400 rfl ?_
  refine at_name 9 6 4 rfl (.inl rfl) ?_
  refine run 400 rfl ?_
  refine at_loop (fun j : Nat => j ≤ d) (fun j => [(3, I i), (4, .tl 4 (rowsM (List.replicate i mx))), (7, I R1.2), (8, I d), (9, .gl 6 4 (rowsM (mx :: (List.range j).map hm))), (10, I j)]) (fun _ => [(6, .tok 4)]) (fun j => d - j) [0, 1, 2, 3, 4, 5, 7]
    0 (by omega) ⟨SVle.refl _, SVle.refl _, SVle.refl _, SVle.refl _, SVle.refl _, SVle.refl _, trivial⟩ ⟨rfl, trivial⟩ ?_
  intro j hj
  refine run 400 rfl ?_
  refine at_ifd rfl (fun g => ?_) (fun g => ?_)
  · refine run 400 rfl ?_
    refine at_gro (.tl 4 [mr (hm j)]) (doesG_build ty_ok _ rfl ⟨⟨rfl, rfl, _, rfl, SVles.refl _⟩, trivial⟩ rfl rfl (by decide)) ?_
    refine run 400 rfl ?_
    refine at_grow 6 6 4 (rowsM (mx :: (List.range j).map hm) ++ [mr (hm j)]) rfl (doesU_append ty_ok rfl rfl rfl rfl rfl rfl rfl (by simp; omega) (by show _ * 40 ≤ _; simp; omega)) rfl ?_
    refine run 400 rfl ?_
    refine at_again (j + 1) (by omega) (by omega) ⟨SVle.refl _, SVle.refl _, SVle.refl _, SVle.refl _, SVle.of_eq ?_, SVle.of_eq (by show I ((j : Int) + 1) = I ((j + 1 : Nat) : Int); rw [Int.natCast_add]; rfl), trivial⟩ ⟨rfl, trivial⟩
    show SV.gl 6 4 (rowsM (mx :: (List.range j).map hm) ++ [mr (hm j)]) = SV.gl 6 4 (rowsM (mx :: (List.range (j + 1)).map hm))
    rw [List.range_succ]
    simp
  have e : j = d := by omega
  subst e
  refine run 400 rfl ?_
  have hR2 := run_fn [] (mx :: (List.range j).map hm) (by simp)
  have hf := run_f j (by omega)
  generalize runF [] (mx :: (List.range j).map hm) = R2 at hR2 hf
  refine at_deg 6 ?_
  refine run 400 rfl ?_
  refine at_fn (hR2.weak (args' := [.tl 0 [], .lst 4 (rowsM (mx :: (List.range j).map hm))]) ⟨SVle.nils, SVle.refl _, trivial⟩) rfl ?_
  refine run 400 rfl ?_
  refine at_gro (.tl 4 [mr Mv.zero]) (doesG_build ty_ok _ rfl ⟨⟨rfl, rfl, _, rfl, SVles.refl _⟩, trivial⟩ rfl rfl (by decide)) ?_
  refine run 400 rfl ?_
  refine at_new 5 4 (rowsM (List.replicate i mx) ++ [mr Mv.zero]) (doesT_append ty_ok rfl rfl rfl rfl rfl rfl rfl (by simp; omega) (by show _ * 40 ≤ _; simp; omega)) ?_
  refine run 400 rfl ?_
  refine at_deg 5 ?_
  refine run 400 rfl ?_
  have hR3 := run_fn [] (List.replicate i mx ++ [Mv.zero]) (by simp)
  have hg := run_g i
  generalize runF [] (List.replicate i mx ++ [Mv.zero]) = R3 at hR3 hg
  refine at_fn (hR3.weak (args' := [.tl 0 [], .lst 4 (rowsM (List.replicate i mx) ++ [mr Mv.zero])]) ⟨SVle.nils, SVle.of_eq (by simp), trivial⟩) rfl ?_
  refine run 400 rfl ?_
  refine at_true 69 rfl (by rw [he]; by_cases h : 1024 < i <;> simp [h] <;> omega) ?_
  refine run 400 rfl ?_
  by_cases h1 : 1024 < i
  · rw [if_pos h1] at he
    refine at_false 72 rfl (by rw [he]; rfl) ?_
    refine run 400 rfl ?_
    refine at_true 77 rfl (by rw [he]; rfl) ?_
    refine run 400 rfl ?_
    refine at_true 85 rfl (by rw [hf]; by_cases h : j + 1 ≤ 16 <;> simp [h] <;> omega) ?_
    refine run 400 rfl ?_
    by_cases h2 : j + 1 ≤ 16
    · rw [if_pos h2] at hf
      refine at_true 88 rfl (by rw [hf]; rfl) ?_
      refine run 400 rfl ?_
      refine at_ret rfl rfl [] ⟨?_, rfl, rfl⟩ trivial
      show SV.bl (decide (R3.2 = 7) == decide ((i : Int) + 1 > 1024)) = .bl true
      rw [hg]
      by_cases h : 1024 < i + 1 <;> simp [h] <;> omega
    · rw [if_neg h2] at hf
      refine at_false 88 rfl (by rw [hf]; rfl) ?_
      refine run 400 rfl ?_
      refine at_true 93 rfl (by rw [hf]; rfl) ?_
      refine run 400 rfl ?_
      refine at_ret rfl rfl [] ⟨?_, rfl, rfl⟩ trivial
      show SV.bl (decide (R3.2 = 7) == decide ((i : Int) + 1 > 1024)) = .bl true
      rw [hg]
      by_cases h : 1024 < i + 1 <;> simp [h] <;> omega
  · rw [if_neg h1] at he
    refine at_true 72 rfl (by rw [he]; rfl) ?_
    refine run 400 rfl ?_
    refine at_true 85 rfl (by rw [hf]; by_cases h : j + 1 ≤ 16 <;> simp [h] <;> omega) ?_
    refine run 400 rfl ?_
    by_cases h2 : j + 1 ≤ 16
    · rw [if_pos h2] at hf
      refine at_true 88 rfl (by rw [hf]; rfl) ?_
      refine run 400 rfl ?_
      refine at_ret rfl rfl [] ⟨?_, rfl, rfl⟩ trivial
      show SV.bl (decide (R3.2 = 7) == decide ((i : Int) + 1 > 1024)) = .bl true
      rw [hg]
      by_cases h : 1024 < i + 1 <;> simp [h] <;> omega
    · rw [if_neg h2] at hf
      refine at_false 88 rfl (by rw [hf]; rfl) ?_
      refine run 400 rfl ?_
      refine at_true 93 rfl (by rw [hf]; rfl) ?_
      refine run 400 rfl ?_
      refine at_ret rfl rfl [] ⟨?_, rfl, rfl⟩ trivial
      show SV.bl (decide (R3.2 = 7) == decide ((i : Int) + 1 > 1024)) = .bl true
      rw [hg]
      by_cases h : 1024 < i + 1 <;> simp [h] <;> omega
end Go.Proofs.Ytmnmhehddbemkaa
