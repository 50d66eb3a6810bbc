/- The texts Mkz, W6k, L5, W7g, one behind the other: an executor over the translated code, contracts of functions, and their laws. -/

import Derived.Test.YtmnmhehddbemkaaKnowC9
/- The proof engine: a list of plain zeroes is made. -/
namespace Go.Eng

theorem made_rep (v : Value) (m : Nat) : (madeCells #[v] m).toList = List.replicate m v := by
  unfold madeCells
  rw [Array.toList_map, Array.toList_range]
  apply List.ext_getElem
  · simp
  · intro i h1 h2
    simp [Nat.mod_one]
theorem Dens.rep {g : Nat → Value} {H : Hp} {c : SV} {v : Value} (h : Den g H c v) : ∀ m : Nat, Dens g H (List.replicate m c) (List.replicate m v)
  | 0 => trivial
  | m + 1 => ⟨h, Dens.rep h m⟩
theorem noKs_rep {k : Nat} {c : SV} (h : c.noK k = true) : ∀ m : Nat, SV.noKs k (List.replicate m c) = true
  | 0 => rfl
  | m + 1 => by rw [List.replicate_succ, SV.noKs, h, noKs_rep h m]; rfl

theorem at_makeZ {E : Stc} {T : Nat → TI} {all rest : List Oper} {o : Oper} {s : List Fr} {env : List (Nat × SV)} {own : List (Nat × SO)} {nx : List Nat} {t : Nat} {x y : Operand} {kx ky : IntKind} {n : Int} (k : Nat) (c : SV) (hT : ∀ t, T t = tiOf E.P t) (ho : o.op = .makeSlice t x y) (hx : ev env x = .int kx n) (hy : ev env y = .int ky n)
    (h0 : 0 ≤ n) (hb : ((T (T t).elem).bytes : Int) * n ≤ 281474976710656) (h63 : n ≤ 9223372036854775807) (hc : constsS (T (T t).elem).zero = [c]) (hck : c.noK k = true) (kk : Sat E (.ops all rest) s (put o.dst (.arr k n.toNat) env) ((k, .cells (T t).elem (List.replicate n.toNat c)) :: own) nx)
    (hkT : lstT T t 1 = true := by rfl) (hones : SV.ones (constsS (T (T t).elem).zero) = true := by rfl) (hm : Nat.ble E.cx.m0 k = true := by rfl) (hE : freshE k env = true := by rfl) (hO : freshO k own = true := by rfl)
    (hg : guardK all o.guard env true false false = true := by rfl) (hd : dstLt o.dst E.n = true := by rfl) : Sat E (.ops all (o :: rest)) s env own nx := by
  intro a w hat
  have hwant : Region.wanted o (yielded all.toArray a.tmps) = true := by
    rcases guardK_wanted (E := E) (all := all) (o := o) (env := env) (own := own) (yes := true) (no := false) (stuck := false) with ⟨_, hw⟩ | ⟨h, _⟩ | h
    · exact hw a w hat
    · rw [hg] at h; cases h
    · rw [hg] at h; cases h
  unfold wpList
  rw [if_pos hwant]
  refine .inl ?_
  obtain ⟨hdf, g, H, hdn⟩ := hat
  obtain ⟨hk, hz, hk2, hz2, hz0⟩ := lstT_spec hT hkT
  rw [hT (T t).elem, hT t] at hb hones hc
  obtain ⟨i1, h1⟩ := slice_ti hk
  obtain ⟨i2, d2, h2⟩ := ti_spec hk2
  obtain ⟨z, hz3, hz4⟩ := zero_spec h2 hz2
  have hzs : z.cells.size = 1 := by rw [← hz0, hz4, Array.length_toList]
  have hsz : 1 = i2.size := by rw [← hz, h2.size]
  rw [h2.bytes] at hb
  have e1 : a.eval x = .int kx n := by have := hdn.ev x; rw [hx] at this; exact this
  have e2 : a.eval y = .int ky n := by have := hdn.ev y; rw [hy] at this; exact this
  have hr := run_make (P := E.P) w t _ i2 z h1.und h2.info hz3 kx ky n n h0 (Int.le_refl _) hb h63
  have hzd := constsS_den g H (tiOf E.P (tiOf E.P t).elem).zero
  obtain ⟨v, hv⟩ : ∃ v, z.cells = #[v] := by
    match h : z.cells with
    | ⟨[v]⟩ => exact ⟨v, rfl⟩
    | ⟨[]⟩ => rw [h] at hzs; simp at hzs
    | ⟨_ :: _ :: _⟩ => rw [h] at hzs; simp at hzs
  rw [hc, hz4, hv] at hzd
  have hcv : Den g H c v := hzd.1
  have hv1 : v.oneCell' = true := by
    have := (constsS_den g H (tiOf E.P (tiOf E.P t).elem).zero).oneCells hones
    rw [hz4, hv] at this
    exact this v (by simp)
  have hrep : (madeCells z.cells n.toNat).toList = List.replicate n.toNat v := by rw [hv, made_rep]
  have hone : ∀ x ∈ (madeCells z.cells n.toNat).toList, x.oneCell' = true := by
    rw [hrep]
    intro x hx
    rw [(List.mem_replicate.1 hx).2]
    exact hv1
  have hcs : Dens g H (List.replicate n.toNat c) (madeCells z.cells n.toNat).toList := by
    rw [hrep]
    exact Dens.rep hcv _
  have hd2 := hdn.new' (t := (T t).elem) (Nat.le_of_ble_eq_true hm) (noKs_rep hck _) hE hO hcs hone
  unfold Oper.wp
  have hrun : (execOp a.eval o).run E.P w = .ok (.value (.slice (some ⟨w.heap.size, 0, none⟩) n.toNat n.toNat)) (w.alloc (.cells (madeCells z.cells n.toNat) (T t).elem)) := by
    rw [hT t]
    rw [← hsz, Nat.mul_one] at hr
    simp [execOp, ho, e1, e2, hr]
  rw [hrun]
  rw [Array.toArray_toList] at hd2
  exact kk _ _ (At.put hdf hd2 ⟨w.heap.size, upd_same _ _ _, rfl⟩ fun d e => by rw [e] at hd; exact Nat.blt_eq.mp hd)
end Go.Eng
namespace Go.Proofs.Ytmnmhehddbemkaa
open Go Go.Eng
set_option maxRecDepth 100000

/-- A tree of Pairs. -/
def fullT : Nat → Tm
  | 0 => .mk 2 1 .empty []
  | n + 1 => .mk 7 0 .empty [fullT n, fullT n]
theorem fullT_spec : ∀ n, allR (fullT n) = true ∧ dpT (fullT n) = n + 1 ∧ szT (fullT n) + 1 = 2 ^ (n + 1)
  | 0 => ⟨by
      have e : seq ByteArray.empty .empty = true := seq_self _
      simp [fullT, allR, allRL, rightF, kidsF, Tm.k, Tm.n, Tm.s, Tm.kids, e], by simp [fullT, dpT, dpL], by simp [fullT, szT, szL]⟩
  | n + 1 => by
    obtain ⟨h1, h2, h3⟩ := fullT_spec n
    refine ⟨by rw [fullT, allR, allRL, allRL, allRL, h1, right_k2 _ _ _ (by omega)]; rfl, by rw [fullT, dpT, dpL, dpL, dpL]; omega, ?_⟩
    rw [fullT, szT, szL, szL, szL, Nat.pow_succ]
    omega
def pubT : Nat → Tm
  | 0 => fullT 5
  | n + 1 => .mk 4 0 .empty [pubT n]
theorem pubT_spec : ∀ n, allR (pubT n) = true ∧ dpT (pubT n) = n + 6 ∧ szT (pubT n) = n + 63
  | 0 => by
    obtain ⟨h1, h2, h3⟩ := fullT_spec 5
    exact ⟨h1, h2, by show szT (fullT 5) = _; omega⟩
  | n + 1 => by
    obtain ⟨h1, h2, h3⟩ := pubT_spec n
    refine ⟨by rw [pubT, allR, allRL, allRL, h1, right_k1 _ _ (by omega)]; rfl, by rw [pubT, dpT, dpL, dpL]; omega, ?_⟩
    rw [pubT, szT, szL, szL]
    omega
theorem tow_spec : ∀ n, allR (tow n) = true ∧ dpT (tow n) = n + 1 ∧ szT (tow n) = n + 1
  | 0 => ⟨by rw [tow, allR, allRL, right_ax]; rfl, by simp [tow, dpT, dpL], by simp [tow, szT, szL]⟩
  | n + 1 => by
    obtain ⟨h1, h2, h3⟩ := tow_spec n
    refine ⟨by rw [tow, allR, allRL, allRL, h1, right_h]; rfl, by rw [tow, dpT, dpL, dpL]; omega, ?_⟩
    rw [tow, szT, szL, szL]
    omega
theorem may_towF (n : Nat) (h : n ≤ 20) : mayF (tow n) = decide (((n : Int) + 1) ≤ 16) := by
  obtain ⟨h1, h2, h3⟩ := tow_spec n
  rw [mayF_iff, h1, h2, h3, Bool.true_and, decide_eq_decide]
  omega
theorem may_pub (n : Nat) (h : n ≤ 8) : mayF (pubT n) = decide ((63 + ((n : Int) + 12) - 12) ≤ 64) := by
  obtain ⟨h1, h2, h3⟩ := pubT_spec n
  rw [mayF_iff, h1, h2, h3, Bool.true_and, decide_eq_decide]
  omega
theorem bytesS_size (ns : List Int) : (bytesS ns).size = ns.length := by
  have : ∀ (ns : List Int) (r : ByteArray), (ns.foldl (fun r n => r.push (UInt8.ofNat n.toNat)) r).size = r.size + ns.length := by
    intro ns
    induction ns with
    | nil => intro r; rfl
    | cons n ns ih =>
      intro r
      rw [List.foldl_cons, ih, ByteArray.size_push, List.length_cons]
      omega
  have := this ns .empty
  simpa [bytesS] using this
theorem may_leaf (k n : Int) (s : ByteArray) : mayF (.mk k n s []) = rightF (.mk k n s []) := by
  rw [mayF_iff, allR, allRL]
  simp [szT, szL, dpT, dpL]
theorem may_atomB (s : ByteArray) (h : 0 < s.size) : mayF (.mk 1 0 s []) = decide ((s.size : Int) ≤ 1024) := by
  have e : seq s .empty = false := by
    cases h2 : seq s .empty with
    | false => rfl
    | true => have := seq_eq h2; subst this; simp at h
  rw [may_leaf]
  simp [rightF, kidsF, Tm.k, Tm.n, Tm.s, Tm.kids, e]
theorem may_nonce (n : Int) (h : n ≠ 0) : mayF (.mk 2 n .empty []) = (decide (0 < n) && decide (n ≤ 1073741824)) := by
  have e : seq ByteArray.empty .empty = true := seq_self _
  rw [may_leaf]
  simp [rightF, kidsF, Tm.k, Tm.n, Tm.s, Tm.kids, e, h]

theorem full_fn : ∀ n : Nat, n ≤ 10 → Gives Try.prog 53 [I n] (fullT n).sv
  | 0, _ => by
    refine contract_of ty_ok [0, 1, 2, 3, 4, 5, 6, 7] Try.func53 rfl (by decide) Try.ntmps53 rfl fun z => ?_
    refine run 400 rfl ?_
    refine at_if rfl (fun _ => ?_) (fun q => by cases q)
    refine run 400 rfl ?_
    refine at_fn (N_fn 1) rfl ?_
    refine run 400 rfl ?_
    exact at_ret rfl rfl [] ⟨rfl, rfl, rfl⟩ trivial
  | n + 1, h => by
    have ih := full_fn n (by omega)
    have e : ((n + 1 : Nat) : Int) - 1 = n := by omega
    refine contract_of ty_ok [0, 1, 2, 3, 4, 5, 6, 7] Try.func53 rfl (by decide) Try.ntmps53 rfl fun z => ?_
    refine run 400 rfl ?_
    refine at_if rfl (fun q => by simp at q; omega) (fun _ => ?_)
    refine run 400 rfl ?_
    rw [e]
    refine at_fn ih rfl ?_
    refine run 400 rfl ?_
    rw [e]
    refine at_fn ih rfl ?_
    refine at_gro (.tl 4 [tr (fullT n), tr (fullT n)]) (doesG_build ty_ok _ rfl ⟨⟨rfl, rfl, _, rfl, SVles.refl _⟩, ⟨rfl, rfl, _, rfl, SVles.refl _⟩, trivial⟩ rfl rfl (by decide)) ?_
    refine at_fn (T2_fn 7 (fullT n) (fullT n)) rfl ?_
    refine run 400 rfl ?_
    exact at_ret rfl rfl [] ⟨rfl, rfl, rfl⟩ trivial
end Go.Proofs.Ytmnmhehddbemkaa
namespace Go.Proofs.Ytmnmhehddbemkaa
open Go Go.Eng

def andF (n : Int) : Int := ((BitVec.ofInt 64 n &&& BitVec.ofInt 64 65535).toNat : Int)
theorem andF_le (n : Int) : 0 ≤ andF n ∧ andF n ≤ 65535 := by
  unfold andF
  rw [BitVec.toNat_and]
  have h : (BitVec.ofInt 64 n).toNat &&& (BitVec.ofInt 64 65535).toNat ≤ (BitVec.ofInt 64 65535).toNat := Nat.and_le_right
  have h2 : (BitVec.ofInt 64 65535).toNat = 65535 := by decide
  rw [h2] at h ⊢
  omega

section
variable (v : Int) (one : Tm)
abbrev hS : Tm := .mk 2 v .empty []
abbrev hy : Tm := .mk 1 0 ⟨#[121]⟩ []
abbrev h0 : Tm := .mk 3 0 .empty [hS v]
abbrev h1 : Tm := .mk 4 0 .empty [hS v]
abbrev h2 : Tm := .mk 5 0 .empty [hS v, one]
abbrev h3 : Tm := .mk 6 0 .empty [hS v, ax]
abbrev h7 : Tm := .mk 7 0 .empty [hS v, one]
abbrev h4 : Tm := .mk 3 0 .empty [h7 v one]
abbrev hid : List Tm := [h0 v, h1 v, h2 v one, h3 v, h4 v one]
abbrev hMA : Tm := .mk 5 0 .empty [hS v, hy]
abbrev hMS : Tm := .mk 6 0 .empty [hS v, hy]
end

theorem may_hS {v : Int} (hv : 1000 ≤ v ∧ v ≤ 66535) : mayF (hS v) = true := by
  rw [may_nonce v (by omega)]
  simp
  omega
theorem may_hy : mayF hy = true := by rw [may_atomB _ (by decide)]; rfl
theorem may_ax : mayF ax = true := by rw [may_atomB _ (by decide)]; rfl
theorem one_ne (ns : List Int) : (genT ns 4 0).1 ≠ hy := by
  intro h
  have hA : ∀ j, (leafA ns j).1 ≠ hy := by
    intro j h
    have hw : ∀ b ∈ words, b ≠ ⟨#[121]⟩ := by decide
    simp only [leafA, Tm.mk.injEq] at h
    have h := h.2.2.1
    unfold pickF at h
    rw [List.getD_eq_getElem?_getD] at h
    cases e : words[(nextF ns j words.length).1.toNat]? with
    | none =>
      rw [e] at h
      have h : ByteArray.empty = ⟨#[121]⟩ := h
      exact absurd h (by decide)
    | some b => rw [e] at h; exact hw b (List.mem_of_getElem? e) h
  have hN : ∀ j, (leafN ns j).1 ≠ hy := by
    intro j h
    simp only [leafN, Tm.mk.injEq] at h
    exact absurd h.1 (by decide)
  have hx := nextF_le (l := ns) (j := 0) (n := 10) (by omega)
  rw [show (4 : Nat) = 3 + 1 from rfl, genT] at h
  dsimp only at h
  split at h
  · exact hA _ h
  · split at h
    · exact hN _ h
    · split at h
      · simp only [Tm.mk.injEq] at h; omega
      · simp only [Tm.mk.injEq] at h; omega

theorem hasL_mem {x : Tm} : ∀ {l : List Tm}, hasL x l = false → ∀ t ∈ l, hasT x t = false
  | [], _, t, ht => by cases ht
  | u :: l, h, t, ht => by
    rw [hasL, Bool.or_eq_false_iff] at h
    rcases List.mem_cons.1 ht with e | ht
    · subst e; exact h.1
    · exact hasL_mem h.2 t ht
theorem has_parts {x t : Tm} (h : hasT x t = false) : ∀ p ∈ parts t, hasT x p = false := by
  intro p hp
  have := parts_sub hp
  obtain ⟨k, n, s, l⟩ := t
  rw [hasT, Bool.or_eq_false_iff] at h
  exact hasL_mem h.2 p this
theorem has_kid {x : Tm} {k n : Int} {s : ByteArray} {l : List Tm} (h : x ∈ l) : hasT x (.mk k n s l) = true := by
  rw [hasT, Bool.or_eq_true]
  refine .inr ?_
  induction l with
  | nil => cases h
  | cons u l ih =>
    rw [hasL, Bool.or_eq_true]
    rcases List.mem_cons.1 h with e | h
    · subst e; exact .inl (has_self x)
    · exact .inr (ih h)

theorem hidden_in {v : Int} {one : Tm} {l : List Tm} (hl : ∀ t ∈ l, hasT (hS v) t = false) : ∀ x ∈ openM (l ++ hid v one), x ∈ hid v one ∨ hasT (hS v) x = false := fun x hx =>
  ((openM_P (l ++ hid v one)).least (fun y => y ∈ hid v one ∨ hasT (hS v) y = false) (fun y hy => by
    rcases List.mem_append.1 hy with h | h
    · exact .inr (hl y h)
    · exact .inl h) (fun y hy p hp => by
    rcases hy with h | h
    · have hx0 : hasT (hS v) ax = false := by
        rw [hasT, hasL]
        cases e : same (Tm.mk 1 0 xs []) (hS v) with
        | false => rfl
        | true => have := same_iff.1 e; simp at this
      simp only [hid, List.mem_cons, List.not_mem_nil, or_false] at h
      rcases h with rfl | rfl | rfl | rfl | rfl
      · rw [parts] at hp; simp at hp
      · rw [parts] at hp; simp at hp
      · rw [parts] at hp; simp at hp
      · rw [parts] at hp
        simp at hp
        subst hp
        exact .inr hx0
      · rw [parts] at hp; simp at hp
    · exact .inr (has_parts h p hp)) x hx).elim (by simp) id

theorem hidden_S {v : Int} {one : Tm} {l : List Tm} (hl : ∀ t ∈ l, hasT (hS v) t = false) : madeT (openM (l ++ hid v one)) (hS v) = false := by
  have ha : amongF (openM (l ++ hid v one)) (hS v) = false := by
    cases e : amongF (openM (l ++ hid v one)) (hS v) with
    | false => rfl
    | true =>
      rcases hidden_in hl _ (among_iff.1 e) with h | h
      · simp at h
      · rw [has_self] at h; cases h
  rw [madeT, ha]
  rfl
theorem hidden_MA {v : Int} {one : Tm} {l : List Tm} (hl : ∀ t ∈ l, hasT (hS v) t = false) (ho : one ≠ hy) : madeT (openM (l ++ hid v one)) (hMA v) = false := by
  have ha : amongF (openM (l ++ hid v one)) (hMA v) = false := by
    cases e : amongF (openM (l ++ hid v one)) (hMA v) with
    | false => rfl
    | true =>
      rcases hidden_in hl _ (among_iff.1 e) with h | h
      · simp at h
        exact absurd h.symm ho
      · rw [has_kid (by simp)] at h; cases h
  rw [madeT, ha, madeL, hidden_S hl]
  rfl
theorem hidden_MS {v : Int} {one : Tm} {l : List Tm} (hl : ∀ t ∈ l, hasT (hS v) t = false) : madeT (openM (l ++ hid v one)) (hMS v) = false := by
  have ha : amongF (openM (l ++ hid v one)) (hMS v) = false := by
    cases e : amongF (openM (l ++ hid v one)) (hMS v) with
    | false => rfl
    | true =>
      rcases hidden_in hl _ (among_iff.1 e) with h | h
      · simp [xs] at h
      · rw [has_kid (by simp)] at h; cases h
  rw [madeT, ha, madeL, hidden_S hl]
  rfl
theorem hidden_0 {v : Int} {one : Tm} {l : List Tm} : madeT (openM (l ++ hid v one)) (h0 v) = true := made_in ((openM_P _).has _ (by simp))
theorem hidden_yes {v : Int} {one : Tm} {l : List Tm} : madeT (openM (l ++ hid v one ++ [hS v])) (hMS v) = true := by
  have hs : madeT (openM (l ++ hid v one ++ [hS v])) (hS v) = true := made_in ((openM_P _).has _ (by simp))
  rw [madeT, madeL, madeL, hs, madeL, madeT]
  simp
theorem hid_may {v : Int} {one : Tm} (hv : 1000 ≤ v ∧ v ≤ 66535) (ho : allR one = true) (hs : szT one ≤ 31) (hd : dpT one ≤ 5) : ∀ t ∈ hid v one, mayF t = true := by
  have hS0 := may_allR (may_hS hv)
  have hx0 := may_allR may_ax
  have hsS : szT (hS v) = 1 := by simp [szT, szL]
  have hdS : dpT (hS v) = 1 := by simp [dpT, dpL]
  have hsx : szT ax = 1 := by simp [szT, szL]
  have hdx : dpT ax = 1 := by simp [dpT, dpL]
  intro t ht
  simp only [hid, List.mem_cons, List.not_mem_nil, or_false] at ht
  rcases ht with rfl | rfl | rfl | rfl | rfl
  · exact may_T1 3 _ (by omega) hS0 (by omega) (by omega)
  · exact may_T1 4 _ (by omega) hS0 (by omega) (by omega)
  · exact may_T2 5 _ _ (by omega) hS0 ho (by omega) (by omega) (by omega)
  · exact may_T2 6 _ _ (by omega) hS0 hx0 (by omega) (by omega) (by omega)
  · have h7m := may_T2 7 (hS v) one (by omega) hS0 ho (by omega) (by omega) (by omega)
    refine may_T1 3 _ (by omega) (may_allR h7m) ?_ ?_
    · simp only [szT, szL]; omega
    · simp only [dpT, dpL]; omega
theorem may_MA {v : Int} (hv : 1000 ≤ v ∧ v ≤ 66535) : mayF (hMA v) = true := may_T2 5 _ _ (by omega) (may_allR (may_hS hv)) (may_allR may_hy) (by simp [szT, szL]) (by simp [dpT, dpL]) (by simp [dpT, dpL])
theorem may_MS {v : Int} (hv : 1000 ≤ v ∧ v ≤ 66535) : mayF (hMS v) = true := may_T2 6 _ _ (by omega) (may_allR (may_hS hv)) (may_allR may_hy) (by simp [szT, szL]) (by simp [dpT, dpL]) (by simp [dpT, dpL])
end Go.Proofs.Ytmnmhehddbemkaa
namespace Go.Proofs.Ytmnmhehddbemkaa
open Go Go.Eng
set_option maxRecDepth 100000

theorem knowHidden_fn (ns : List Int) (n : Int) (hn : ns.length ≤ 9223372036854775807) : Gives Try.prog 10 [.lst 1 (ints ns), I n] .tt := by
  have hT := terms_fn ns 6 hn (by omega)
  have hlm := genL_may ns 6 0 (by omega)
  have hll := genL_len ns 6 0
  generalize genL ns 6 0 = l at hT hlm hll
  have hO := oneT_fn ns hn
  have hom := gen4_may ns
  have hne := one_ne ns
  obtain ⟨hdr, hdd⟩ := genT_may ns 4 0 (by omega)
  have hsz := (genT_gd ns 4 0 (by omega)).2
  generalize (genT ns 4 0).1 = one at hO hom hne hdr hdd hsz
  have hv0 := andF_le n
  have hv : 1000 ≤ 1000 + andF n ∧ 1000 + andF n ≤ 66535 := by omega
  have hrl := rowsT_len l
  refine contract_of ty_ok [0, 1, 2, 3, 4, 5, 6, 7] Try.func10 rfl (by decide) Try.ntmps10 rfl fun z => ?_
  refine run 400 rfl ?_
  refine at_fn known28_fn rfl ?_
  refine run 400 rfl ?_
  refine at_val (.int .i64 (andF n)) (does_binInt rfl rfl rfl fun w => ⟨.int .i64 (andF n), ?_, fun _ _ => rfl⟩) ?_
  · have e : IntKind.i64.wrap (andF n) = andF n := by
      simp only [IntKind.wrap, IntKind.bits, IntKind.signed]
      have := andF_le n
      simp
      omega
    have e2 : (Op.intBits .and .i64 n 65535).run Try.prog w = .ok (.int .i64 (andF n)) w := by
      unfold Op.intBits
      show Result.ok (Value.int .i64 (IntKind.i64.wrap (andF n))) w = _
      rw [e]
    exact e2
  generalize andF n = a at hv hv0
  refine run 400 rfl ?_
  generalize 1000 + a = v at hv
  refine at_fn (N_fn v) rfl ?_
  refine run 400 rfl ?_
  refine at_fn hT rfl ?_
  refine run 400 rfl ?_
  refine at_loop (fun i : Nat => i ≤ l.length ∧ ∀ t ∈ l.take i, hasT (hS v) t = false) (fun i => [(0, .lst 1 (ints ns)), (5, .ptr 0 0), (6, .lst 4 (rowsT l)), (7, I i)]) (fun _ => [(0, own33 (hS v))]) (fun i => l.length - i) [1, 2, 3, 4, 5, 6, 7]
    0 ⟨by omega, by simp⟩ ⟨SVle.refl _, SVle.refl _, SVle.refl _, SVle.refl _, trivial⟩ ⟨rfl, trivial⟩ ?_
  rintro i ⟨a1, a2⟩
  refine run 400 rfl ?_
  refine at_ifd rfl (fun g => ?_) (fun g => ?_)
  · rw [hrl] at g
    have hlt : i < l.length := by omega
    have hget := rowsT_get hlt
    have hgetD : l[i]? = some (l.getD i .zero) := getD_eq hlt
    have hmt := hlm _ (getD_mem hlt)
    generalize l.getD i .zero = t at hget hmt hgetD
    refine run 400 rfl ?_
    refine at_drawn 6 rfl rfl [(2, .val (.rp (tr t) 0)), (5, .sv (.bl (hasT (hS v) t)))] [20, 21, 22] rfl ⟨rhas_fn (hS v) t (mayF_gd hmt).sm, does_index ty_ok _ rfl rfl rfl (by omega) (show (rowsT l)[(i : Int).toNat]? = some (tr t) from hget) rfl⟩ ?_
    refine run 400 rfl ?_
    refine at_if rfl (fun _ => ?_) (fun q => ?_)
    · refine run 400 rfl ?_
      exact at_ret rfl rfl [] ⟨rfl, rfl, rfl⟩ trivial
    · refine run 400 rfl ?_
      exact at_again (i + 1) ⟨by omega, fun t' ht' => by
        rw [List.take_add_one, hgetD] at ht'
        rcases List.mem_append.1 ht' with h | h
        · exact a2 t' h
        · simp at h; subst h; exact q⟩ (by omega) ⟨SVle.refl _, SVle.refl _, SVle.refl _, SVle.of_eq (by show I ((i : Int) + 1) = I ((i + 1 : Nat) : Int); rw [Int.natCast_add]; rfl), trivial⟩ ⟨rfl, trivial⟩
  rw [hrl] at g
  have hhas : ∀ t ∈ l, hasT (hS v) t = false := fun t ht => a2 t (by rw [List.take_of_length_le (by omega)]; exact ht)
  have hhm := hid_may (one := one) hv hdr (by omega) hdd
  have hall : ∀ t ∈ l ++ hid v one, mayF t = true := fun t ht => (List.mem_append.1 ht).elim (hlm t) (hhm t)
  have hall2 : ∀ t ∈ l ++ hid v one ++ [hS v], mayF t = true := fun t ht => (List.mem_append.1 ht).elim (hall t) fun h => by rw [List.mem_singleton] at h; subst h; exact may_hS hv
  have hrows : rowsT (hid v one) = [tr (h0 v), tr (h1 v), tr (h2 v one), tr (h3 v), tr (h4 v one)] := by rw [rowsT_cons, rowsT_cons, rowsT_cons, rowsT_cons, rowsT_cons, rowsT_nil]
  have hrall : rowsT (l ++ hid v one) = [] ++ rowsT l ++ [tr (h0 v), tr (h1 v), tr (h2 v one), tr (h3 v), tr (h4 v one)] := by rw [rowsT_app, hrows]; rfl
  have hrall2 : rowsT (l ++ hid v one ++ [hS v]) = [] ++ rowsT l ++ [tr (h0 v), tr (h1 v), tr (h2 v one), tr (h3 v), tr (h4 v one)] ++ [tr (hS v)] := by rw [rowsT_app, hrall, rowsT_cons, rowsT_nil]
  have k1 : Gives Try.prog 31 [.lst 4 (rowsT (l ++ hid v one)), (hS v).sv] .ff := gives_is (c := false) (can31_fn _ _ hall (by simp; omega) (may_hS hv)) (hidden_S hhas)
  have k2 : Gives Try.prog 31 [.lst 4 (rowsT (l ++ hid v one)), (h0 v).sv] .tt := gives_is (c := true) (can31_fn _ _ hall (by simp; omega) (hhm _ (by simp))) hidden_0
  have k3 : Gives Try.prog 31 [.lst 4 (rowsT (l ++ hid v one)), (hMA v).sv] .ff := gives_is (c := false) (can31_fn _ _ hall (by simp; omega) (may_MA hv)) (hidden_MA hhas hne)
  have k4 : Gives Try.prog 31 [.lst 4 (rowsT (l ++ hid v one)), (hMS v).sv] .ff := gives_is (c := false) (can31_fn _ _ hall (by simp; omega) (may_MS hv)) (hidden_MS hhas)
  have k5 : Gives Try.prog 31 [.lst 4 (rowsT (l ++ hid v one ++ [hS v])), (hMS v).sv] .tt := gives_is (c := true) (can31_fn _ _ hall2 (by simp; omega) (may_MS hv)) hidden_yes
  rw [hrall] at k1 k2 k3 k4
  rw [hrall2] at k5
  have gl : ∀ {rows : List (List DV)} {k : Nat} {t r : SV}, Gives Try.prog 31 [.lst 4 rows, t] r → Gives Try.prog 31 [.gl k 4 rows, t] r := fun h => h.weak ⟨SVle.gl _ _ _, SVle.refl _, trivial⟩
  refine run 400 rfl ?_
  refine at_drawn 23 rfl rfl [(1, .gro (.tl 4 [tr (hS v)])), (2, .sv (h0 v).sv), (4, .gro (.tl 4 [tr (hS v)])), (5, .sv (h1 v).sv), (8, .sv one.sv), (9, .gro (.tl 4 [tr (hS v), tr one])), (10, .sv (h2 v one).sv), (12, .sv ax.sv), (13, .gro (.tl 4 [tr (hS v), tr ax])), (14, .sv (h3 v).sv), (17, .sv one.sv), (18, .gro (.tl 4 [tr (hS v), tr one])), (19, .sv (h7 v one).sv), (20, .gro (.tl 4 [tr (h7 v one)])), (21, .sv (h4 v one).sv), (22, .gro (.tl 4 [tr (h0 v), tr (h1 v), tr (h2 v one), tr (h3 v), tr (h4 v one)]))] [20, 21, 22] rfl
    ⟨doesG_build ty_ok _ rfl ⟨⟨rfl, rfl, _, rfl, SVles.refl _⟩, ⟨rfl, rfl, _, rfl, SVles.refl _⟩, ⟨rfl, rfl, _, rfl, SVles.refl _⟩, ⟨rfl, rfl, _, rfl, SVles.refl _⟩, ⟨rfl, rfl, _, rfl, SVles.refl _⟩, trivial⟩ rfl rfl (by decide),
      T1_fn 3 (h7 v one), doesG_build ty_ok _ rfl ⟨⟨rfl, rfl, _, rfl, SVles.refl _⟩, trivial⟩ rfl rfl (by decide), T2_fn 7 (hS v) one, doesG_build ty_ok _ rfl ⟨⟨rfl, rfl, _, rfl, SVles.refl _⟩, ⟨rfl, rfl, _, rfl, SVles.refl _⟩, trivial⟩ rfl rfl (by decide), hO,
      T2_fn 6 (hS v) ax, doesG_build ty_ok _ rfl ⟨⟨rfl, rfl, _, rfl, SVles.refl _⟩, ⟨rfl, rfl, _, rfl, SVles.refl _⟩, trivial⟩ rfl rfl (by decide), A_fn _, T2_fn 5 (hS v) one, doesG_build ty_ok _ rfl ⟨⟨rfl, rfl, _, rfl, SVles.refl _⟩, ⟨rfl, rfl, _, rfl, SVles.refl _⟩, trivial⟩ rfl rfl (by decide), hO,
      T1_fn 4 (hS v), doesG_build ty_ok _ rfl ⟨⟨rfl, rfl, _, rfl, SVles.refl _⟩, trivial⟩ rfl rfl (by decide), T1_fn 3 (hS v), doesG_build ty_ok _ rfl ⟨⟨rfl, rfl, _, rfl, SVles.refl _⟩, trivial⟩ rfl rfl (by decide)⟩ ?_
  refine run 400 rfl ?_
  refine at_gro (.tl 4 []) (doesG_build ty_ok _ rfl trivial rfl rfl (by decide)) ?_
  refine run 400 rfl ?_
  refine at_name 53 5 4 rfl (.inl rfl) ?_
  refine at_grow 5 5 4 ([] ++ rowsT l) rfl (doesU_append ty_ok rfl rfl rfl rfl rfl rfl rfl (by simp; omega) (by show _ * 56 ≤ _; simp; omega)) rfl ?_
  refine run 400 rfl ?_
  refine at_grow 5 5 4 ([] ++ rowsT l ++ [tr (h0 v), tr (h1 v), tr (h2 v one), tr (h3 v), tr (h4 v one)]) rfl (doesU_append ty_ok rfl rfl rfl rfl rfl rfl rfl (by simp; omega) (by show _ * 56 ≤ _; simp; omega)) rfl ?_
  refine run 400 rfl ?_
  refine at_drawn_st 40 [5] rfl rfl [(2, .sv .ff), (7, .val (.rp (tr (h0 v)) 0)), (9, .sv .tt), (14, .sv hy.sv), (15, .gro (.tl 4 [tr (hS v), tr hy])), (16, .sv (hMA v).sv), (17, .sv .ff), (23, .sv hy.sv), (24, .gro (.tl 4 [tr (hS v), tr hy])), (25, .sv (hMS v).sv), (26, .sv .ff), (32, .gro (.tl 4 [tr (hS v)])), (33, .eat 5 4 ([] ++ rowsT l ++ [tr (h0 v), tr (h1 v), tr (h2 v one), tr (h3 v), tr (h4 v one)] ++ [tr (hS v)]) none), (35, .sv hy.sv), (36, .gro (.tl 4 [tr (hS v), tr hy])), (37, .sv (hMS v).sv), (38, .sv .tt)] [20, 21, 22] rfl
    ⟨gl k5, T2_fn 6 (hS v) hy, doesG_build ty_ok _ rfl ⟨⟨rfl, rfl, _, rfl, SVles.refl _⟩, ⟨rfl, rfl, _, rfl, SVles.refl _⟩, trivial⟩ rfl rfl (by decide), A_fn _, doesU_append ty_ok rfl rfl rfl rfl rfl rfl rfl (by simp; omega) (by show _ * 56 ≤ _; simp; omega), doesG_build ty_ok _ rfl ⟨⟨rfl, rfl, _, rfl, SVles.refl _⟩, trivial⟩ rfl rfl (by decide),
      gl k4, T2_fn 6 (hS v) hy, doesG_build ty_ok _ rfl ⟨⟨rfl, rfl, _, rfl, SVles.refl _⟩, ⟨rfl, rfl, _, rfl, SVles.refl _⟩, trivial⟩ rfl rfl (by decide), A_fn _,
      gl k3, T2_fn 5 (hS v) hy, doesG_build ty_ok _ rfl ⟨⟨rfl, rfl, _, rfl, SVles.refl _⟩, ⟨rfl, rfl, _, rfl, SVles.refl _⟩, trivial⟩ rfl rfl (by decide), A_fn _,
      gl k2, does_index ty_ok _ rfl rfl rfl (by decide) rfl rfl, gl k1⟩ ?_
  refine run 400 rfl ?_
  exact at_ret rfl rfl [] ⟨rfl, rfl, rfl⟩ trivial
end Go.Proofs.Ytmnmhehddbemkaa
