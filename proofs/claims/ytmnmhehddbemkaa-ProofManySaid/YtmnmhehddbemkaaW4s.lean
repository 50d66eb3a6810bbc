import Derived.Test.YtmnmhehddbemkaaW4r
namespace Go.Proofs.Ytmnmhehddbemkaa
open Go Go.Eng

theorem genT_gd (ns : List Int) : ∀ (d : Nat) (j : Int), 0 ≤ j ∧ j ≤ ns.length → Gd (genT ns d j).1 ∧ szT (genT ns d j).1 < 2 ^ (d + 1) := by
  have hA : ∀ j : Int, Gd (leafA ns j).1 ∧ szT (leafA ns j).1 = 1 := fun j => ⟨.mk rfl (by simp), by simp [leafA, szT, szL]⟩
  have hN : ∀ j : Int, Gd (leafN ns j).1 ∧ szT (leafN ns j).1 = 1 := fun j => ⟨.mk rfl (by simp), by simp [leafN, szT, szL]⟩
  intro d
  induction d with
  | zero =>
    intro j h
    simp only [genT]
    split
    · exact ⟨(hA _).1, by rw [(hA _).2]; decide⟩
    · exact ⟨(hN _).1, by rw [(hN _).2]; decide⟩
  | succ d ih =>
    intro j h
    have hx := nextF_le (l := ns) (j := j) (n := 10) h
    have h2 : 2 ^ (d + 1 + 1) = 2 ^ (d + 1) + 2 ^ (d + 1) := by rw [Nat.pow_succ]; omega
    have h1 : 1 < 2 ^ (d + 1) := Nat.one_lt_two_pow (by omega)
    simp only [genT]
    split
    · exact ⟨(hA _).1, by rw [(hA _).2]; omega⟩
    · split
      · exact ⟨(hN _).1, by rw [(hN _).2]; omega⟩
      · obtain ⟨u1, u2⟩ := ih _ hx.2.2
        have hu3 := genT_le ns d _ hx.2.2
        split
        · refine ⟨.mk ?_ (by intro t ht; simp at ht; rw [ht]; exact u1), by simp only [szT, szL]; omega⟩
          have : 3 + (nextF ns j 10).1 - 5 = 3 ∨ 3 + (nextF ns j 10).1 - 5 = 4 := by omega
          rcases this with e | e <;> rw [e] <;> rfl
        · obtain ⟨v1, v2⟩ := ih _ hu3
          refine ⟨.mk ?_ (by intro t ht; simp at ht; rcases ht with rfl | rfl; exact u1; exact v1), by simp only [szT, szL]; omega⟩
          have : 5 + (nextF ns j 10).1 - 7 = 5 ∨ 5 + (nextF ns j 10).1 - 7 = 6 ∨ 5 + (nextF ns j 10).1 - 7 = 7 := by omega
          rcases this with e | e | e <;> rw [e] <;> rfl

theorem genL_gd (ns : List Int) : ∀ (n : Nat) (j : Int), 0 ≤ j ∧ j ≤ ns.length → (∀ t ∈ genL ns n j, Gd t) ∧ szL (genL ns n j) ≤ n * 16
  | 0, _, _ => ⟨by simp [genL], by simp [genL, szL]⟩
  | n + 1, j, h => by
    obtain ⟨h1, h2⟩ := genT_gd ns 3 j h
    obtain ⟨h3, h4⟩ := genL_gd ns n (genT ns 3 j).2 (genT_le ns 3 j h)
    rw [genL]
    split
    · refine ⟨fun t ht => ?_, by rw [szL]; omega⟩
      rcases List.mem_cons.1 ht with rfl | ht
      · exact h1
      · exact h3 t ht
    · exact ⟨by simp, by rw [szL]; omega⟩

theorem runG_len (l : List Tm) : ∀ (ms : List Mv) (acc : List Tm), (runG l ms acc).2 = 0 → (runG l ms acc).1.length = acc.length + ms.length
  | [], acc, _ => by simp [runG]
  | m :: ms, acc, h => by
    rw [runG] at h ⊢
    split
    · rename_i hs
      rw [hs] at h
      cases h
    · rename_i s hs
      rw [hs] at h
      dsimp only at h
      split
      · rename_i hn
        rw [if_pos hn] at h
        split
        · rename_i t hd
          rw [hd] at h
          rw [runG_len l ms _ h]
          simp
          omega
        · rename_i t hd
          rw [hd] at h
          cases h
      · rename_i hn
        rw [if_neg hn] at h
        cases h

theorem madeL_iff {O : List Tm} : ∀ l : List Tm, madeL O l = true ↔ ∀ t ∈ l, madeT O t = true
  | [] => by simp [madeL]
  | t :: l => by rw [madeL, Bool.and_eq_true, madeL_iff l]; simp
theorem made_of_mem {O : List Tm} {t : Tm} (h : t ∈ O) : madeT O t = true := by
  cases t
  rw [madeT, among_iff.2 h]
  simp
theorem made_kids {O : List Tm} (hO : Closed O) {k n : Int} {s : ByteArray} {l : List Tm} (h : madeT O (.mk k n s l) = true) (hk : k = 7 ∨ k = 6) : ∀ t ∈ parts (.mk k n s l), madeT O t = true := by
  intro t ht
  rw [madeT] at h
  have h1 : (k == 1) = false := by rcases hk with rfl | rfl <;> rfl
  rw [h1, Bool.false_or, Bool.or_eq_true] at h
  rcases h with h | h
  · exact made_of_mem (hO _ (among_iff.1 h) t ht)
  · rw [Bool.and_eq_true] at h
    refine (madeL_iff l).1 h.2 t ?_
    rw [parts] at ht
    split at ht
    · exact ht
    · split at ht
      · exact List.mem_of_mem_drop ht
      · cases ht

/-- A step that a move is. -/
def goodS : St → Prop
  | .half _ k d => k = 7 ∧ 0 ≤ d ∨ k = 6 ∧ 1 ≤ d
  | .one k _ => k ≠ 2
  | .two k _ _ => k ≠ 2
  | _ => True
theorem read_good {m : Mv} {s : St} (h : readF m = some s) : goodS s := by
  unfold readF at h
  repeat' split at h
  all_goals (first | (cases h; trivial) | (cases h; show _ ∨ _; decide) | (cases h; show _ ≠ _; decide) | cases h)

theorem does_made {l acc : List Tm} {O : List Tm} {s : St} {t : Tm} (hO : Closed O) (hl : ∀ x ∈ l, x ∈ O) (ha : ∀ x ∈ acc, madeT O x = true) (hs : goodS s) (hn : nearF s acc.length l.length = true) (h : doesF l acc s = (t, true)) : madeT O t = true := by
  have hmem : ∀ (m : List Tm) (n : Int), inF n m.length = true → m.getD n.toNat .zero ∈ m := fun m n h => getD_mem (by have := inF_lt h; omega)
  unfold doesF at h
  cases s with
  | given n =>
    simp only [stepT, Prod.mk.injEq] at h
    rw [← h.1]
    exact made_of_mem (hl _ (hmem l n hn))
  | atom b =>
    simp only [stepT, Prod.mk.injEq] at h
    rw [← h.1, madeT]
    simp
  | half a k d =>
    simp only [stepT] at h
    split at h
    · cases h
    · rename_i u hu
      split at hu
      · rename_i hc
        simp only [Option.some.injEq] at hu
        have hf := ha _ (hmem acc a hn)
        generalize acc.getD a.toNat .zero = f at hu hc hf
        obtain ⟨fk, fn, fs, fl⟩ := f
        simp only [Prod.mk.injEq] at h
        rw [← h.1, ← hu]
        have hfk : fk = k := hc.1
        subst hfk
        have hd : d < fl.length := hc.2
        refine made_kids hO hf (hs.elim (fun h => .inl h.1) (fun h => .inr h.1)) _ ?_
        rw [parts]
        rcases hs with ⟨rfl, h0⟩ | ⟨rfl, h0⟩
        · rw [if_pos rfl]
          exact getD_mem (by omega)
        · rw [if_neg (by omega), if_pos rfl]
          have e : fl.getD d.toNat .zero = (fl.drop 1).getD (d.toNat - 1) .zero := by
            rw [List.getD_eq_getElem?_getD, List.getD_eq_getElem?_getD, List.getElem?_drop, show 1 + (d.toNat - 1) = d.toNat by omega]
          show fl.getD d.toNat .zero ∈ _
          rw [e]
          exact getD_mem (by simp; omega)
      · cases hu
  | one k a =>
    simp only [stepT, Prod.mk.injEq] at h
    have hk : (k == 2) = false := by simpa using (show k ≠ 2 from hs)
    rw [← h.1, madeT, hk, madeL, madeL, ha _ (hmem acc a hn)]
    simp
  | two k a b =>
    simp only [stepT, Prod.mk.injEq] at h
    rw [nearF, Bool.and_eq_true] at hn
    have hk : (k == 2) = false := by simpa using (show k ≠ 2 from hs)
    rw [← h.1, madeT, hk, madeL, madeL, madeL, ha _ (hmem acc a hn.1), ha _ (hmem acc b hn.2)]
    simp

theorem runG_made {l : List Tm} {O : List Tm} (hO : Closed O) (hl : ∀ x ∈ l, x ∈ O) : ∀ (ms : List Mv) (acc : List Tm), (∀ x ∈ acc, madeT O x = true) → ∀ x ∈ (runG l ms acc).1, madeT O x = true
  | [], acc, ha => by simpa [runG] using ha
  | m :: ms, acc, ha => by
    rw [runG]
    split
    · simp
    · rename_i s hs
      split
      · rename_i hn
        split
        · rename_i t hd
          exact runG_made hO hl ms _ fun x hx => (List.mem_append.1 hx).elim (ha x) fun h => by
            simp at h
            rw [h]
            exact does_made hO hl ha (read_good hs) hn hd
        · simp
      · simp
theorem runF_made {l : List Tm} (hg : ∀ t ∈ l, Gd t) (ms : List Mv) : ∀ x ∈ (runF l ms).1, madeT (openF l) x = true := by
  have hO := openF_P hg
  unfold runF
  split
  · simp
  · exact runG_made hO.closed hO.has ms [] (by simp)
theorem runF_len (l : List Tm) (ms : List Mv) (h : (runF l ms).2 = 0) : (runF l ms).1.length = ms.length := by
  unfold runF at h ⊢
  split
  · rename_i h1; rw [if_pos h1] at h; cases h
  · rename_i h1
    rw [if_neg h1] at h
    simpa using runG_len l ms [] h
theorem runG_sm {l : List Tm} : ∀ (ms : List Mv) (acc : List Tm), (∀ x ∈ acc, Sm x) → ∀ x ∈ (runG l ms acc).1, Sm x
  | [], acc, ha => by simpa [runG] using ha
  | m :: ms, acc, ha => by
    rw [runG]
    split
    · simp
    · split
      · split
        · rename_i s _ _ _ t hd
          exact runG_sm ms _ fun x hx => (List.mem_append.1 hx).elim (ha x) fun h => by
            simp at h
            rw [h]
            unfold doesF at hd
            split at hd
            · cases hd
            · simp only [Prod.mk.injEq] at hd
              rw [← hd.1]
              exact (mayF_gd hd.2).sm
        · simp
      · simp
theorem runF_sm (l : List Tm) (ms : List Mv) : ∀ x ∈ (runF l ms).1, Sm x := by
  unfold runF
  split
  · simp
  · exact runG_sm ms [] (by simp)

set_option maxRecDepth 100000 in
theorem proofSound_fn (ns mn : List Int) (h1 : ns.length ≤ 9223372036854775807) (h2 : mn.length ≤ 9223372036854775807) : Gives Try.prog 3 [.lst 1 (ints ns), .lst 1 (ints mn)] .tt := by
  have hT := terms_fn ns 8 h1 (by omega)
  have hM := moves_fn mn 40 h2 (by omega)
  have hgl := genL_gd ns 8 0 (by omega)
  have hml := genM_len mn 40 0 0
  generalize genL ns 8 0 = l at hT hgl
  generalize genM mn 40 0 0 = ms at hM hml
  have hlen := szL_len l
  refine contract_of ty_ok [0, 1, 2, 3, 4, 5, 6, 7] Try.func3 rfl (by decide) Try.ntmps3 rfl fun z => ?_
  refine run 400 rfl ?_
  refine at_fn known16_fn rfl ?_
  refine run 400 rfl ?_
  refine at_fn hT rfl ?_
  refine run 400 rfl ?_
  refine at_fn hM rfl ?_
  refine run 400 rfl ?_
  refine at_loop (fun m : List Mv => m.length ≤ 40) (fun m => [(5, .lst 4 (rowsT l)), (6, .lst 4 (rowsM m))]) (fun _ => []) (fun m => m.length) [0, 1, 2, 3, 4, 5, 6, 7]
    ms hml ⟨SVle.refl _, SVle.refl _, trivial⟩ trivial ?_
  intro m hm
  have hmlen : (rowsM m).length = m.length := by simp
  refine run 400 rfl ?_
  refine at_ifd rfl (fun g => ?_) (fun g => ?_)
  rotate_left
  · refine run 400 rfl ?_
    exact at_ret rfl rfl [] ⟨rfl, rfl, rfl⟩ trivial
  rw [hmlen] at g
  refine run 400 rfl ?_
  have hR := run_fn l m (by omega)
  have hmade := runF_made hgl.1 m
  have hrl := runF_len l m
  have hsm := runF_sm l m
  generalize runF l m = R at hR hmade hrl hsm
  obtain ⟨out, e⟩ := R
  dsimp only at hR hmade hrl hsm
  have hol : (rowsT out).length = out.length := rowsT_len out
  refine at_fn hR rfl ?_
  refine run 400 rfl ?_
  refine at_if rfl (fun q => ?_) (fun q => ?_)
  · have q : e = 0 := by simpa using q
    have hrl := hrl q
    refine run 400 rfl ?_
    refine at_loop (fun i : Nat => i ≤ out.length) (fun i => [(5, .lst 4 (rowsT l)), (6, .lst 4 (rowsM m)), (7, .lst 4 (rowsT out)), (9, I i)]) (fun _ => []) (fun i => out.length - i) [0, 1, 2, 3, 4, 5, 6, 7]
      0 (by omega) ⟨SVle.refl _, SVle.refl _, SVle.refl _, SVle.refl _, trivial⟩ trivial ?_
    intro i hi
    refine run 400 rfl ?_
    refine at_ifd rfl (fun c => ?_) (fun c => ?_)
    rotate_left
    · refine run 400 rfl ?_
      refine at_true 4 rfl (by rw [hol, hmlen, hrl]; exact beq_self_eq_true _) ?_
      exact at_ret rfl rfl [] ⟨rfl, rfl, rfl⟩ trivial
    rw [hol] at c
    have hlt : i < out.length := by omega
    have hget := rowsT_get hlt
    have hmem := getD_mem hlt
    generalize out.getD i .zero = u at hget hmem
    refine run 400 rfl ?_
    refine at_val (.rp (tr u) 0) (does_index ty_ok _ rfl rfl rfl (by omega) (show (rowsT out)[(i : Int).toNat]? = some (tr u) from hget) rfl) ?_
    refine run 400 rfl ?_
    refine at_fn (can_fn l u hgl.1 (by omega) (hsm u hmem)) rfl ?_
    refine run 400 rfl ?_
    refine at_false 39 rfl (by rw [hmade u hmem]; rfl) ?_
    refine run 400 rfl ?_
    exact at_again (i + 1) (by omega) (by omega) ⟨SVle.refl _, SVle.refl _, SVle.refl _, SVle.of_eq (by show I ((i : Int) + 1) = I ((i + 1 : Nat) : Int); rw [Int.natCast_add]; rfl), trivial⟩ trivial
  · refine run 400 rfl ?_
    refine at_val (.lst 4 ((rowsM m).take (((rowsM m).length : Int) - 1).toNat)) (does_slice_h ty_ok rfl rfl rfl (by omega) rfl) ?_
    refine run 400 rfl ?_
    exact at_again (m.take (m.length - 1)) (by simp; omega) (by simp; omega) ⟨SVle.refl _, SVle.of_eq (by show SV.lst 4 ((rowsM m).take (((rowsM m).length : Int) - 1).toNat) = SV.lst 4 (rowsM (m.take (m.length - 1))); rw [hmlen, show (((m.length : Nat) : Int) - 1).toNat = m.length - 1 by omega]; simp only [rowsM, List.map_take]), trivial⟩ trivial
end Go.Proofs.Ytmnmhehddbemkaa
