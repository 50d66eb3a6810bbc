import Derived.Test.YtmnmhehddbemkaaW4e
namespace Go.Proofs.Ytmnmhehddbemkaa
open Go Go.Eng

/-- What one more gives: each that was there, and it; as long as before only where it was there. -/
def AddP (L : List Tm) (t : Tm) (L' : List Tm) : Prop := (∀ x, x ∈ L' ↔ x ∈ L ∨ x = t) ∧ (L' = L ∧ t ∈ L ∨ L'.length = L.length + 1)

def addF : List Tm → Tm → List Tm
  | [], t => [t]
  | u :: L, t => if ordT u t < 0 then u :: addF L t else if same u t then u :: L else t :: u :: L
theorem addF_split {L : List Tm} {t : Tm} : ∀ (i : Nat), (∀ x ∈ L.take i, ordT x t < 0) → addF L t = L.take i ++ addF (L.drop i) t := by
  induction L with
  | nil => intro i _; simp
  | cons u L ih =>
    intro i h
    cases i with
    | zero => simp
    | succ i =>
      simp only [List.take_succ_cons, List.drop_succ_cons, List.cons_append]
      have hu := h u (by simp)
      rw [addF, if_pos hu, ih i fun x hx => h x (by simp [hx])]
theorem addF_P (L : List Tm) (t : Tm) : AddP L t (addF L t) := by
  induction L with
  | nil => exact ⟨fun x => by simp [addF], .inr (by simp [addF])⟩
  | cons u L ih =>
    obtain ⟨h1, h2⟩ := ih
    rw [addF]
    split
    · refine ⟨fun x => ?_, ?_⟩
      · rw [List.mem_cons, h1, List.mem_cons]
        constructor
        · rintro (h | h | h)
          · exact .inl (.inl h)
          · exact .inl (.inr h)
          · exact .inr h
        · rintro ((h | h) | h)
          · exact .inl h
          · exact .inr (.inl h)
          · exact .inr (.inr h)
      · rcases h2 with ⟨e, h2⟩ | h2
        · exact .inl ⟨by rw [e], by simp [h2]⟩
        · exact .inr (by simp [h2])
    · split
      · rename_i hs
        have e := same_iff.1 hs
        subst e
        exact ⟨fun x => ⟨.inl, fun q => q.elim id fun e => by simp [e]⟩, .inl ⟨rfl, by simp⟩⟩
      · exact ⟨fun x => by rw [List.mem_cons]; exact ⟨fun q => q.elim .inr .inl, fun q => q.elim .inr .inl⟩, .inr (by simp)⟩

set_option maxRecDepth 100000 in
theorem add_fn (L : List Tm) (t : Tm) (hL : ∀ x ∈ L, Sm x) (hl : L.length ≤ 10000000) : Gives Try.prog 64 [.lst 4 (rowsT L), t.sv] (.lst 4 (rowsT (addF L t))) := by
  have hlen : ((rowsT L).length : Int) = L.length := by rw [rowsT_len]
  have hlen2 : (rowsT L).length = L.length := rowsT_len L
  refine contract_of ty_ok [0, 1, 2, 3, 4, 5, 6, 7] Try.func64 rfl (by decide) Try.ntmps64 rfl fun z => ?_
  refine run 400 rfl ?_
  refine at_loop (fun i : Int => 0 ≤ i ∧ i ≤ L.length ∧ ∀ x ∈ L.take i.toNat, ordT x t < 0) (fun i => [(0, .lst 4 (rowsT L)), (3, .ptr 0 0), (5, I i)]) (fun _ => [(0, .cells 33 [I t.k, I t.n, .str t.s, .lst 4 (rowsT t.kids)])]) (fun i => (L.length - i).toNat) [1, 2, 3, 4, 5]
    0 ⟨by omega, by omega, by simp⟩ ⟨SVle.refl _, SVle.refl _, SVle.refl _, trivial⟩ ⟨rfl, trivial⟩ ?_
  rintro i ⟨a1, a2, a3⟩
  refine run 400 rfl ?_
  by_cases hlt : i.toNat < L.length
  · have hget := rowsT_get hlt
    have hmem := getD_mem hlt
    have hgetD : L[i.toNat]? = some (L.getD i.toNat .zero) := by rw [List.getD_eq_getElem?_getD, List.getElem?_eq_getElem hlt]; rfl
    have hdrop := drop_getD hlt
    generalize L.getD i.toNat .zero = u at hget hmem hgetD hdrop
    refine at_drawn 12 rfl rfl [(4, .yes), (7, .val (.rp (tr u) 0)), (10, .sv (.bl (decide (ordT u t < 0))))] [20, 21, 22] rfl ⟨less_fn u t (hL u hmem), does_index ty_ok _ rfl rfl rfl a1 hget rfl, decide_eq_true (by rw [hlen]; omega)⟩ ?_
    refine run 400 rfl ?_
    refine at_if rfl (fun h => ?_) (fun h => ?_)
    · refine run 400 rfl ?_
      have h : ordT u t < 0 := by simpa using h
      exact at_again (i + 1) ⟨by omega, by omega, by
        intro x hx
        rw [show (i + 1).toNat = i.toNat + 1 by omega, List.take_add_one, hgetD] at hx
        rcases List.mem_append.1 hx with hx | hx
        · exact a3 x hx
        · simp at hx
          rw [hx]
          exact h⟩ (by omega) ⟨SVle.refl _, SVle.refl _, SVle.refl _, trivial⟩ ⟨rfl, trivial⟩
    · have h : ¬ ordT u t < 0 := by simpa using h
      refine run 400 rfl ?_
      refine at_drawn 12 rfl rfl [(4, .yes), (7, .val (.rp (tr u) 0)), (10, .sv (.bl (same u t)))] [20, 21, 22] rfl ⟨same_fn u t (hL u hmem), does_index ty_ok _ rfl rfl rfl a1 hget rfl, decide_eq_true (by rw [hlen]; omega)⟩ ?_
      refine run 400 rfl ?_
      refine at_if rfl (fun h2 => ?_) (fun h2 => ?_)
      · have e := same_iff.1 h2
        subst e
        refine run 400 rfl ?_
        have e : addF L u = L := by
          rw [addF_split i.toNat a3, hdrop, addF, if_neg h, if_pos h2, ← hdrop, List.take_append_drop]
        exact at_ret rfl rfl [] ⟨by rw [e], rfl, rfl⟩ trivial
      · refine run 400 rfl ?_
        refine at_gro (.tl 4 []) (doesG_build ty_ok _ rfl trivial rfl rfl (by decide)) ?_
        refine run 400 rfl ?_
        refine at_val (.lst 4 ((rowsT L).take i.toNat)) (does_slice_h ty_ok rfl rfl rfl (by omega) rfl) ?_
        refine at_new 5 4 ([] ++ (rowsT L).take i.toNat) (doesT_append ty_ok rfl rfl rfl rfl rfl rfl rfl (by simp; omega) (by show _ * 56 ≤ _; simp; omega)) ?_
        refine run 400 rfl ?_
        refine at_drawn_st 8 [5] rfl rfl [(2, .gro (.tl 4 [tr t])), (3, .eat 5 4 ([] ++ (rowsT L).take i.toNat ++ [tr t]) (some 7)), (6, .val (.lst 4 ((rowsT L).drop i.toNat))), (7, .use 20 4 ([] ++ (rowsT L).take i.toNat ++ [tr t] ++ (rowsT L).drop i.toNat))] [20, 21, 22] rfl
          ⟨doesU_append ty_ok rfl rfl rfl rfl rfl rfl rfl (by simp; omega) (by show _ * 56 ≤ _; simp; omega), does_slice_l ty_ok rfl rfl rfl (by omega) rfl, doesU_append ty_ok rfl rfl rfl rfl rfl rfl rfl (by simp; omega) (by show _ * 56 ≤ _; simp; omega), doesG_build ty_ok _ rfl ⟨⟨rfl, rfl, _, rfl, SVles.refl _⟩, trivial⟩ rfl rfl (by decide)⟩ ?_
        refine run 400 rfl ?_
        have e : addF L t = L.take i.toNat ++ t :: L.drop i.toNat := by
          rw [addF_split i.toNat a3, hdrop, addF, if_neg h, if_neg (by simpa using h2)]
        exact at_ret rfl rfl [] ⟨by rw [e, rowsT_app, rowsT_cons, rowsT_take, rowsT_drop]; simp, rfl, rfl⟩ trivial
  · refine at_drawn 12 rfl rfl [(4, .no)] [20, 21, 22] rfl (decide_eq_false (by rw [hlen]; omega)) ?_
    refine run 400 rfl ?_
    refine at_drawn 12 rfl rfl [(4, .no)] [20, 21, 22] rfl (decide_eq_false (by rw [hlen]; omega)) ?_
    refine run 400 rfl ?_
    refine at_gro (.tl 4 []) (doesG_build ty_ok _ rfl trivial rfl rfl (by decide)) ?_
    refine run 400 rfl ?_
    refine at_val (.lst 4 ((rowsT L).take i.toNat)) (does_slice_h ty_ok rfl rfl rfl (by omega) rfl) ?_
    refine at_new 5 4 ([] ++ (rowsT L).take i.toNat) (doesT_append ty_ok rfl rfl rfl rfl rfl rfl rfl (by simp; omega) (by show _ * 56 ≤ _; simp; omega)) ?_
    refine run 400 rfl ?_
    refine at_drawn_st 8 [5] rfl rfl [(2, .gro (.tl 4 [tr t])), (3, .eat 5 4 ([] ++ (rowsT L).take i.toNat ++ [tr t]) (some 7)), (6, .val (.lst 4 ((rowsT L).drop i.toNat))), (7, .use 20 4 ([] ++ (rowsT L).take i.toNat ++ [tr t] ++ (rowsT L).drop i.toNat))] [20, 21, 22] rfl
      ⟨doesU_append ty_ok rfl rfl rfl rfl rfl rfl rfl (by simp; omega) (by show _ * 56 ≤ _; simp; omega), does_slice_l ty_ok rfl rfl rfl (by omega) rfl, doesU_append ty_ok rfl rfl rfl rfl rfl rfl rfl (by simp; omega) (by show _ * 56 ≤ _; simp; omega), doesG_build ty_ok _ rfl ⟨⟨rfl, rfl, _, rfl, SVles.refl _⟩, trivial⟩ rfl rfl (by decide)⟩ ?_
    refine run 400 rfl ?_
    have e : addF L t = L.take i.toNat ++ t :: L.drop i.toNat := by
      rw [addF_split i.toNat a3, List.drop_eq_nil_of_le (by omega), addF]
    exact at_ret rfl rfl [] ⟨by rw [e, rowsT_app, rowsT_cons, rowsT_take, rowsT_drop]; simp, rfl, rfl⟩ trivial
end Go.Proofs.Ytmnmhehddbemkaa
