import Derived.Test.YtmnmhehddbemkaaW4i
namespace Go.Proofs.Ytmnmhehddbemkaa
open Go Go.Eng

def genL (ns : List Int) : Nat → Int → List Tm
  | 0, _ => []
  | n + 1, j => if j < ns.length then (genT ns 3 j).1 :: genL ns n (genT ns 3 j).2 else []
theorem genL_len (ns : List Int) : ∀ (n : Nat) (j : Int), (genL ns n j).length ≤ n
  | 0, _ => by simp [genL]
  | n + 1, j => by
    rw [genL]
    split
    · have := genL_len ns n (genT ns 3 j).2
      simp; omega
    · simp

set_option maxRecDepth 100000 in
theorem terms_fn (ns : List Int) (most : Nat) (hl : ns.length ≤ 9223372036854775807) (hm : most ≤ 1000) : Gives Try.prog 17 [.lst 1 (ints ns), I most] (.lst 4 (rowsT (genL ns most 0))) := by
  refine contract_of ty_ok [0, 1, 2, 3, 4, 6, 7] Try.func17 rfl (by decide) Try.ntmps17 rfl fun z => ?_
  refine run 400 rfl ?_
  refine at_name 6 5 4 rfl (.inr rfl) ?_
  refine at_loop (fun x : List Tm × Nat × Int => x.2.1 ≤ most ∧ x.1.length = x.2.1 ∧ 0 ≤ x.2.2 ∧ x.2.2 ≤ ns.length ∧ x.1 ++ genL ns (most - x.2.1) x.2.2 = genL ns most 0)
    (fun x => [(1, I most), (5, .ptr 0 0), (6, .gl 5 4 (rowsT x.1)), (7, I x.2.1)]) (fun x => [(0, tape ns x.2.2), (5, .tok 4)]) (fun x => most - x.2.1) [1, 2, 3, 4, 6, 7]
    ([], 0, 0) ⟨by simp, rfl, by simp, by simp, by simp⟩ ⟨SVle.refl _, SVle.refl _, SVle.of_eq (by show SV.gl 5 4 [] = SV.gl 5 4 (rowsT []); rw [rowsT_nil]), SVle.refl _, trivial⟩ ⟨rfl, rfl, trivial⟩ ?_
  rintro ⟨acc, i, j⟩ ⟨a1, a2, a3, a4, a5⟩
  dsimp only at a1 a2 a3 a4 a5
  refine run 400 rfl ?_
  refine at_split 14 rfl (fun h => ?_) (fun h => ?_)
  rotate_left
  · rw [decide_eq_false_iff_not] at h
    dsimp only at h
    have e : most - i = 0 := by omega
    rw [e, genL, List.append_nil] at a5
    refine at_deg 5 ?_
    refine run 400 rfl ?_
    exact at_ret rfl rfl [] ⟨by rw [a5], rfl, rfl⟩ trivial
  rw [decide_eq_true_eq] at h
  dsimp only at h
  refine run 400 rfl ?_
  refine at_metF 0 (more_fn ns j) rfl rfl rfl ?_
  refine run 400 rfl ?_
  obtain ⟨q, hq⟩ : ∃ q, most - i = q + 1 := ⟨most - i - 1, by omega⟩
  rw [hq, genL] at a5
  refine at_ifd rfl (fun h2 => ?_) (fun h2 => ?_)
  rotate_left
  · rw [if_neg h2, List.append_nil] at a5
    refine at_deg 5 ?_
    refine run 400 rfl ?_
    exact at_ret rfl rfl [] ⟨by rw [a5], rfl, rfl⟩ trivial
  rw [if_pos h2] at a5
  have ht := term_fn ns hl 3 (by omega) j a3 a4
  have ht2 := genT_le ns 3 j ⟨a3, a4⟩
  generalize genT ns 3 j = u at ht ht2 a5
  obtain ⟨u, j'⟩ := u
  dsimp only at ht ht2 a5
  have hlen : (rowsT acc).length = acc.length := rowsT_len acc
  refine run 400 rfl ?_
  refine at_metF 0 ht rfl rfl rfl ?_
  refine run 400 rfl ?_
  refine at_gro (.tl 4 [tr u]) (doesG_build ty_ok _ rfl ⟨⟨rfl, rfl, _, rfl, SVles.refl _⟩, trivial⟩ rfl rfl (by decide)) ?_
  refine at_grow 5 5 4 (rowsT acc ++ [tr u]) rfl (doesU_append ty_ok rfl rfl rfl rfl rfl rfl rfl (by simp; omega) (by show _ * 56 ≤ _; simp; omega)) rfl ?_
  refine run 400 rfl ?_
  exact at_again (acc ++ [u], i + 1, j') ⟨by dsimp only; omega, by simp [a2], by dsimp only; omega, by dsimp only; omega, by dsimp only; rw [← a5, List.append_assoc, show most - (i + 1) = q by omega]; rfl⟩ (by dsimp only; omega)
    ⟨SVle.refl _, SVle.refl _, SVle.of_eq (by show SV.gl 5 4 (rowsT acc ++ [tr u]) = SV.gl 5 4 (rowsT (acc ++ [u])); rw [rowsT_app, rowsT_cons, rowsT_nil]), SVle.of_eq (by show I ((i : Int) + 1) = I ((i + 1 : Nat) : Int); rw [Int.natCast_add]; rfl), trivial⟩ ⟨rfl, rfl, trivial⟩
end Go.Proofs.Ytmnmhehddbemkaa
