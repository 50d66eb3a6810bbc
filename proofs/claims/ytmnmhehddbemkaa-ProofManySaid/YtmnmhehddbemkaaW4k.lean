import Derived.Test.YtmnmhehddbemkaaW4j
namespace Go.Proofs.Ytmnmhehddbemkaa
open Go Go.Eng

/-- A move. -/
structure Mv where
  k : Int
  a : Int
  b : Int
  s : ByteArray
abbrev mr (m : Mv) : List DV := [.int .i64 m.k, .int .i64 m.a, .int .i64 m.b, .str m.s]
abbrev Mv.sv (m : Mv) : SV := .agg [I m.k, I m.a, I m.b, .str m.s]
abbrev rowsM (l : List Mv) : List (List DV) := l.map mr
def Mv.zero : Mv := ⟨0, 0, 0, .empty⟩
theorem rowsM_get {l : List Mv} {n : Nat} (h : n < l.length) : (rowsM l)[n]? = some (mr (l.getD n .zero)) := by
  rw [List.getElem?_map, List.getElem?_eq_getElem h, List.getD_eq_getElem?_getD, List.getElem?_eq_getElem h]
  rfl

def few : List ByteArray := [⟨#[97]⟩, ⟨#[98]⟩, ⟨#[]⟩]
/-- A move of numbers, and where the tape stands behind it. -/
def genV (ns : List Int) (i j : Int) : Mv × Int :=
  let r1 := nextF ns j 10
  let r2 := nextF ns r1.2 (i + 1)
  let r3 := nextF ns r2.2 (i + 1)
  let p := pickF ns r3.2 few
  let c := nextF ns p.2 12
  if c.1 = 0 then (⟨(nextF ns c.2 13).1, (nextF ns (nextF ns c.2 13).2 30).1 - 2, r3.1, p.1⟩, (nextF ns (nextF ns c.2 13).2 30).2)
  else (⟨1 + r1.1, r2.1, r3.1, p.1⟩, c.2)
def genM (ns : List Int) : Nat → Nat → Int → List Mv
  | 0, _, _ => []
  | n + 1, i, j => if j < ns.length then (genV ns i j).1 :: genM ns n (i + 1) (genV ns i j).2 else []
theorem genM_len (ns : List Int) : ∀ (n i : Nat) (j : Int), (genM ns n i j).length ≤ n
  | 0, _, _ => by simp [genM]
  | n + 1, i, j => by
    rw [genM]
    split
    · have := genM_len ns n (i + 1) (genV ns i j).2
      simp; omega
    · simp

set_option maxRecDepth 100000 in
theorem moves_fn (ns : List Int) (most : Nat) (hl : ns.length ≤ 9223372036854775807) (hm : most ≤ 1000) : Gives Try.prog 18 [.lst 1 (ints ns), I most] (.lst 4 (rowsM (genM ns most 0 0))) := by
  refine contract_of ty_ok [0, 1, 2, 3, 4, 6, 7] Try.func18 rfl (by decide) Try.ntmps18 rfl fun z => ?_
  refine run 400 rfl ?_
  refine at_name 6 5 4 rfl (.inr rfl) ?_
  refine at_loop (fun x : List Mv × Nat × Int => x.2.1 ≤ most ∧ x.1.length = x.2.1 ∧ 0 ≤ x.2.2 ∧ x.2.2 ≤ ns.length ∧ x.1 ++ genM ns (most - x.2.1) x.2.1 x.2.2 = genM ns most 0 0)
    (fun x => [(1, I most), (5, .ptr 0 0), (6, .gl 5 4 (rowsM x.1)), (7, I x.2.1)]) (fun x => [(0, tape ns x.2.2), (5, .tok 4)]) (fun x => most - x.2.1) [1, 2, 3, 4, 6, 7]
    ([], 0, 0) ⟨by simp, rfl, by simp, by simp, by simp⟩ ⟨SVle.refl _, SVle.refl _, SVle.refl _, SVle.refl _, trivial⟩ ⟨rfl, rfl, trivial⟩ ?_
  rintro ⟨acc, i, j⟩ ⟨a1, a2, a3, a4, a5⟩
  dsimp only at a1 a2 a3 a4 a5
  refine run 400 rfl ?_
  refine at_split 15 rfl (fun h => ?_) (fun h => ?_)
  rotate_left
  · rw [decide_eq_false_iff_not] at h
    dsimp only at h
    have e : most - i = 0 := by omega
    rw [e, genM, List.append_nil] at a5
    refine at_deg 5 ?_
    refine run 400 rfl ?_
    exact at_ret rfl rfl [] ⟨by rw [a5], rfl, rfl⟩ trivial
  rw [decide_eq_true_eq] at h
  dsimp only at h
  refine run 400 rfl ?_
  refine at_metF 0 (more_fn ns j) rfl rfl rfl ?_
  refine run 400 rfl ?_
  obtain ⟨q, hq⟩ : ∃ q, most - i = q + 1 := ⟨most - i - 1, by omega⟩
  rw [hq, genM] at a5
  refine at_ifd rfl (fun h2 => ?_) (fun h2 => ?_)
  rotate_left
  · rw [if_neg h2, List.append_nil] at a5
    refine at_deg 5 ?_
    refine run 400 rfl ?_
    exact at_ret rfl rfl [] ⟨by rw [a5], rfl, rfl⟩ trivial
  rw [if_pos h2] at a5
  have hlen : (rowsM acc).length = acc.length := by simp
  have hv : genV ns i j = if (nextF ns (pickF ns (nextF ns (nextF ns (nextF ns j 10).2 (i + 1)).2 (i + 1)).2 few).2 12).1 = 0 then
      (⟨(nextF ns (nextF ns (pickF ns (nextF ns (nextF ns (nextF ns j 10).2 (i + 1)).2 (i + 1)).2 few).2 12).2 13).1, (nextF ns (nextF ns (nextF ns (pickF ns (nextF ns (nextF ns (nextF ns j 10).2 (i + 1)).2 (i + 1)).2 few).2 12).2 13).2 30).1 - 2, (nextF ns (nextF ns (nextF ns j 10).2 (i + 1)).2 (i + 1)).1, (pickF ns (nextF ns (nextF ns (nextF ns j 10).2 (i + 1)).2 (i + 1)).2 few).1⟩, (nextF ns (nextF ns (nextF ns (pickF ns (nextF ns (nextF ns (nextF ns j 10).2 (i + 1)).2 (i + 1)).2 few).2 12).2 13).2 30).2)
      else (⟨1 + (nextF ns j 10).1, (nextF ns (nextF ns j 10).2 (i + 1)).1, (nextF ns (nextF ns (nextF ns j 10).2 (i + 1)).2 (i + 1)).1, (pickF ns (nextF ns (nextF ns (nextF ns j 10).2 (i + 1)).2 (i + 1)).2 few).1⟩, (nextF ns (pickF ns (nextF ns (nextF ns (nextF ns j 10).2 (i + 1)).2 (i + 1)).2 few).2 12).2) := rfl
  have n1 := next_fn ns j 10 hl ⟨a3, a4⟩ (by omega)
  have l1 := nextF_le (l := ns) (j := j) (n := 10) ⟨a3, a4⟩
  generalize nextF ns j 10 = r1 at hv n1 l1
  obtain ⟨v1, j1⟩ := r1
  dsimp only at hv n1 l1
  have n2 := next_fn ns j1 (i + 1) hl l1.2.2 (by omega)
  have l2 := nextF_le (l := ns) (j := j1) (n := i + 1) l1.2.2
  generalize nextF ns j1 (i + 1) = r2 at hv n2 l2
  obtain ⟨v2, j2⟩ := r2
  dsimp only at hv n2 l2
  have n3 := next_fn ns j2 (i + 1) hl l2.2.2 (by omega)
  have l3 := nextF_le (l := ns) (j := j2) (n := i + 1) l2.2.2
  generalize nextF ns j2 (i + 1) = r3 at hv n3 l3
  obtain ⟨v3, j3⟩ := r3
  dsimp only at hv n3 l3
  have n4 := pick_fn ns j3 few (by simp [few]) (by simp [few]) hl l3.2.2
  have l4 : 0 ≤ (pickF ns j3 few).2 ∧ (pickF ns j3 few).2 ≤ ns.length := (nextF_le (l := ns) (j := j3) (n := few.length) l3.2.2).2.2
  generalize pickF ns j3 few = r4 at hv n4 l4
  obtain ⟨v4, j4⟩ := r4
  dsimp only at hv n4 l4
  have n5 := next_fn ns j4 12 hl l4 (by omega)
  have l5 := nextF_le (l := ns) (j := j4) (n := 12) l4
  generalize nextF ns j4 12 = r5 at hv n5 l5
  obtain ⟨v5, j5⟩ := r5
  dsimp only at hv n5 l5
  refine run 400 rfl ?_
  refine at_metF 0 n1 rfl rfl rfl ?_
  refine run 400 rfl ?_
  refine at_metF 0 n2 rfl rfl rfl ?_
  refine run 400 rfl ?_
  refine at_metF 0 n3 rfl rfl rfl ?_
  refine run 400 rfl ?_
  refine at_gro (.tl 1 (strs few)) (doesG_build ty_ok _ rfl ⟨⟨rfl, rfl, _, rfl, SVles.refl _⟩, ⟨rfl, rfl, _, rfl, SVles.refl _⟩, ⟨rfl, rfl, _, rfl, SVles.refl _⟩, trivial⟩ rfl rfl (by decide)) ?_
  refine run 400 rfl ?_
  refine at_metF 0 n4 rfl rfl rfl ?_
  refine run 400 rfl ?_
  refine at_metF 0 n5 rfl rfl rfl ?_
  refine run 400 rfl ?_
  refine at_join (fun x : Mv × Int => genV ns i j = x ∧ 0 ≤ x.2 ∧ x.2 ≤ ns.length) (fun x => [(1, I most), (5, .ptr 0 0), (6, .gl 5 4 (rowsM acc)), (7, I i), (8, .ptr 1 0)]) (fun x => [(0, tape ns x.2), (1, .cells 37 [I x.1.k, I x.1.a, I x.1.b, .str x.1.s]), (5, .tok 4)]) [2, 3, 4, 6, 7] ?_ ?_
  · refine at_if rfl (fun g => ?_) (fun g => ?_)
    · have g : v5 = 0 := by simpa using g
      rw [if_pos g] at hv
      have n6 := next_fn ns j5 13 hl l5.2.2 (by omega)
      have l6 := nextF_le (l := ns) (j := j5) (n := 13) l5.2.2
      generalize nextF ns j5 13 = r6 at hv n6 l6
      obtain ⟨v6, j6⟩ := r6
      dsimp only at hv n6 l6
      have n7 := next_fn ns j6 30 hl l6.2.2 (by omega)
      have l7 := nextF_le (l := ns) (j := j6) (n := 30) l6.2.2
      generalize nextF ns j6 30 = r7 at hv n7 l7
      obtain ⟨v7, j7⟩ := r7
      dsimp only at hv n7 l7
      refine run 400 rfl ?_
      refine at_metF 0 n6 rfl rfl rfl ?_
      refine run 400 rfl ?_
      refine at_metF 0 n7 rfl rfl rfl ?_
      refine run 400 rfl ?_
      exact at_joined (⟨v6, v7 - 2, v3, v4⟩, j7) ⟨hv, l7.2.2⟩ ⟨SVle.refl _, SVle.refl _, SVle.refl _, SVle.refl _, SVle.refl _, trivial⟩ ⟨rfl, rfl, rfl, trivial⟩
    · have g : ¬ v5 = 0 := by simpa using g
      rw [if_neg g] at hv
      refine run 400 rfl ?_
      exact at_joined (⟨1 + v1, v2, v3, v4⟩, j5) ⟨hv, l5.2.2⟩ ⟨SVle.refl _, SVle.refl _, SVle.refl _, SVle.refl _, SVle.refl _, trivial⟩ ⟨rfl, rfl, rfl, trivial⟩
  rintro ⟨m, j'⟩ ⟨hm', hj1, hj2⟩
  dsimp only at hj1 hj2
  rw [hm'] at a5
  dsimp only at a5
  refine run 400 rfl ?_
  refine at_gro (.tl 4 [mr m]) (doesG_build ty_ok _ rfl ⟨⟨rfl, rfl, _, rfl, SVles.refl _⟩, trivial⟩ rfl rfl (by decide)) ?_
  refine at_grow 5 5 4 (rowsM acc ++ [mr m]) rfl (doesU_append ty_ok rfl rfl rfl rfl rfl rfl rfl (by simp; omega) (by show _ * 40 ≤ _; simp; omega)) rfl ?_
  refine run 400 rfl ?_
  exact at_again (acc ++ [m], i + 1, j') ⟨by dsimp only; omega, by simp [a2], by dsimp only; omega, by dsimp only; omega, by dsimp only; rw [← a5, List.append_assoc, show most - (i + 1) = q by omega]; rfl⟩ (by dsimp only; omega)
    ⟨SVle.refl _, SVle.refl _, SVle.of_eq (by show SV.gl 5 4 (rowsM acc ++ [mr m]) = SV.gl 5 4 (rowsM (acc ++ [m])); simp), SVle.of_eq (by show I ((i : Int) + 1) = I ((i + 1 : Nat) : Int); rw [Int.natCast_add]; rfl), trivial⟩ ⟨rfl, rfl, trivial⟩
end Go.Proofs.Ytmnmhehddbemkaa
