import Derived.Test.YtjjjbojkmjgjlaaW26a
import Derived.Test.YtjjjbojkmjgjlaaW5e
namespace Go.Proofs.Ytjjjbojkmjgjlaa
open Go Go.Eng

set_option maxRecDepth 100000 in
theorem same_fn (l : List Mg) (hl : l.length ≤ 100000) : Gives Try.prog 27 [.lst 5 (msgs l), .lst 5 (msgs l)] .tt := by
  have hlen : (msgs l).length = l.length := by simp
  refine contract_of ty_ok [0, 1, 2, 3, 4, 5, 6, 7] Try.func27 rfl (by decide) Try.ntmps27 rfl fun z => ?_
  refine run 400 rfl ?_
  refine at_false 10 rfl (by simp) ?_
  refine run 400 rfl ?_
  refine at_loop (fun i : Int => 0 ≤ i ∧ i ≤ l.length) (fun i => [(0, .lst 5 (msgs l)), (1, .lst 5 (msgs l)), (5, I i)]) (fun _ => []) (fun i => (l.length - i).toNat) [1, 2, 3, 4, 5, 6]
    0 (by omega) ⟨SVle.refl _, SVle.refl _, SVle.refl _, trivial⟩ trivial ?_
  intro i hi
  refine run 400 rfl ?_
  refine at_ifd rfl (fun h2 => ?_) (fun h2 => ?_)
  rotate_left
  · refine run 400 rfl ?_
    exact at_ret rfl rfl [] ⟨rfl, rfl, rfl⟩ trivial
  rw [hlen] at h2
  have hget := msgs_get (l := l) (n := i.toNat) (by omega)
  generalize l.getD i.toNat .zero = m at hget
  refine run 400 rfl ?_
  refine at_drawn 9 rfl rfl [(2, .val (.rp m.row 0)), (6, .val (.rp m.row 0)), (8, .no)] [20, 21, 22] rfl ⟨?_, ?_, ?_⟩ ?_
  · simp [seq]
  · exact does_index ty_ok _ rfl rfl rfl hi.1 hget rfl
  · exact does_index ty_ok _ rfl rfl rfl hi.1 hget rfl
  refine run 400 rfl ?_
  exact at_again (i + 1) (by omega) (by omega) ⟨SVle.refl _, SVle.refl _, SVle.refl _, trivial⟩ trivial

abbrev tape (l : List Int) (j : Int) : SO := .cells 38 [.lst 1 (ints l), I j]

set_option maxRecDepth 100000 in
theorem more_fn (l : List Int) (j : Int) : Contract Try.prog 23 1 [(0, tape l j)] [.ptr 0 0] fun s post => ∃ _ : Unit, True ∧ s = .bl (decide (j < l.length)) ∧ post = [(0, tape l j)] := by
  have hlen : (ints l).length = l.length := by simp
  refine contract_of ty_ok [1, 2, 3, 4, 5, 6, 7] Try.func23 rfl (by decide) Try.ntmps23 rfl fun z => ?_
  refine run 400 rfl ?_
  refine at_drawn 10 rfl rfl [] [20, 21, 22] rfl trivial ?_
  refine run 400 rfl ?_
  exact at_ret rfl rfl [(0, tape l j)] ⟨(), trivial, by rw [hlen], rfl⟩ ⟨rfl, trivial⟩

def nextP (l : List Int) (n : Int) (x : Int × Int) : Prop := 0 ≤ x.1 ∧ (x.1 < n ∨ x.1 = 0) ∧ 0 ≤ x.2 ∧ x.2 ≤ l.length

set_option maxRecDepth 100000 in
theorem next24_fn (l : List Int) (j n : Int) (hl : l.length ≤ 9223372036854775807) (hj : 0 ≤ j ∧ j ≤ l.length) (hn : n ≤ 4611686018427387904) :
    Contract Try.prog 24 1 [(0, tape l j)] [.ptr 0 0, I n] fun s post => ∃ x : Int × Int, nextP l n x ∧ s = I x.1 ∧ post = [(0, tape l x.2)] := by
  have hlen : (ints l).length = l.length := by simp
  refine contract_of ty_ok [1, 2, 3, 4, 5, 6, 7] Try.func24 rfl (by decide) Try.ntmps24 rfl fun z => ?_
  refine run 400 rfl ?_
  refine at_met 0 (more_fn l j) rfl rfl (fun _ => rfl) fun _ _ => ?_
  refine run 400 rfl ?_
  refine at_split 8 rfl (fun h1 => ?_) (fun h1 => ?_)
  · refine run 400 rfl ?_
    exact at_ret rfl rfl [(0, tape l j)] ⟨(0, j), by unfold nextP; dsimp only; omega, rfl, rfl⟩ ⟨rfl, trivial⟩
  · simp only [Bool.not_eq_false', decide_eq_true_eq] at h1
    refine run 400 rfl ?_
    refine at_ifd rfl (fun h2 => ?_) (fun h2 => ?_)
    · refine run 400 rfl ?_
      exact at_ret rfl rfl [(0, tape l j)] ⟨(0, j), by unfold nextP; dsimp only; omega, rfl, rfl⟩ ⟨rfl, trivial⟩
    · refine run 400 rfl ?_
      have e : j + 1 - 1 = j := by omega
      have hget := ints_get (l := l) (n := j + 1 - 1) (by omega) (by omega)
      generalize l.getD (j + 1 - 1).toNat 0 = d at hget
      refine at_drawn 13 rfl rfl [(9, .val (.rp [.int .i64 d] 0)), (12, .sv (I (d % n)))] [20, 21, 22] rfl ⟨within38 d n (by omega), does_index ty_ok _ rfl rfl rfl (by omega) hget rfl, by show _ ∧ _; omega⟩ ?_
      refine run 400 rfl ?_
      exact at_ret rfl rfl [(0, tape l (j + 1))] ⟨(d % n, j + 1), by unfold nextP; dsimp only; have := Int.emod_nonneg d (show n ≠ 0 by omega); have := Int.emod_lt_of_pos d (show 0 < n by omega); omega, rfl, rfl⟩ ⟨rfl, trivial⟩

abbrev strs (l : List ByteArray) : List (List DV) := l.map fun b => [.str b]
theorem strs_get {l : List ByteArray} {n : Int} (h0 : 0 ≤ n) (h1 : n < l.length) : (strs l)[n.toNat]? = some [.str (l.getD n.toNat .empty)] := by
  have : n.toNat < l.length := by omega
  simp [List.getElem?_map, List.getElem?_eq_getElem this, List.getD_eq_getElem?_getD]

set_option maxRecDepth 100000 in
theorem pick_fn (l : List Int) (j : Int) (ss : List ByteArray) (hs : ss ≠ []) (hs2 : ss.length ≤ 100) (hl : l.length ≤ 9223372036854775807) (hj : 0 ≤ j ∧ j ≤ l.length) :
    Contract Try.prog 40 1 [(0, tape l j)] [.ptr 0 0, .tl 1 (strs ss)] fun s post => ∃ x : ByteArray × Int, (0 ≤ x.2 ∧ x.2 ≤ l.length) ∧ s = .str x.1 ∧ post = [(0, tape l x.2)] := by
  have hlen : (strs ss).length = ss.length := by simp
  have hpos : 0 < ss.length := List.length_pos_iff.2 hs
  refine contract_of ty_ok [1, 2, 3, 4, 5, 6, 7] Try.func40 rfl (by decide) Try.ntmps40 rfl fun z => ?_
  refine run 400 rfl ?_
  refine at_false 7 rfl (by simpa using hs) ?_
  refine run 400 rfl ?_
  refine at_met 0 (next24_fn l j (strs ss).length hl hj (by omega)) rfl rfl (fun _ => rfl) fun x hx => ?_
  obtain ⟨v, j'⟩ := x
  unfold nextP at hx
  dsimp only at hx
  have hget := strs_get (l := ss) (n := v) (by omega) (by omega)
  generalize ss.getD v.toNat .empty = d at hget
  refine run 400 rfl ?_
  refine at_val (.rp [.str d] 0) (does_index ty_ok _ rfl rfl rfl (by omega) hget rfl) ?_
  refine run 400 rfl ?_
  exact at_ret rfl rfl [(0, tape l j')] ⟨(d, j'), by dsimp only; omega, rfl, rfl⟩ ⟨rfl, trivial⟩

set_option maxRecDepth 100000 in
theorem msg_fn (l : List Int) (j : Int) (hl : l.length ≤ 9223372036854775807) (hj : 0 ≤ j ∧ j ≤ l.length) :
    Contract Try.prog 28 1 [(0, tape l j)] [.ptr 0 0] fun s post => ∃ x : Mg × Int, (0 ≤ x.2 ∧ x.2 ≤ l.length) ∧ s = x.1.sv ∧ post = [(0, tape l x.2)] := by
  refine contract_of ty_ok [1, 2, 3, 4, 5, 6, 7] Try.func28 rfl (by decide) Try.ntmps28 rfl fun z => ?_
  refine run 400 rfl ?_
  refine at_met 0 (next24_fn l j 9 hl hj (by omega)) rfl rfl (fun _ => rfl) fun x1 h1 => ?_
  obtain ⟨v1, j1⟩ := x1
  unfold nextP at h1
  dsimp only at h1
  refine run 400 rfl ?_
  refine at_met 0 (next24_fn l j1 7 hl (by omega) (by omega)) rfl rfl (fun _ => rfl) fun x2 h2 => ?_
  obtain ⟨v2, j2⟩ := x2
  unfold nextP at h2
  dsimp only at h2
  refine run 400 rfl ?_
  refine at_gro (.tl 1 (strs [_, _, _])) (doesG_build ty_ok _ rfl ⟨⟨rfl, rfl, _, rfl, SVles.refl _⟩, ⟨rfl, rfl, _, rfl, SVles.refl _⟩, ⟨rfl, rfl, _, rfl, SVles.refl _⟩, trivial⟩ rfl rfl (by decide)) ?_
  refine run 400 rfl ?_
  refine at_met 0 (pick_fn l j2 [_, _, _] (by simp) (by simp) hl (by omega)) rfl rfl (fun _ => rfl) fun x3 h3 => ?_
  obtain ⟨v3, j3⟩ := x3
  dsimp only at h3
  refine run 400 rfl ?_
  refine at_met 0 (next24_fn l j3 2 hl (by omega) (by omega)) rfl rfl (fun _ => rfl) fun x4 h4 => ?_
  obtain ⟨v4, j4⟩ := x4
  unfold nextP at h4
  dsimp only at h4
  refine run 400 rfl ?_
  refine at_gro (.tl 1 (strs [_, _, _])) (doesG_build ty_ok _ rfl ⟨⟨rfl, rfl, _, rfl, SVles.refl _⟩, ⟨rfl, rfl, _, rfl, SVles.refl _⟩, ⟨rfl, rfl, _, rfl, SVles.refl _⟩, trivial⟩ rfl rfl (by decide)) ?_
  refine run 400 rfl ?_
  refine at_met 0 (pick_fn l j4 [_, _, _] (by simp) (by simp) hl (by omega)) rfl rfl (fun _ => rfl) fun x5 h5 => ?_
  obtain ⟨v5, j5⟩ := x5
  dsimp only at h5
  refine run 400 rfl ?_
  exact at_ret rfl rfl [(0, tape l j5)] ⟨(⟨v1, v2, v3, v4 == 1, v5⟩, j5), h5, rfl, rfl⟩ ⟨rfl, trivial⟩

end Go.Proofs.Ytjjjbojkmjgjlaa
