import Derived.Test.YtmnmhehddbemkaaW4g
namespace Go.Proofs.Ytmnmhehddbemkaa
open Go Go.Eng

theorem tmod_val (a n : Int) (h : 0 < n) : (if a.tmod n < 0 then a.tmod n + n else a.tmod n) = a % n ∧ -n < a.tmod n ∧ a.tmod n < n := by
  have h1 := Int.emod_nonneg a (show n ≠ 0 by omega)
  have h2 := Int.emod_lt_of_pos a h
  rw [Int.tmod_eq_emod]
  by_cases hc : 0 ≤ a ∨ n ∣ a
  · simp only [if_pos hc, Int.natCast_zero, Int.sub_zero]
    rw [if_neg (by omega)]
    omega
  · simp only [if_neg hc]
    have e : (n.natAbs : Int) = n := by omega
    have : (if 0 ≤ a ∨ n ∣ a then 0 else n.natAbs) = n.natAbs := if_neg hc
    rw [if_pos (by omega)]
    omega

theorem within52 (a n : Int) (h : 0 < n ∧ n ≤ 4611686018427387904) : Gives Try.prog 52 [I a, I n] (I (a % n)) := by
  refine contract_of ty_ok [0, 1, 2, 3, 4, 5, 6, 7] Try.func52 rfl (by decide) Try.ntmps52 rfl fun z => ?_
  obtain ⟨hv, h3, h4⟩ := tmod_val a n h.1
  rw [← hv]
  refine run 400 rfl ?_
  refine at_ifd rfl (fun h1 => ?_) (fun h1 => ?_)
  · refine run 400 rfl ?_
    refine run 400 rfl ?_
    exact at_ret rfl rfl [] ⟨by rw [if_pos h1], rfl, rfl⟩ trivial
  · refine run 400 rfl ?_
    exact at_ret rfl rfl [] ⟨by rw [if_neg h1], rfl, rfl⟩ trivial
theorem within21 (a n : Int) (h : 0 < n ∧ n ≤ 4611686018427387904) : Gives Try.prog 21 [I a, I n] (I (a % n)) := by
  refine contract_of ty_ok [0, 1, 2, 3, 4, 5, 6, 7] Try.func21 rfl (by decide) Try.ntmps21 rfl fun z => ?_
  obtain ⟨hv, h3, h4⟩ := tmod_val a n h.1
  rw [← hv]
  refine run 400 rfl ?_
  refine at_ifd rfl (fun h1 => ?_) (fun h1 => ?_)
  · refine run 400 rfl ?_
    refine run 400 rfl ?_
    exact at_ret rfl rfl [] ⟨by rw [if_pos h1], rfl, rfl⟩ trivial
  · refine run 400 rfl ?_
    exact at_ret rfl rfl [] ⟨by rw [if_neg h1], rfl, rfl⟩ trivial

abbrev ints (l : List Int) : List (List DV) := l.map fun n => [.int .i64 n]
theorem ints_get {l : List Int} {n : Int} (h0 : 0 ≤ n) (h1 : n < l.length) : (ints l)[n.toNat]? = some [.int .i64 (l.getD n.toNat 0)] := by
  have : n.toNat < l.length := by omega
  simp [List.getElem?_map, List.getElem?_eq_getElem this, List.getD_eq_getElem?_getD]
abbrev strs (l : List ByteArray) : List (List DV) := l.map fun b => [.str b]
theorem strs_get {l : List ByteArray} {n : Int} (h0 : 0 ≤ n) (h1 : n < l.length) : (strs l)[n.toNat]? = some [.str (l.getD n.toNat .empty)] := by
  have : n.toNat < l.length := by omega
  simp [List.getElem?_map, List.getElem?_eq_getElem this, List.getD_eq_getElem?_getD]
abbrev tape (l : List Int) (j : Int) : SO := .cells 62 [.lst 1 (ints l), I j]

set_option maxRecDepth 100000 in
theorem more_fn (l : List Int) (j : Int) : Contract Try.prog 54 1 [(0, tape l j)] [.ptr 0 0] fun s post => s = .bl (decide (j < l.length)) ∧ post = [(0, tape l j)] := by
  have hlen : (ints l).length = l.length := by simp
  refine contract_of ty_ok [1, 2, 3, 4, 5, 6, 7] Try.func54 rfl (by decide) Try.ntmps54 rfl fun z => ?_
  refine run 400 rfl ?_
  refine at_drawn 10 rfl rfl [] [20, 21, 22] rfl trivial ?_
  refine run 400 rfl ?_
  exact at_ret rfl rfl [(0, tape l j)] ⟨by rw [hlen], rfl⟩ ⟨rfl, trivial⟩

def nextF (l : List Int) (j n : Int) : Int × Int := if j < l.length ∧ 1 ≤ n then (l.getD j.toNat 0 % n, j + 1) else (0, j)
theorem nextF_le {l : List Int} {j n : Int} (hj : 0 ≤ j ∧ j ≤ l.length) : 0 ≤ (nextF l j n).1 ∧ ((nextF l j n).1 < n ∨ (nextF l j n).1 = 0) ∧ 0 ≤ (nextF l j n).2 ∧ (nextF l j n).2 ≤ l.length := by
  unfold nextF
  split
  · rename_i h
    have := Int.emod_nonneg (l.getD j.toNat 0) (show n ≠ 0 by omega)
    have := Int.emod_lt_of_pos (l.getD j.toNat 0) (show 0 < n by omega)
    dsimp only
    omega
  · dsimp only
    omega

set_option maxRecDepth 100000 in
theorem next_fn (l : List Int) (j n : Int) (hl : l.length ≤ 9223372036854775807) (hj : 0 ≤ j ∧ j ≤ l.length) (hn : n ≤ 4611686018427387904) :
    Contract Try.prog 56 1 [(0, tape l j)] [.ptr 0 0, I n] fun s post => s = I (nextF l j n).1 ∧ post = [(0, tape l (nextF l j n).2)] := by
  have hlen : (ints l).length = l.length := by simp
  refine contract_of ty_ok [1, 2, 3, 4, 5, 6, 7] Try.func56 rfl (by decide) Try.ntmps56 rfl fun z => ?_
  refine run 400 rfl ?_
  refine at_metF 0 (more_fn l j) rfl rfl rfl ?_
  refine run 400 rfl ?_
  refine at_split 8 rfl (fun h1 => ?_) (fun h1 => ?_)
  · have e : nextF l j n = (0, j) := by simp at h1; rw [nextF, if_neg (by omega)]
    refine run 400 rfl ?_
    exact at_ret rfl rfl [(0, tape l j)] ⟨by rw [e], by rw [e]⟩ ⟨rfl, trivial⟩
  · simp only [Bool.not_eq_false', decide_eq_true_eq] at h1
    refine run 400 rfl ?_
    refine at_ifd rfl (fun h2 => ?_) (fun h2 => ?_)
    · have e : nextF l j n = (0, j) := by rw [nextF, if_neg (by omega)]
      refine run 400 rfl ?_
      exact at_ret rfl rfl [(0, tape l j)] ⟨by rw [e], by rw [e]⟩ ⟨rfl, trivial⟩
    · have e : nextF l j n = (l.getD j.toNat 0 % n, j + 1) := by rw [nextF, if_pos (by omega)]
      refine run 400 rfl ?_
      have hget := ints_get (l := l) (n := j + 1 - 1) (by omega) (by omega)
      have ej : (j + 1 - 1).toNat = j.toNat := by omega
      rw [ej] at hget
      generalize l.getD j.toNat 0 = d at hget e
      refine at_drawn 13 rfl rfl [(9, .val (.rp [.int .i64 d] 0)), (12, .sv (I (d % n)))] [20, 21, 22] rfl ⟨within52 d n (by omega), does_index ty_ok _ rfl rfl rfl (by omega) (by rw [ej]; exact hget) rfl, by show _ ∧ _; omega⟩ ?_
      refine run 400 rfl ?_
      exact at_ret rfl rfl [(0, tape l (j + 1))] ⟨by rw [e], by rw [e]⟩ ⟨rfl, trivial⟩

def pickF (l : List Int) (j : Int) (ss : List ByteArray) : ByteArray × Int := (ss.getD (nextF l j ss.length).1.toNat .empty, (nextF l j ss.length).2)

set_option maxRecDepth 100000 in
theorem pick_fn (l : List Int) (j : Int) (ss : List ByteArray) (hs : ss ≠ []) (hs2 : ss.length ≤ 100) (hl : l.length ≤ 9223372036854775807) (hj : 0 ≤ j ∧ j ≤ l.length) :
    Contract Try.prog 57 1 [(0, tape l j)] [.ptr 0 0, .tl 1 (strs ss)] fun s post => s = .str (pickF l j ss).1 ∧ post = [(0, tape l (pickF l j ss).2)] := by
  have hlen : (strs ss).length = ss.length := by simp
  have hpos : 0 < ss.length := List.length_pos_iff.2 hs
  refine contract_of ty_ok [1, 2, 3, 4, 5, 6, 7] Try.func57 rfl (by decide) Try.ntmps57 rfl fun z => ?_
  refine run 400 rfl ?_
  refine at_false 7 rfl (by simpa using hs) ?_
  have hx := nextF_le (l := l) (j := j) (n := ss.length) hj
  have hn := next_fn l j (strs ss).length hl hj (by omega)
  rw [hlen] at hn
  unfold pickF
  generalize nextF l j ss.length = r at hx hn
  obtain ⟨v, j'⟩ := r
  dsimp only at hx hn ⊢
  refine run 400 rfl ?_
  refine at_metF 0 hn (by rw [← hlen]; rfl) rfl rfl ?_
  have hget := strs_get (l := ss) (n := v) (by omega) (by omega)
  generalize ss.getD v.toNat .empty = d at hget
  refine run 400 rfl ?_
  refine at_val (.rp [.str d] 0) (does_index ty_ok _ rfl rfl rfl (by omega) hget rfl) ?_
  refine run 400 rfl ?_
  exact at_ret rfl rfl [(0, tape l j')] ⟨rfl, rfl⟩ ⟨rfl, trivial⟩

theorem A_fn (b : ByteArray) : Gives Try.prog 36 [.str b] (Tm.mk 1 0 b []).sv := by
  have : Gives Try.prog 36 [.str b] (.agg [I 1, I 0, .str b, .tl 0 []]) := by
    refine contract_of ty_ok [0, 1, 2, 3, 4, 5, 6, 7] Try.func36 rfl (by decide) Try.ntmps36 rfl fun z => ?_
    refine run 400 rfl ?_
    exact at_ret rfl rfl [] ⟨rfl, rfl, rfl⟩ trivial
  refine this.le (SVle.agg ⟨SVle.refl _, SVle.refl _, SVle.refl _, ?_, trivial⟩)
  rw [rowsT_nil]
  exact fun g H x h => SVle.tl 4 [] g H x (SVle.nil 4 g H x h)
theorem N_fn (n : Int) : Gives Try.prog 33 [I n] (Tm.mk 2 n .empty []).sv := by
  have : Gives Try.prog 33 [I n] (.agg [I 2, I n, .str .empty, .tl 0 []]) := by
    refine contract_of ty_ok [0, 1, 2, 3, 4, 5, 6, 7] Try.func33 rfl (by decide) Try.ntmps33 rfl fun z => ?_
    refine run 400 rfl ?_
    exact at_ret rfl rfl [] ⟨rfl, rfl, rfl⟩ trivial
  refine this.le (SVle.agg ⟨SVle.refl _, SVle.refl _, SVle.refl _, ?_, trivial⟩)
  rw [rowsT_nil]
  exact fun g H x h => SVle.tl 4 [] g H x (SVle.nil 4 g H x h)
theorem T_fn (k : Int) (l : List Tm) : Gives Try.prog 35 [I k, .lst 4 (rowsT l)] (Tm.mk k 0 .empty l).sv := by
  refine contract_of ty_ok [0, 1, 2, 3, 4, 5, 6, 7] Try.func35 rfl (by decide) Try.ntmps35 rfl fun z => ?_
  refine run 400 rfl ?_
  exact at_ret rfl rfl [] ⟨rfl, rfl, rfl⟩ trivial
end Go.Proofs.Ytmnmhehddbemkaa
