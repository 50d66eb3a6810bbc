/- The texts W4h, W4i, W4j, W4k, W4l, W4m, W4n, W4o, Own, W4p, W4q, W4r, W4s, W4x, X1, W4t, one behind the other: an executor over the translated code, contracts of functions, and their laws. -/
import Derived.Laws.BytesString
import Derived.Carry
import Derived.Test.YtmnmhehddbemkaaKnowC4
namespace Go.Proofs.Ytmnmhehddbemkaa
open Go Go.Eng

theorem tmod_val (a n : Int) (h : 0 < n) : (if a.tmod n < 0 then a.tmod n + n else a.tmod n) = a % n ∧ -n < a.tmod n ∧ a.tmod n < n := by
  have h1 := Int.emod_nonneg a (show n ≠ 0 by omega)
  have h2 := Int.emod_lt_of_pos a h
  rw [Int.tmod_eq_emod]
  by_cases hc : 0 ≤ a ∨ n ∣ a
  · simp only [if_pos hc, Int.natCast_zero, Int.sub_zero]
    rw [if_neg (by omega)]
    omega
  · simp only [if_neg hc]
    have e : (n.natAbs : Int) = n := by omega
    have : (if 0 ≤ a ∨ n ∣ a then 0 else n.natAbs) = n.natAbs := if_neg hc
    rw [if_pos (by omega)]
    omega

theorem within52 (a n : Int) (h : 0 < n ∧ n ≤ 4611686018427387904) : Gives Try.prog 52 [I a, I n] (I (a % n)) := by
  refine contract_of ty_ok [0, 1, 2, 3, 4, 5, 6, 7] Try.func52 rfl (by decide) Try.ntmps52 rfl fun z => ?_
  obtain ⟨hv, h3, h4⟩ := tmod_val a n h.1
  rw [← hv]
  refine run 400 rfl ?_
  refine at_ifd rfl (fun h1 => ?_) (fun h1 => ?_)
  · refine run 400 rfl ?_
    refine run 400 rfl ?_
    exact at_ret rfl rfl [] ⟨by rw [if_pos h1], rfl, rfl⟩ trivial
  · refine run 400 rfl ?_
    exact at_ret rfl rfl [] ⟨by rw [if_neg h1], rfl, rfl⟩ trivial
theorem within21 (a n : Int) (h : 0 < n ∧ n ≤ 4611686018427387904) : Gives Try.prog 21 [I a, I n] (I (a % n)) := by
  refine contract_of ty_ok [0, 1, 2, 3, 4, 5, 6, 7] Try.func21 rfl (by decide) Try.ntmps21 rfl fun z => ?_
  obtain ⟨hv, h3, h4⟩ := tmod_val a n h.1
  rw [← hv]
  refine run 400 rfl ?_
  refine at_ifd rfl (fun h1 => ?_) (fun h1 => ?_)
  · refine run 400 rfl ?_
    refine run 400 rfl ?_
    exact at_ret rfl rfl [] ⟨by rw [if_pos h1], rfl, rfl⟩ trivial
  · refine run 400 rfl ?_
    exact at_ret rfl rfl [] ⟨by rw [if_neg h1], rfl, rfl⟩ trivial

abbrev ints (l : List Int) : List (List DV) := l.map fun n => [.int .i64 n]
theorem ints_get {l : List Int} {n : Int} (h0 : 0 ≤ n) (h1 : n < l.length) : (ints l)[n.toNat]? = some [.int .i64 (l.getD n.toNat 0)] := by
  have : n.toNat < l.length := by omega
  simp [List.getElem?_map, List.getElem?_eq_getElem this, List.getD_eq_getElem?_getD]
abbrev strs (l : List ByteArray) : List (List DV) := l.map fun b => [.str b]
theorem strs_get {l : List ByteArray} {n : Int} (h0 : 0 ≤ n) (h1 : n < l.length) : (strs l)[n.toNat]? = some [.str (l.getD n.toNat .empty)] := by
  have : n.toNat < l.length := by omega
  simp [List.getElem?_map, List.getElem?_eq_getElem this, List.getD_eq_getElem?_getD]
abbrev tape (l : List Int) (j : Int) : SO := .cells 62 [.lst 1 (ints l), I j]

set_option maxRecDepth 100000 in
theorem more_fn (l : List Int) (j : Int) : Contract Try.prog 54 1 [(0, tape l j)] [.ptr 0 0] fun s post => s = .bl (decide (j < l.length)) ∧ post = [(0, tape l j)] := by
  have hlen : (ints l).length = l.length := by simp
  refine contract_of ty_ok [1, 2, 3, 4, 5, 6, 7] Try.func54 rfl (by decide) Try.ntmps54 rfl fun z => ?_
  refine run 400 rfl ?_
  refine at_drawn 10 rfl rfl [] [20, 21, 22] rfl trivial ?_
  refine run 400 rfl ?_
  exact at_ret rfl rfl [(0, tape l j)] ⟨by rw [hlen], rfl⟩ ⟨rfl, trivial⟩

def nextF (l : List Int) (j n : Int) : Int × Int := if j < l.length ∧ 1 ≤ n then (l.getD j.toNat 0 % n, j + 1) else (0, j)
theorem nextF_le {l : List Int} {j n : Int} (hj : 0 ≤ j ∧ j ≤ l.length) : 0 ≤ (nextF l j n).1 ∧ ((nextF l j n).1 < n ∨ (nextF l j n).1 = 0) ∧ 0 ≤ (nextF l j n).2 ∧ (nextF l j n).2 ≤ l.length := by
  unfold nextF
  split
  · rename_i h
    have := Int.emod_nonneg (l.getD j.toNat 0) (show n ≠ 0 by omega)
    have := Int.emod_lt_of_pos (l.getD j.toNat 0) (show 0 < n by omega)
    dsimp only
    omega
  · dsimp only
    omega

set_option maxRecDepth 100000 in
theorem next_fn (l : List Int) (j n : Int) (hl : l.length ≤ 9223372036854775807) (hj : 0 ≤ j ∧ j ≤ l.length) (hn : n ≤ 4611686018427387904) :
    Contract Try.prog 56 1 [(0, tape l j)] [.ptr 0 0, I n] fun s post => s = I (nextF l j n).1 ∧ post = [(0, tape l (nextF l j n).2)] := by
  have hlen : (ints l).length = l.length := by simp
  refine contract_of ty_ok [1, 2, 3, 4, 5, 6, 7] Try.func56 rfl (by decide) Try.ntmps56 rfl fun z => ?_
  refine run 400 rfl ?_
  refine at_metF 0 (more_fn l j) rfl rfl rfl ?_
  refine run 400 rfl ?_
  refine at_split 8 rfl (fun h1 => ?_) (fun h1 => ?_)
  · have e : nextF l j n = (0, j) := by simp at h1; rw [nextF, if_neg (by omega)]
    refine run 400 rfl ?_
    exact at_ret rfl rfl [(0, tape l j)] ⟨by rw [e], by rw [e]⟩ ⟨rfl, trivial⟩
  · simp only [Bool.not_eq_false', decide_eq_true_eq] at h1
    refine run 400 rfl ?_
    refine at_ifd rfl (fun h2 => ?_) (fun h2 => ?_)
    · have e : nextF l j n = (0, j) := by rw [nextF, if_neg (by omega)]
      refine run 400 rfl ?_
      exact at_ret rfl rfl [(0, tape l j)] ⟨by rw [e], by rw [e]⟩ ⟨rfl, trivial⟩
    · have e : nextF l j n = (l.getD j.toNat 0 % n, j + 1) := by rw [nextF, if_pos (by omega)]
      refine run 400 rfl ?_
      have hget := ints_get (l := l) (n := j + 1 - 1) (by omega) (by omega)
      have ej : (j + 1 - 1).toNat = j.toNat := by omega
      rw [ej] at hget
      generalize l.getD j.toNat 0 = d at hget e
      refine at_drawn 13 rfl rfl [(9, .val (.rp [.int .i64 d] 0)), (12, .sv (I (d % n)))] [20, 21, 22] rfl ⟨within52 d n (by omega), does_index ty_ok _ rfl rfl rfl (by omega) (by rw [ej]; exact hget) rfl, by show _ ∧ _; omega⟩ ?_
      refine run 400 rfl ?_
      exact at_ret rfl rfl [(0, tape l (j + 1))] ⟨by rw [e], by rw [e]⟩ ⟨rfl, trivial⟩

def pickF (l : List Int) (j : Int) (ss : List ByteArray) : ByteArray × Int := (ss.getD (nextF l j ss.length).1.toNat .empty, (nextF l j ss.length).2)

set_option maxRecDepth 100000 in
theorem pick_fn (l : List Int) (j : Int) (ss : List ByteArray) (hs : ss ≠ []) (hs2 : ss.length ≤ 100) (hl : l.length ≤ 9223372036854775807) (hj : 0 ≤ j ∧ j ≤ l.length) :
    Contract Try.prog 57 1 [(0, tape l j)] [.ptr 0 0, .tl 1 (strs ss)] fun s post => s = .str (pickF l j ss).1 ∧ post = [(0, tape l (pickF l j ss).2)] := by
  have hlen : (strs ss).length = ss.length := by simp
  have hpos : 0 < ss.length := List.length_pos_iff.2 hs
  refine contract_of ty_ok [1, 2, 3, 4, 5, 6, 7] Try.func57 rfl (by decide) Try.ntmps57 rfl fun z => ?_
  refine run 400 rfl ?_
  refine at_false 7 rfl (by simpa using hs) ?_
  have hx := nextF_le (l := l) (j := j) (n := ss.length) hj
  have hn := next_fn l j (strs ss).length hl hj (by omega)
  rw [hlen] at hn
  unfold pickF
  generalize nextF l j ss.length = r at hx hn
  obtain ⟨v, j'⟩ := r
  dsimp only at hx hn ⊢
  refine run 400 rfl ?_
  refine at_metF 0 hn (by rw [← hlen]; rfl) rfl rfl ?_
  have hget := strs_get (l := ss) (n := v) (by omega) (by omega)
  generalize ss.getD v.toNat .empty = d at hget
  refine run 400 rfl ?_
  refine at_val (.rp [.str d] 0) (does_index ty_ok _ rfl rfl rfl (by omega) hget rfl) ?_
  refine run 400 rfl ?_
  exact at_ret rfl rfl [(0, tape l j')] ⟨rfl, rfl⟩ ⟨rfl, trivial⟩

theorem A_fn (b : ByteArray) : Gives Try.prog 36 [.str b] (Tm.mk 1 0 b []).sv := by
  have : Gives Try.prog 36 [.str b] (.agg [I 1, I 0, .str b, .tl 0 []]) := by
    refine contract_of ty_ok [0, 1, 2, 3, 4, 5, 6, 7] Try.func36 rfl (by decide) Try.ntmps36 rfl fun z => ?_
    refine run 400 rfl ?_
    exact at_ret rfl rfl [] ⟨rfl, rfl, rfl⟩ trivial
  refine this.le (SVle.agg ⟨SVle.refl _, SVle.refl _, SVle.refl _, ?_, trivial⟩)
  rw [rowsT_nil]
  exact fun g H x h => SVle.tl 4 [] g H x (SVle.nil 4 g H x h)
theorem N_fn (n : Int) : Gives Try.prog 33 [I n] (Tm.mk 2 n .empty []).sv := by
  have : Gives Try.prog 33 [I n] (.agg [I 2, I n, .str .empty, .tl 0 []]) := by
    refine contract_of ty_ok [0, 1, 2, 3, 4, 5, 6, 7] Try.func33 rfl (by decide) Try.ntmps33 rfl fun z => ?_
    refine run 400 rfl ?_
    exact at_ret rfl rfl [] ⟨rfl, rfl, rfl⟩ trivial
  refine this.le (SVle.agg ⟨SVle.refl _, SVle.refl _, SVle.refl _, ?_, trivial⟩)
  rw [rowsT_nil]
  exact fun g H x h => SVle.tl 4 [] g H x (SVle.nil 4 g H x h)
theorem T_fn (k : Int) (l : List Tm) : Gives Try.prog 35 [I k, .lst 4 (rowsT l)] (Tm.mk k 0 .empty l).sv := by
  refine contract_of ty_ok [0, 1, 2, 3, 4, 5, 6, 7] Try.func35 rfl (by decide) Try.ntmps35 rfl fun z => ?_
  refine run 400 rfl ?_
  exact at_ret rfl rfl [] ⟨rfl, rfl, rfl⟩ trivial
end Go.Proofs.Ytmnmhehddbemkaa
namespace Go.Proofs.Ytmnmhehddbemkaa
open Go Go.Eng

def words : List ByteArray := [⟨#[]⟩, ⟨#[97]⟩, ⟨#[98]⟩, ⟨#[97, 98]⟩, ⟨#[0]⟩, ⟨#[126]⟩, ⟨#[97, 108, 105, 99, 101]⟩, ⟨#[99, 49]⟩, ⟨#[126, 65, 103, 65, 65, 65, 65, 69, 126]⟩]
def nums : List Int := [1, 2, 3, 4, 5, 0, 300, 1073741824]
def leafA (ns : List Int) (j : Int) : Tm × Int := let p := pickF ns j words; (.mk 1 0 p.1 [], p.2)
def leafN (ns : List Int) (j : Int) : Tm × Int := let q := nextF ns j 8; (.mk 2 (nums.getD q.1.toNat 0) .empty [], q.2)
/-- A term of numbers. -/
def genT (ns : List Int) : Nat → Int → Tm × Int
  | 0, j => let r := nextF ns j 10; if r.1.tmod 5 < 2 then leafA ns r.2 else leafN ns r.2
  | d + 1, j => let r := nextF ns j 10
    if r.1 < 2 then leafA ns r.2 else if r.1 < 5 then leafN ns r.2
    else if r.1 < 7 then (let u := genT ns d r.2; (.mk (3 + r.1 - 5) 0 .empty [u.1], u.2))
    else (let u := genT ns d r.2; let v := genT ns d u.2; (.mk (5 + r.1 - 7) 0 .empty [u.1, v.1], v.2))

theorem genT_le (ns : List Int) : ∀ (d : Nat) (j : Int), 0 ≤ j ∧ j ≤ ns.length → 0 ≤ (genT ns d j).2 ∧ (genT ns d j).2 ≤ ns.length := by
  have hA : ∀ j : Int, 0 ≤ j ∧ j ≤ ns.length → 0 ≤ (leafA ns j).2 ∧ (leafA ns j).2 ≤ ns.length := fun j h => by
    have := nextF_le (l := ns) (j := j) (n := words.length) h
    exact this.2.2
  have hN : ∀ j : Int, 0 ≤ j ∧ j ≤ ns.length → 0 ≤ (leafN ns j).2 ∧ (leafN ns j).2 ≤ ns.length := fun j h => by
    have := nextF_le (l := ns) (j := j) (n := 8) h
    exact this.2.2
  intro d
  induction d with
  | zero =>
    intro j h
    have hx := nextF_le (l := ns) (j := j) (n := 10) h
    simp only [genT]
    split
    · exact hA _ hx.2.2
    · exact hN _ hx.2.2
  | succ d ih =>
    intro j h
    have hx := nextF_le (l := ns) (j := j) (n := 10) h
    simp only [genT]
    split
    · exact hA _ hx.2.2
    · split
      · exact hN _ hx.2.2
      · split
        · exact ih _ hx.2.2
        · exact ih _ (ih _ hx.2.2)

set_option maxRecDepth 100000 in
theorem term_fn (ns : List Int) (hl : ns.length ≤ 9223372036854775807) : ∀ (d : Nat), d ≤ 100 → ∀ j : Int, 0 ≤ j → j ≤ ns.length →
    Contract Try.prog 55 1 [(0, tape ns j)] [.ptr 0 0, I d] fun s post => s = (genT ns d j).1.sv ∧ post = [(0, tape ns (genT ns d j).2)] := by
  intro d
  induction d with
  | zero =>
    intro _ j h0 h1
    refine contract_of ty_ok [1, 2, 3, 4, 5, 6, 7] Try.func55 rfl (by decide) Try.ntmps55 rfl fun z => ?_
    have hx := nextF_le (l := ns) (j := j) (n := 10) ⟨h0, h1⟩
    have hn := next_fn ns j 10 hl ⟨h0, h1⟩ (by omega)
    have hg : genT ns 0 j = if (nextF ns j 10).1.tmod 5 < 2 then leafA ns (nextF ns j 10).2 else leafN ns (nextF ns j 10).2 := rfl
    generalize nextF ns j 10 = r at hx hn hg
    obtain ⟨v, j1⟩ := r
    dsimp only at hx hn hg
    have ht := (tmod_val v 5 (by omega)).2
    refine run 400 rfl ?_
    refine at_metF 0 hn rfl rfl rfl ?_
    refine run 400 rfl ?_
    refine at_ifd rfl (fun g1 => ?_) (fun g1 => absurd (by omega) g1)
    refine run 400 rfl ?_
    refine at_ifd rfl (fun g2 => ?_) (fun g2 => ?_)
    · rw [if_pos g2] at hg
      refine run 400 rfl ?_
      refine at_gro (.tl 1 (strs words)) (doesG_build ty_ok _ rfl ⟨⟨rfl, rfl, _, rfl, SVles.refl _⟩, ⟨rfl, rfl, _, rfl, SVles.refl _⟩, ⟨rfl, rfl, _, rfl, SVles.refl _⟩, ⟨rfl, rfl, _, rfl, SVles.refl _⟩, ⟨rfl, rfl, _, rfl, SVles.refl _⟩, ⟨rfl, rfl, _, rfl, SVles.refl _⟩, ⟨rfl, rfl, _, rfl, SVles.refl _⟩, ⟨rfl, rfl, _, rfl, SVles.refl _⟩, ⟨rfl, rfl, _, rfl, SVles.refl _⟩, trivial⟩ rfl rfl (by decide)) ?_
      refine run 400 rfl ?_
      refine at_metF 0 (pick_fn ns j1 words (by simp [words]) (by simp [words]) hl (by omega)) rfl rfl rfl ?_
      refine run 400 rfl ?_
      refine at_fn (A_fn _) rfl ?_
      refine run 400 rfl ?_
      exact at_ret rfl rfl [(0, tape ns (pickF ns j1 words).2)] ⟨by rw [hg]; rfl, by rw [hg]; rfl⟩ ⟨rfl, trivial⟩
    · rw [if_neg g2] at hg
      refine run 400 rfl ?_
      refine at_ifd rfl (fun g3 => ?_) (fun g3 => absurd (by omega) g3)
      refine run 400 rfl ?_
      refine at_gro (.tl 1 (ints nums)) (doesG_build ty_ok _ rfl ⟨⟨rfl, rfl, _, rfl, SVles.refl _⟩, ⟨rfl, rfl, _, rfl, SVles.refl _⟩, ⟨rfl, rfl, _, rfl, SVles.refl _⟩, ⟨rfl, rfl, _, rfl, SVles.refl _⟩, ⟨rfl, rfl, _, rfl, SVles.refl _⟩, ⟨rfl, rfl, _, rfl, SVles.refl _⟩, ⟨rfl, rfl, _, rfl, SVles.refl _⟩, ⟨rfl, rfl, _, rfl, SVles.refl _⟩, trivial⟩ rfl rfl (by decide)) ?_
      refine run 400 rfl ?_
      have hq := nextF_le (l := ns) (j := j1) (n := 8) (by omega)
      refine at_metF 0 (next_fn ns j1 8 hl (by omega) (by omega)) rfl rfl rfl ?_
      refine run 400 rfl ?_
      refine at_val (.rp [.int .i64 (nums.getD (nextF ns j1 8).1.toNat 0)] 0) (does_index ty_ok _ rfl rfl rfl hq.1 (ints_get hq.1 (by simp [nums]; omega)) rfl) ?_
      refine run 400 rfl ?_
      refine at_fn (N_fn _) rfl ?_
      refine run 400 rfl ?_
      exact at_ret rfl rfl [(0, tape ns (nextF ns j1 8).2)] ⟨by rw [hg]; rfl, by rw [hg]; rfl⟩ ⟨rfl, trivial⟩
  | succ d ih =>
    intro hd j h0 h1
    refine contract_of ty_ok [1, 2, 3, 4, 5, 6, 7] Try.func55 rfl (by decide) Try.ntmps55 rfl fun z => ?_
    have hx := nextF_le (l := ns) (j := j) (n := 10) ⟨h0, h1⟩
    have hn := next_fn ns j 10 hl ⟨h0, h1⟩ (by omega)
    have hg : genT ns (d + 1) j = if (nextF ns j 10).1 < 2 then leafA ns (nextF ns j 10).2 else if (nextF ns j 10).1 < 5 then leafN ns (nextF ns j 10).2
      else if (nextF ns j 10).1 < 7 then (.mk (3 + (nextF ns j 10).1 - 5) 0 .empty [(genT ns d (nextF ns j 10).2).1], (genT ns d (nextF ns j 10).2).2)
      else (.mk (5 + (nextF ns j 10).1 - 7) 0 .empty [(genT ns d (nextF ns j 10).2).1, (genT ns d (genT ns d (nextF ns j 10).2).2).1], (genT ns d (genT ns d (nextF ns j 10).2).2).2) := rfl
    generalize nextF ns j 10 = r at hx hn hg
    obtain ⟨v, j1⟩ := r
    dsimp only at hx hn hg
    refine run 400 rfl ?_
    refine at_metF 0 hn rfl rfl rfl ?_
    refine run 400 rfl ?_
    refine at_ifd rfl (fun g1 => absurd g1 (by omega)) (fun g1 => ?_)
    refine run 400 rfl ?_
    refine at_ifd rfl (fun g2 => ?_) (fun g2 => ?_)
    · rw [if_pos g2] at hg
      refine run 400 rfl ?_
      refine at_gro (.tl 1 (strs words)) (doesG_build ty_ok _ rfl ⟨⟨rfl, rfl, _, rfl, SVles.refl _⟩, ⟨rfl, rfl, _, rfl, SVles.refl _⟩, ⟨rfl, rfl, _, rfl, SVles.refl _⟩, ⟨rfl, rfl, _, rfl, SVles.refl _⟩, ⟨rfl, rfl, _, rfl, SVles.refl _⟩, ⟨rfl, rfl, _, rfl, SVles.refl _⟩, ⟨rfl, rfl, _, rfl, SVles.refl _⟩, ⟨rfl, rfl, _, rfl, SVles.refl _⟩, ⟨rfl, rfl, _, rfl, SVles.refl _⟩, trivial⟩ rfl rfl (by decide)) ?_
      refine run 400 rfl ?_
      refine at_metF 0 (pick_fn ns j1 words (by simp [words]) (by simp [words]) hl (by omega)) rfl rfl rfl ?_
      refine run 400 rfl ?_
      refine at_fn (A_fn _) rfl ?_
      refine run 400 rfl ?_
      exact at_ret rfl rfl [(0, tape ns (pickF ns j1 words).2)] ⟨by rw [hg]; rfl, by rw [hg]; rfl⟩ ⟨rfl, trivial⟩
    rw [if_neg g2] at hg
    refine run 400 rfl ?_
    refine at_ifd rfl (fun g3 => ?_) (fun g3 => ?_)
    · rw [if_pos g3] at hg
      refine run 400 rfl ?_
      refine at_gro (.tl 1 (ints nums)) (doesG_build ty_ok _ rfl ⟨⟨rfl, rfl, _, rfl, SVles.refl _⟩, ⟨rfl, rfl, _, rfl, SVles.refl _⟩, ⟨rfl, rfl, _, rfl, SVles.refl _⟩, ⟨rfl, rfl, _, rfl, SVles.refl _⟩, ⟨rfl, rfl, _, rfl, SVles.refl _⟩, ⟨rfl, rfl, _, rfl, SVles.refl _⟩, ⟨rfl, rfl, _, rfl, SVles.refl _⟩, ⟨rfl, rfl, _, rfl, SVles.refl _⟩, trivial⟩ rfl rfl (by decide)) ?_
      refine run 400 rfl ?_
      have hq := nextF_le (l := ns) (j := j1) (n := 8) (by omega)
      refine at_metF 0 (next_fn ns j1 8 hl (by omega) (by omega)) rfl rfl rfl ?_
      refine run 400 rfl ?_
      refine at_val (.rp [.int .i64 (nums.getD (nextF ns j1 8).1.toNat 0)] 0) (does_index ty_ok _ rfl rfl rfl hq.1 (ints_get hq.1 (by simp [nums]; omega)) rfl) ?_
      refine run 400 rfl ?_
      refine at_fn (N_fn _) rfl ?_
      refine run 400 rfl ?_
      exact at_ret rfl rfl [(0, tape ns (nextF ns j1 8).2)] ⟨by rw [hg]; rfl, by rw [hg]; rfl⟩ ⟨rfl, trivial⟩
    rw [if_neg g3] at hg
    have e1 : (((d + 1 : Nat) : Int) - 1) = (d : Int) := by omega
    have hu := ih (by omega) j1 (by omega) (by omega)
    have hu2 := genT_le ns d j1 (by omega)
    generalize genT ns d j1 = u at hu hu2 hg
    obtain ⟨a, j2⟩ := u
    dsimp only at hu hu2 hg
    refine run 400 rfl ?_
    refine at_ifd rfl (fun g4 => ?_) (fun g4 => ?_)
    · rw [if_pos g4] at hg
      refine run 400 rfl ?_
      refine at_metF 0 hu (by rw [← e1]; rfl) rfl rfl ?_
      refine run 400 rfl ?_
      refine at_gro (.tl 4 [tr a]) (doesG_build ty_ok _ rfl ⟨⟨rfl, rfl, _, rfl, SVles.refl _⟩, trivial⟩ rfl rfl (by decide)) ?_
      have hT : Gives Try.prog 35 [I (3 + v - 5), .tl 4 [tr a]] (Tm.mk (3 + v - 5) 0 .empty [a]).sv := (T_fn _ [a]).weak ⟨SVle.refl _, by rw [rowsT_cons, rowsT_nil]; exact SVle.tl _ _, trivial⟩
      refine at_fn hT rfl ?_
      refine run 400 rfl ?_
      exact at_ret rfl rfl [(0, tape ns j2)] ⟨by rw [hg], by rw [hg]⟩ ⟨rfl, trivial⟩
    · rw [if_neg g4] at hg
      have hv := ih (by omega) j2 (by omega) (by omega)
      have hv2 := genT_le ns d j2 (by omega)
      generalize genT ns d j2 = w at hv hv2 hg
      obtain ⟨b, j3⟩ := w
      dsimp only at hv hv2 hg
      refine run 400 rfl ?_
      refine at_metF 0 hu (by rw [← e1]; rfl) rfl rfl ?_
      refine run 400 rfl ?_
      have hT : Gives Try.prog 35 [I (5 + v - 7), .tl 4 [tr a, tr b]] (Tm.mk (5 + v - 7) 0 .empty [a, b]).sv := (T_fn _ [a, b]).weak ⟨SVle.refl _, by rw [rowsT_cons, rowsT_cons, rowsT_nil]; exact SVle.tl _ _, trivial⟩
      refine at_drawn_st 10 [0] rfl rfl [(7, .met 0 (tape ns j3) b.sv), (8, .gro (.tl 4 [tr a, tr b])), (9, .sv (Tm.mk (5 + v - 7) 0 .empty [a, b]).sv)] [20, 21, 22] rfl
        ⟨hT, doesG_build ty_ok _ rfl ⟨⟨rfl, rfl, _, rfl, SVles.refl _⟩, ⟨rfl, rfl, _, rfl, SVles.refl _⟩, trivial⟩ rfl rfl (by decide), doesM_call hv (by rw [← e1]; rfl), by show _ ∧ _; omega, by show _ ∧ _; omega, by show _ ∧ _; omega⟩ ?_
      refine run 400 rfl ?_
      exact at_ret rfl rfl [(0, tape ns j3)] ⟨by rw [hg], by rw [hg]⟩ ⟨rfl, trivial⟩
end Go.Proofs.Ytmnmhehddbemkaa
namespace Go.Proofs.Ytmnmhehddbemkaa
open Go Go.Eng

def genL (ns : List Int) : Nat → Int → List Tm
  | 0, _ => []
  | n + 1, j => if j < ns.length then (genT ns 3 j).1 :: genL ns n (genT ns 3 j).2 else []
theorem genL_len (ns : List Int) : ∀ (n : Nat) (j : Int), (genL ns n j).length ≤ n
  | 0, _ => by simp [genL]
  | n + 1, j => by
    rw [genL]
    split
    · have := genL_len ns n (genT ns 3 j).2
      simp; omega
    · simp

set_option maxRecDepth 100000 in
theorem terms_fn (ns : List Int) (most : Nat) (hl : ns.length ≤ 9223372036854775807) (hm : most ≤ 1000) : Gives Try.prog 17 [.lst 1 (ints ns), I most] (.lst 4 (rowsT (genL ns most 0))) := by
  refine contract_of ty_ok [0, 1, 2, 3, 4, 6, 7] Try.func17 rfl (by decide) Try.ntmps17 rfl fun z => ?_
  refine run 400 rfl ?_
  refine at_name 6 5 4 rfl (.inr rfl) ?_
  refine at_loop (fun x : List Tm × Nat × Int => x.2.1 ≤ most ∧ x.1.length = x.2.1 ∧ 0 ≤ x.2.2 ∧ x.2.2 ≤ ns.length ∧ x.1 ++ genL ns (most - x.2.1) x.2.2 = genL ns most 0)
    (fun x => [(1, I most), (5, .ptr 0 0), (6, .gl 5 4 (rowsT x.1)), (7, I x.2.1)]) (fun x => [(0, tape ns x.2.2), (5, .tok 4)]) (fun x => most - x.2.1) [1, 2, 3, 4, 6, 7]
    ([], 0, 0) ⟨by simp, rfl, by simp, by simp, by simp⟩ ⟨SVle.refl _, SVle.refl _, SVle.of_eq (by show SV.gl 5 4 [] = SV.gl 5 4 (rowsT []); rw [rowsT_nil]), SVle.refl _, trivial⟩ ⟨rfl, rfl, trivial⟩ ?_
  rintro ⟨acc, i, j⟩ ⟨a1, a2, a3, a4, a5⟩
  dsimp only at a1 a2 a3 a4 a5
  refine run 400 rfl ?_
  refine at_split 14 rfl (fun h => ?_) (fun h => ?_)
  rotate_left
  · rw [decide_eq_false_iff_not] at h
    dsimp only at h
    have e : most - i = 0 := by omega
    rw [e, genL, List.append_nil] at a5
    refine at_deg 5 ?_
    refine run 400 rfl ?_
    exact at_ret rfl rfl [] ⟨by rw [a5], rfl, rfl⟩ trivial
  rw [decide_eq_true_eq] at h
  dsimp only at h
  refine run 400 rfl ?_
  refine at_metF 0 (more_fn ns j) rfl rfl rfl ?_
  refine run 400 rfl ?_
  obtain ⟨q, hq⟩ : ∃ q, most - i = q + 1 := ⟨most - i - 1, by omega⟩
  rw [hq, genL] at a5
  refine at_ifd rfl (fun h2 => ?_) (fun h2 => ?_)
  rotate_left
  · rw [if_neg h2, List.append_nil] at a5
    refine at_deg 5 ?_
    refine run 400 rfl ?_
    exact at_ret rfl rfl [] ⟨by rw [a5], rfl, rfl⟩ trivial
  rw [if_pos h2] at a5
  have ht := term_fn ns hl 3 (by omega) j a3 a4
  have ht2 := genT_le ns 3 j ⟨a3, a4⟩
  generalize genT ns 3 j = u at ht ht2 a5
  obtain ⟨u, j'⟩ := u
  dsimp only at ht ht2 a5
  have hlen : (rowsT acc).length = acc.length := rowsT_len acc
  refine run 400 rfl ?_
  refine at_metF 0 ht rfl rfl rfl ?_
  refine run 400 rfl ?_
  refine at_gro (.tl 4 [tr u]) (doesG_build ty_ok _ rfl ⟨⟨rfl, rfl, _, rfl, SVles.refl _⟩, trivial⟩ rfl rfl (by decide)) ?_
  refine at_grow 5 5 4 (rowsT acc ++ [tr u]) rfl (doesU_append ty_ok rfl rfl rfl rfl rfl rfl rfl (by simp; omega) (by show _ * 56 ≤ _; simp; omega)) rfl ?_
  refine run 400 rfl ?_
  exact at_again (acc ++ [u], i + 1, j') ⟨by dsimp only; omega, by simp [a2], by dsimp only; omega, by dsimp only; omega, by dsimp only; rw [← a5, List.append_assoc, show most - (i + 1) = q by omega]; rfl⟩ (by dsimp only; omega)
    ⟨SVle.refl _, SVle.refl _, SVle.of_eq (by show SV.gl 5 4 (rowsT acc ++ [tr u]) = SV.gl 5 4 (rowsT (acc ++ [u])); rw [rowsT_app, rowsT_cons, rowsT_nil]), SVle.of_eq (by show I ((i : Int) + 1) = I ((i + 1 : Nat) : Int); rw [Int.natCast_add]; rfl), trivial⟩ ⟨rfl, rfl, trivial⟩
end Go.Proofs.Ytmnmhehddbemkaa
namespace Go.Proofs.Ytmnmhehddbemkaa
open Go Go.Eng

/-- A move. -/
structure Mv where
  k : Int
  a : Int
  b : Int
  s : ByteArray
abbrev mr (m : Mv) : List DV := [.int .i64 m.k, .int .i64 m.a, .int .i64 m.b, .str m.s]
abbrev Mv.sv (m : Mv) : SV := .agg [I m.k, I m.a, I m.b, .str m.s]
abbrev rowsM (l : List Mv) : List (List DV) := l.map mr
def Mv.zero : Mv := ⟨0, 0, 0, .empty⟩
theorem rowsM_get {l : List Mv} {n : Nat} (h : n < l.length) : (rowsM l)[n]? = some (mr (l.getD n .zero)) := by
  rw [List.getElem?_map, List.getElem?_eq_getElem h, List.getD_eq_getElem?_getD, List.getElem?_eq_getElem h]
  rfl

def few : List ByteArray := [⟨#[97]⟩, ⟨#[98]⟩, ⟨#[]⟩]
/-- A move of numbers, and where the tape stands behind it. -/
def genV (ns : List Int) (i j : Int) : Mv × Int :=
  let r1 := nextF ns j 10
  let r2 := nextF ns r1.2 (i + 1)
  let r3 := nextF ns r2.2 (i + 1)
  let p := pickF ns r3.2 few
  let c := nextF ns p.2 12
  if c.1 = 0 then (⟨(nextF ns c.2 13).1, (nextF ns (nextF ns c.2 13).2 30).1 - 2, r3.1, p.1⟩, (nextF ns (nextF ns c.2 13).2 30).2)
  else (⟨1 + r1.1, r2.1, r3.1, p.1⟩, c.2)
def genM (ns : List Int) : Nat → Nat → Int → List Mv
  | 0, _, _ => []
  | n + 1, i, j => if j < ns.length then (genV ns i j).1 :: genM ns n (i + 1) (genV ns i j).2 else []
theorem genM_len (ns : List Int) : ∀ (n i : Nat) (j : Int), (genM ns n i j).length ≤ n
  | 0, _, _ => by simp [genM]
  | n + 1, i, j => by
    rw [genM]
    split
    · have := genM_len ns n (i + 1) (genV ns i j).2
      simp; omega
    · simp

set_option maxRecDepth 100000 in
theorem moves_fn (ns : List Int) (most : Nat) (hl : ns.length ≤ 9223372036854775807) (hm : most ≤ 1000) : Gives Try.prog 18 [.lst 1 (ints ns), I most] (.lst 4 (rowsM (genM ns most 0 0))) := by
  refine contract_of ty_ok [0, 1, 2, 3, 4, 6, 7] Try.func18 rfl (by decide) Try.ntmps18 rfl fun z => ?_
  refine run 400 rfl ?_
  refine at_name 6 5 4 rfl (.inr rfl) ?_
  refine at_loop (fun x : List Mv × Nat × Int => x.2.1 ≤ most ∧ x.1.length = x.2.1 ∧ 0 ≤ x.2.2 ∧ x.2.2 ≤ ns.length ∧ x.1 ++ genM ns (most - x.2.1) x.2.1 x.2.2 = genM ns most 0 0)
    (fun x => [(1, I most), (5, .ptr 0 0), (6, .gl 5 4 (rowsM x.1)), (7, I x.2.1)]) (fun x => [(0, tape ns x.2.2), (5, .tok 4)]) (fun x => most - x.2.1) [1, 2, 3, 4, 6, 7]
    ([], 0, 0) ⟨by simp, rfl, by simp, by simp, by simp⟩ ⟨SVle.refl _, SVle.refl _, SVle.refl _, SVle.refl _, trivial⟩ ⟨rfl, rfl, trivial⟩ ?_
  rintro ⟨acc, i, j⟩ ⟨a1, a2, a3, a4, a5⟩
  dsimp only at a1 a2 a3 a4 a5
  refine run 400 rfl ?_
  refine at_split 15 rfl (fun h => ?_) (fun h => ?_)
  rotate_left
  · rw [decide_eq_false_iff_not] at h
    dsimp only at h
    have e : most - i = 0 := by omega
    rw [e, genM, List.append_nil] at a5
    refine at_deg 5 ?_
    refine run 400 rfl ?_
    exact at_ret rfl rfl [] ⟨by rw [a5], rfl, rfl⟩ trivial
  rw [decide_eq_true_eq] at h
  dsimp only at h
  refine run 400 rfl ?_
  refine at_metF 0 (more_fn ns j) rfl rfl rfl ?_
  refine run 400 rfl ?_
  obtain ⟨q, hq⟩ : ∃ q, most - i = q + 1 := ⟨most - i - 1, by omega⟩
  rw [hq, genM] at a5
  refine at_ifd rfl (fun h2 => ?_) (fun h2 => ?_)
  rotate_left
  · rw [if_neg h2, List.append_nil] at a5
    refine at_deg 5 ?_
    refine run 400 rfl ?_
    exact at_ret rfl rfl [] ⟨by rw [a5], rfl, rfl⟩ trivial
  rw [if_pos h2] at a5
  have hlen : (rowsM acc).length = acc.length := by simp
  have hv : genV ns i j = if (nextF ns (pickF ns (nextF ns (nextF ns (nextF ns j 10).2 (i + 1)).2 (i + 1)).2 few).2 12).1 = 0 then
      (⟨(nextF ns (nextF ns (pickF ns (nextF ns (nextF ns (nextF ns j 10).2 (i + 1)).2 (i + 1)).2 few).2 12).2 13).1, (nextF ns (nextF ns (nextF ns (pickF ns (nextF ns (nextF ns (nextF ns j 10).2 (i + 1)).2 (i + 1)).2 few).2 12).2 13).2 30).1 - 2, (nextF ns (nextF ns (nextF ns j 10).2 (i + 1)).2 (i + 1)).1, (pickF ns (nextF ns (nextF ns (nextF ns j 10).2 (i + 1)).2 (i + 1)).2 few).1⟩, (nextF ns (nextF ns (nextF ns (pickF ns (nextF ns (nextF ns (nextF ns j 10).2 (i + 1)).2 (i + 1)).2 few).2 12).2 13).2 30).2)
      else (⟨1 + (nextF ns j 10).1, (nextF ns (nextF ns j 10).2 (i + 1)).1, (nextF ns (nextF ns (nextF ns j 10).2 (i + 1)).2 (i + 1)).1, (pickF ns (nextF ns (nextF ns (nextF ns j 10).2 (i + 1)).2 (i + 1)).2 few).1⟩, (nextF ns (pickF ns (nextF ns (nextF ns (nextF ns j 10).2 (i + 1)).2 (i + 1)).2 few).2 12).2) := rfl
  have n1 := next_fn ns j 10 hl ⟨a3, a4⟩ (by omega)
  have l1 := nextF_le (l := ns) (j := j) (n := 10) ⟨a3, a4⟩
  generalize nextF ns j 10 = r1 at hv n1 l1
  obtain ⟨v1, j1⟩ := r1
  dsimp only at hv n1 l1
  have n2 := next_fn ns j1 (i + 1) hl l1.2.2 (by omega)
  have l2 := nextF_le (l := ns) (j := j1) (n := i + 1) l1.2.2
  generalize nextF ns j1 (i + 1) = r2 at hv n2 l2
  obtain ⟨v2, j2⟩ := r2
  dsimp only at hv n2 l2
  have n3 := next_fn ns j2 (i + 1) hl l2.2.2 (by omega)
  have l3 := nextF_le (l := ns) (j := j2) (n := i + 1) l2.2.2
  generalize nextF ns j2 (i + 1) = r3 at hv n3 l3
  obtain ⟨v3, j3⟩ := r3
  dsimp only at hv n3 l3
  have n4 := pick_fn ns j3 few (by simp [few]) (by simp [few]) hl l3.2.2
  have l4 : 0 ≤ (pickF ns j3 few).2 ∧ (pickF ns j3 few).2 ≤ ns.length := (nextF_le (l := ns) (j := j3) (n := few.length) l3.2.2).2.2
  generalize pickF ns j3 few = r4 at hv n4 l4
  obtain ⟨v4, j4⟩ := r4
  dsimp only at hv n4 l4
  have n5 := next_fn ns j4 12 hl l4 (by omega)
  have l5 := nextF_le (l := ns) (j := j4) (n := 12) l4
  generalize nextF ns j4 12 = r5 at hv n5 l5
  obtain ⟨v5, j5⟩ := r5
  dsimp only at hv n5 l5
  refine run 400 rfl ?_
  refine at_metF 0 n1 rfl rfl rfl ?_
  refine run 400 rfl ?_
  refine at_metF 0 n2 rfl rfl rfl ?_
  refine run 400 rfl ?_
  refine at_metF 0 n3 rfl rfl rfl ?_
  refine run 400 rfl ?_
  refine at_gro (.tl 1 (strs few)) (doesG_build ty_ok _ rfl ⟨⟨rfl, rfl, _, rfl, SVles.refl _⟩, ⟨rfl, rfl, _, rfl, SVles.refl _⟩, ⟨rfl, rfl, _, rfl, SVles.refl _⟩, trivial⟩ rfl rfl (by decide)) ?_
  refine run 400 rfl ?_
  refine at_metF 0 n4 rfl rfl rfl ?_
  refine run 400 rfl ?_
  refine at_metF 0 n5 rfl rfl rfl ?_
  refine run 400 rfl ?_
  refine at_join (fun x : Mv × Int => genV ns i j = x ∧ 0 ≤ x.2 ∧ x.2 ≤ ns.length) (fun x => [(1, I most), (5, .ptr 0 0), (6, .gl 5 4 (rowsM acc)), (7, I i), (8, .ptr 1 0)]) (fun x => [(0, tape ns x.2), (1, .cells 37 [I x.1.k, I x.1.a, I x.1.b, .str x.1.s]), (5, .tok 4)]) [2, 3, 4, 6, 7] ?_ ?_
  · refine at_if rfl (fun g => ?_) (fun g => ?_)
    · have g : v5 = 0 := by simpa using g
      rw [if_pos g] at hv
      have n6 := next_fn ns j5 13 hl l5.2.2 (by omega)
      have l6 := nextF_le (l := ns) (j := j5) (n := 13) l5.2.2
      generalize nextF ns j5 13 = r6 at hv n6 l6
      obtain ⟨v6, j6⟩ := r6
      dsimp only at hv n6 l6
      have n7 := next_fn ns j6 30 hl l6.2.2 (by omega)
      have l7 := nextF_le (l := ns) (j := j6) (n := 30) l6.2.2
      generalize nextF ns j6 30 = r7 at hv n7 l7
      obtain ⟨v7, j7⟩ := r7
      dsimp only at hv n7 l7
      refine run 400 rfl ?_
      refine at_metF 0 n6 rfl rfl rfl ?_
      refine run 400 rfl ?_
      refine at_metF 0 n7 rfl rfl rfl ?_
      refine run 400 rfl ?_
      exact at_joined (⟨v6, v7 - 2, v3, v4⟩, j7) ⟨hv, l7.2.2⟩ ⟨SVle.refl _, SVle.refl _, SVle.refl _, SVle.refl _, SVle.refl _, trivial⟩ ⟨rfl, rfl, rfl, trivial⟩
    · have g : ¬ v5 = 0 := by simpa using g
      rw [if_neg g] at hv
      refine run 400 rfl ?_
      exact at_joined (⟨1 + v1, v2, v3, v4⟩, j5) ⟨hv, l5.2.2⟩ ⟨SVle.refl _, SVle.refl _, SVle.refl _, SVle.refl _, SVle.refl _, trivial⟩ ⟨rfl, rfl, rfl, trivial⟩
  rintro ⟨m, j'⟩ ⟨hm', hj1, hj2⟩
  dsimp only at hj1 hj2
  rw [hm'] at a5
  dsimp only at a5
  refine run 400 rfl ?_
  refine at_gro (.tl 4 [mr m]) (doesG_build ty_ok _ rfl ⟨⟨rfl, rfl, _, rfl, SVles.refl _⟩, trivial⟩ rfl rfl (by decide)) ?_
  refine at_grow 5 5 4 (rowsM acc ++ [mr m]) rfl (doesU_append ty_ok rfl rfl rfl rfl rfl rfl rfl (by simp; omega) (by show _ * 40 ≤ _; simp; omega)) rfl ?_
  refine run 400 rfl ?_
  exact at_again (acc ++ [m], i + 1, j') ⟨by dsimp only; omega, by simp [a2], by dsimp only; omega, by dsimp only; omega, by dsimp only; rw [← a5, List.append_assoc, show most - (i + 1) = q by omega]; rfl⟩ (by dsimp only; omega)
    ⟨SVle.refl _, SVle.refl _, SVle.of_eq (by show SV.gl 5 4 (rowsM acc ++ [mr m]) = SV.gl 5 4 (rowsM (acc ++ [m])); simp), SVle.of_eq (by show I ((i : Int) + 1) = I ((i + 1 : Nat) : Int); rw [Int.natCast_add]; rfl), trivial⟩ ⟨rfl, rfl, trivial⟩
end Go.Proofs.Ytmnmhehddbemkaa
namespace Go.Proofs.Ytmnmhehddbemkaa
open Go Go.Eng

/-- A move as a step. -/
inductive St where
  | given (n : Int)
  | atom (s : ByteArray)
  | half (a k d : Int)
  | one (k a : Int)
  | two (k a b : Int)
abbrev St.ty : St → Nat
  | .given _ => 125
  | .atom _ => 126
  | .half _ _ _ => 108
  | .one _ _ => 128
  | .two _ _ _ => 130
abbrev St.v : St → Value
  | .given n => .int .i64 n
  | .atom s => .string s
  | .half a k d => .agg #[.int .i64 a, .int .i64 k, .int .i64 d]
  | .one k a => .agg #[.int .i64 k, .int .i64 a]
  | .two k a b => .agg #[.int .i64 k, .int .i64 a, .int .i64 b]
abbrev St.sv : St → SV
  | .given n => I n
  | .atom s => .str s
  | .half a k d => .agg [I a, I k, I d]
  | .one k a => .agg [I k, I a]
  | .two k a b => .agg [I k, I a, I b]
theorem St.den (s : St) (g : Nat → Value) (H : Hp) : Den g H s.sv s.v := by
  cases s with
  | given n => rfl
  | atom s => rfl
  | half a k d => exact ⟨_, rfl, rfl, rfl, rfl, trivial⟩
  | one k a => exact ⟨_, rfl, rfl, rfl, trivial⟩
  | two k a b => exact ⟨_, rfl, rfl, rfl, rfl, trivial⟩
abbrev optV : Option St → Value
  | none => .nilIface
  | some s => .iface s.ty s.v

def readF (m : Mv) : Option St := if m.k = 1 then some (.given m.a) else if m.k = 2 then some (.atom m.s) else if m.k = 3 then some (.half m.a 7 0) else if m.k = 4 then some (.half m.a 7 1) else if m.k = 5 then some (.half m.a 6 1)
  else if m.k = 6 then some (.one 3 m.a) else if m.k = 7 then some (.one 4 m.a) else if m.k = 8 then some (.two 5 m.a m.b) else if m.k = 9 then some (.two 6 m.a m.b) else if m.k = 10 then some (.two 7 m.a m.b) else none

set_option maxRecDepth 100000 in
theorem read_fn (m : Mv) : Gives Try.prog 84 [m.sv] (.val (optV (readF m))) := by
  refine contract_of ty_ok [0, 1, 2, 3, 4, 5, 6, 7] Try.func84 rfl (by decide) Try.ntmps84 rfl fun z => ?_
  refine run 400 rfl ?_
  refine at_split 5 rfl (fun h1 => ?_) (fun h1 => ?_)
  · have e : readF m = some (.given m.a) := by simp at h1; rw [readF, if_pos h1]
    refine run 400 rfl ?_
    refine at_val (.val (.iface 125 (St.v (.given m.a)))) (does_iface ty_ok (St.v (.given m.a)) rfl rfl rfl) ?_
    refine run 400 rfl ?_
    exact at_ret rfl rfl [] ⟨by rw [e], rfl, rfl⟩ trivial
  refine run 400 rfl ?_
  refine at_split 10 rfl (fun h2 => ?_) (fun h2 => ?_)
  · have e : readF m = some (.atom m.s) := by simp at h1 h2; rw [readF, if_neg h1, if_pos h2]
    refine run 400 rfl ?_
    refine at_val (.val (.iface 126 (St.v (.atom m.s)))) (does_iface ty_ok (St.v (.atom m.s)) rfl rfl rfl) ?_
    refine run 400 rfl ?_
    exact at_ret rfl rfl [] ⟨by rw [e], rfl, rfl⟩ trivial
  refine run 400 rfl ?_
  refine at_split 15 rfl (fun h3 => ?_) (fun h3 => ?_)
  · have e : readF m = some (.half m.a 7 0) := by simp at h1 h2 h3; rw [readF, if_neg h1, if_neg h2, if_pos h3]
    refine run 400 rfl ?_
    refine at_val (.val (.iface 108 (St.v (.half m.a 7 0)))) (does_iface ty_ok (St.v (.half m.a 7 0)) rfl rfl rfl) ?_
    refine run 400 rfl ?_
    exact at_ret rfl rfl [] ⟨by rw [e], rfl, rfl⟩ trivial
  refine run 400 rfl ?_
  refine at_split 21 rfl (fun h4 => ?_) (fun h4 => ?_)
  · have e : readF m = some (.half m.a 7 1) := by simp at h1 h2 h3 h4; rw [readF, if_neg h1, if_neg h2, if_neg h3, if_pos h4]
    refine run 400 rfl ?_
    refine at_val (.val (.iface 108 (St.v (.half m.a 7 1)))) (does_iface ty_ok (St.v (.half m.a 7 1)) rfl rfl rfl) ?_
    refine run 400 rfl ?_
    exact at_ret rfl rfl [] ⟨by rw [e], rfl, rfl⟩ trivial
  refine run 400 rfl ?_
  refine at_split 27 rfl (fun h5 => ?_) (fun h5 => ?_)
  · have e : readF m = some (.half m.a 6 1) := by simp at h1 h2 h3 h4 h5; rw [readF, if_neg h1, if_neg h2, if_neg h3, if_neg h4, if_pos h5]
    refine run 400 rfl ?_
    refine at_val (.val (.iface 108 (St.v (.half m.a 6 1)))) (does_iface ty_ok (St.v (.half m.a 6 1)) rfl rfl rfl) ?_
    refine run 400 rfl ?_
    exact at_ret rfl rfl [] ⟨by rw [e], rfl, rfl⟩ trivial
  refine run 400 rfl ?_
  refine at_split 33 rfl (fun h6 => ?_) (fun h6 => ?_)
  · have e : readF m = some (.one 3 m.a) := by simp at h1 h2 h3 h4 h5 h6; rw [readF, if_neg h1, if_neg h2, if_neg h3, if_neg h4, if_neg h5, if_pos h6]
    refine run 400 rfl ?_
    refine at_val (.val (.iface 128 (St.v (.one 3 m.a)))) (does_iface ty_ok (St.v (.one 3 m.a)) rfl rfl rfl) ?_
    refine run 400 rfl ?_
    exact at_ret rfl rfl [] ⟨by rw [e], rfl, rfl⟩ trivial
  refine run 400 rfl ?_
  refine at_split 39 rfl (fun h7 => ?_) (fun h7 => ?_)
  · have e : readF m = some (.one 4 m.a) := by simp at h1 h2 h3 h4 h5 h6 h7; rw [readF, if_neg h1, if_neg h2, if_neg h3, if_neg h4, if_neg h5, if_neg h6, if_pos h7]
    refine run 400 rfl ?_
    refine at_val (.val (.iface 128 (St.v (.one 4 m.a)))) (does_iface ty_ok (St.v (.one 4 m.a)) rfl rfl rfl) ?_
    refine run 400 rfl ?_
    exact at_ret rfl rfl [] ⟨by rw [e], rfl, rfl⟩ trivial
  refine run 400 rfl ?_
  refine at_split 45 rfl (fun h8 => ?_) (fun h8 => ?_)
  · have e : readF m = some (.two 5 m.a m.b) := by simp at h1 h2 h3 h4 h5 h6 h7 h8; rw [readF, if_neg h1, if_neg h2, if_neg h3, if_neg h4, if_neg h5, if_neg h6, if_neg h7, if_pos h8]
    refine run 400 rfl ?_
    refine at_val (.val (.iface 130 (St.v (.two 5 m.a m.b)))) (does_iface ty_ok (St.v (.two 5 m.a m.b)) rfl rfl rfl) ?_
    refine run 400 rfl ?_
    exact at_ret rfl rfl [] ⟨by rw [e], rfl, rfl⟩ trivial
  refine run 400 rfl ?_
  refine at_split 53 rfl (fun h9 => ?_) (fun h9 => ?_)
  · have e : readF m = some (.two 6 m.a m.b) := by simp at h1 h2 h3 h4 h5 h6 h7 h8 h9; rw [readF, if_neg h1, if_neg h2, if_neg h3, if_neg h4, if_neg h5, if_neg h6, if_neg h7, if_neg h8, if_pos h9]
    refine run 400 rfl ?_
    refine at_val (.val (.iface 130 (St.v (.two 6 m.a m.b)))) (does_iface ty_ok (St.v (.two 6 m.a m.b)) rfl rfl rfl) ?_
    refine run 400 rfl ?_
    exact at_ret rfl rfl [] ⟨by rw [e], rfl, rfl⟩ trivial
  refine run 400 rfl ?_
  refine at_split 61 rfl (fun h10 => ?_) (fun h10 => ?_)
  · have e : readF m = some (.two 7 m.a m.b) := by simp at h1 h2 h3 h4 h5 h6 h7 h8 h9 h10; rw [readF, if_neg h1, if_neg h2, if_neg h3, if_neg h4, if_neg h5, if_neg h6, if_neg h7, if_neg h8, if_neg h9, if_pos h10]
    refine run 400 rfl ?_
    refine at_val (.val (.iface 130 (St.v (.two 7 m.a m.b)))) (does_iface ty_ok (St.v (.two 7 m.a m.b)) rfl rfl rfl) ?_
    refine run 400 rfl ?_
    exact at_ret rfl rfl [] ⟨by rw [e], rfl, rfl⟩ trivial
  refine run 400 rfl ?_
  have e : readF m = none := by simp at h1 h2 h3 h4 h5 h6 h7 h8 h9 h10; rw [readF, if_neg h1, if_neg h2, if_neg h3, if_neg h4, if_neg h5, if_neg h6, if_neg h7, if_neg h8, if_neg h9, if_neg h10]
  exact at_ret rfl rfl [] ⟨by rw [e], rfl, rfl⟩ trivial

def inF (n most : Int) : Bool := decide (0 ≤ n) && decide (n < most)
theorem in_fn (n most : Int) : Gives Try.prog 155 [I n, I most] (.bl (inF n most)) := by
  have key : ∀ b : Bool, inF n most = b → Gives Try.prog 155 [I n, I most] (cond b .tt .ff) := by
    intro b hb
    refine contract_of ty_ok [0, 1, 2, 3, 4, 5, 6, 7] Try.func155 rfl (by decide) Try.ntmps155 rfl fun z => ?_
    refine run 400 rfl ?_
    refine at_split 7 rfl (fun h1 => ?_) (fun h1 => ?_)
    · have hb : decide (n < most) = b := by rw [← hb, inF, h1, Bool.true_and]
      refine run 400 rfl ?_
      refine at_split 4 rfl (fun h2 => ?_) (fun h2 => ?_)
      · rw [h2] at hb
        subst hb
        exact at_ret rfl rfl [] ⟨rfl, rfl, rfl⟩ trivial
      · rw [h2] at hb
        subst hb
        exact at_ret rfl rfl [] ⟨rfl, rfl, rfl⟩ trivial
    · have hb : b = false := by rw [← hb, inF, h1, Bool.false_and]
      subst hb
      refine run 400 rfl ?_
      exact at_ret rfl rfl [] ⟨rfl, rfl, rfl⟩ trivial
  cases hm : inF n most with
  | false => exact (key false hm).le (SVle.ff rfl)
  | true => exact (key true hm).le (SVle.tt rfl)

def nearF : St → Int → Int → Bool
  | .given n, _, known => inF n known
  | .atom _, _, _ => true
  | .half a _ _, res, _ => inF a res
  | .one _ a, res, _ => inF a res
  | .two _ a b, res, _ => inF a res && inF b res

theorem near156 (n res known : Int) : Gives Try.prog 156 [I n, I res, I known] (.bl (nearF (.given n) res known)) := by
  refine contract_of ty_ok [0, 1, 2, 3, 4, 5, 6, 7] Try.func156 rfl (by decide) Try.ntmps156 rfl fun z => ?_
  refine run 400 rfl ?_
  refine at_fn (in_fn n known) rfl ?_
  refine run 400 rfl ?_
  exact at_ret rfl rfl [] ⟨rfl, rfl, rfl⟩ trivial
theorem near157 (s : ByteArray) (res known : Int) : Gives Try.prog 157 [.str s, I res, I known] (.bl (nearF (.atom s) res known)) := by
  have : Gives Try.prog 157 [.str s, I res, I known] .tt := by
    refine contract_of ty_ok [0, 1, 2, 3, 4, 5, 6, 7] Try.func157 rfl (by decide) Try.ntmps157 rfl fun z => ?_
    refine run 400 rfl ?_
    exact at_ret rfl rfl [] ⟨rfl, rfl, rfl⟩ trivial
  exact this.le (SVle.tt rfl)
theorem near154 (a k d res known : Int) : Gives Try.prog 154 [.agg [I a, I k, I d], I res, I known] (.bl (nearF (.half a k d) res known)) := by
  refine contract_of ty_ok [0, 1, 2, 3, 4, 5, 6, 7] Try.func154 rfl (by decide) Try.ntmps154 rfl fun z => ?_
  refine run 400 rfl ?_
  refine at_fn (in_fn a res) rfl ?_
  refine run 400 rfl ?_
  exact at_ret rfl rfl [] ⟨rfl, rfl, rfl⟩ trivial
theorem near158 (k a res known : Int) : Gives Try.prog 158 [.agg [I k, I a], I res, I known] (.bl (nearF (.one k a) res known)) := by
  refine contract_of ty_ok [0, 1, 2, 3, 4, 5, 6, 7] Try.func158 rfl (by decide) Try.ntmps158 rfl fun z => ?_
  refine run 400 rfl ?_
  refine at_fn (in_fn a res) rfl ?_
  refine run 400 rfl ?_
  exact at_ret rfl rfl [] ⟨rfl, rfl, rfl⟩ trivial
theorem near159 (k a b res known : Int) : Gives Try.prog 159 [.agg [I k, I a, I b], I res, I known] (.bl (nearF (.two k a b) res known)) := by
  cases h1 : inF a res with
  | false =>
    have : Gives Try.prog 159 [.agg [I k, I a, I b], I res, I known] .ff := by
      refine contract_of ty_ok [0, 1, 2, 3, 4, 5, 6, 7] Try.func159 rfl (by decide) Try.ntmps159 rfl fun z => ?_
      refine run 400 rfl ?_
      refine at_fn (in_fn a res) rfl ?_
      refine run 400 rfl ?_
      refine at_false 11 rfl h1 ?_
      refine run 400 rfl ?_
      exact at_ret rfl rfl [] ⟨rfl, rfl, rfl⟩ trivial
    exact this.le (SVle.ff (by simp [nearF, h1]))
  | true =>
    have : Gives Try.prog 159 [.agg [I k, I a, I b], I res, I known] (.bl (inF b res)) := by
      refine contract_of ty_ok [0, 1, 2, 3, 4, 5, 6, 7] Try.func159 rfl (by decide) Try.ntmps159 rfl fun z => ?_
      refine run 400 rfl ?_
      refine at_fn (in_fn a res) rfl ?_
      refine run 400 rfl ?_
      refine at_true 11 rfl h1 ?_
      refine run 400 rfl ?_
      refine at_fn (in_fn b res) rfl ?_
      refine run 400 rfl ?_
      exact at_ret rfl rfl [] ⟨rfl, rfl, rfl⟩ trivial
    exact this.le (SVle.of_eq (by simp [nearF, h1]))

def nearId : St → Nat
  | .given _ => 156
  | .atom _ => 157
  | .half _ _ _ => 154
  | .one _ _ => 158
  | .two _ _ _ => 159
theorem near_fn (s : St) (res known : Int) : Gives Try.prog (nearId s) [s.sv, I res, I known] (.bl (nearF s res known)) := by
  cases s with
  | given n => exact near156 n res known
  | atom s => exact near157 s res known
  | half a k d => exact near154 a k d res known
  | one k a => exact near158 k a res known
  | two k a b => exact near159 k a b res known
theorem near_meth (s : St) : methB Try.prog s.ty "countersign/proof.near" (nearId s) = true := by
  cases s <;> kernel_rfl

end Go.Proofs.Ytmnmhehddbemkaa
namespace Go.Proofs.Ytmnmhehddbemkaa
open Go Go.Eng

theorem flat_len : ∀ l : List Tm, (flatU (rowsT l)).length = l.length * 4
  | [] => by rw [rowsT_nil]; rfl
  | t :: l => by
    have := flat_len l
    rw [rowsT_cons]
    unfold flatU at this ⊢
    rw [List.flatten_cons, List.map_append, List.length_append, this, List.length_cons]
    show 4 + _ = _
    omega
theorem flat_app (a b : List Tm) : flatU (rowsT (a ++ b)) = flatU (rowsT a) ++ flatU (rowsT b) := by
  unfold flatU
  rw [rowsT_app, List.flatten_append, List.map_append]
theorem flat_one (t : Tm) : flatU (rowsT [t]) = [I t.k, I t.n, .str t.s, .lst 4 (rowsT t.kids)] := by
  rw [rowsT_cons, rowsT_nil]
  rfl
theorem splice_fill (new a : List SV) (m : Nat) : splice new a.length (a ++ List.replicate (m + new.length) .any) = a ++ new ++ List.replicate m .any := by
  unfold splice
  rw [List.take_left, ← List.drop_drop, List.drop_left, List.drop_replicate, Nat.add_sub_cancel]

theorem noK_up (k : Nat) : ∀ d : DV, (up d).noK k = true
  | .int _ _ => rfl
  | .bl _ => rfl
  | .str _ => rfl
  | .val _ => rfl
  | .lst _ _ => rfl
theorem noKs_flat (k : Nat) : ∀ l : List DV, SV.noKs k (l.map up) = true
  | [] => rfl
  | d :: l => by simp [SV.noKs, noK_up, noKs_flat k l]
theorem noKs_app (k : Nat) : ∀ a b : List SV, SV.noKs k a = true → SV.noKs k b = true → SV.noKs k (a ++ b) = true
  | [], b, _, h => h
  | x :: a, b, h1, h2 => by
    simp only [SV.noKs] at h1
    cases hx : x.noK k with
    | false => simp [hx] at h1
    | true =>
      simp only [hx, cond_true] at h1
      simp only [List.cons_append, SV.noKs, hx, cond_true]
      exact noKs_app k a b h1 h2
theorem noKs_half (k : Nat) (rows : List (List DV)) (m : Nat) : SV.noKs k (flatU rows ++ List.replicate m .any) = true := noKs_app k _ _ (noKs_flat k _) (noKs_anys k m)

abbrev half (l : List Tm) (i : Nat) : List SV := flatU (rowsT (l.take i)) ++ List.replicate ((l.length - i) * 4) .any

theorem half_step {l : List Tm} {i : Nat} {u : Tm} (h : l[i]? = some u) : splice [I u.k, I u.n, .str u.s, .lst 4 (rowsT u.kids)] (i * 4) (half l i) = half l (i + 1) := by
  have hlt : i < l.length := (List.getElem?_eq_some_iff.1 h).1
  have hlen : (flatU (rowsT (l.take i))).length = i * 4 := by rw [flat_len, List.length_take, Nat.min_eq_left (by omega)]
  unfold half
  rw [← hlen, show (l.length - i) * 4 = (l.length - (i + 1)) * 4 + [I u.k, I u.n, SV.str u.s, SV.lst 4 (rowsT u.kids)].length from by show _ = _ + 4; omega, splice_fill, List.take_add_one, h]
  show _ = flatU (rowsT (l.take i ++ [u])) ++ _
  rw [flat_app, flat_one]

set_option maxRecDepth 100000 in
theorem ownL_fn (l : List Tm) (hl : l.length ≤ 1000000) (h : ∀ t : Tm, t ∈ l → Gives Try.prog 102 [t.sv] t.sv) : Gives Try.prog 80 [.lst 4 (rowsT l)] (.tl 4 (rowsT l)) := by
  have hlen : (rowsT l).length = l.length := rowsT_len l
  refine contract_of ty_ok [0, 1, 2, 3, 4, 6, 7] Try.func80 rfl (by decide) Try.ntmps80 rfl fun z => ?_
  refine run 400 rfl ?_
  refine at_make 5 4 ty_ok rfl rfl rfl (by omega) (show ((56 : Nat) : Int) * ((rowsT l).length : Int) ≤ 281474976710656 by omega) (by omega) ?_
  refine run 400 rfl ?_
  refine at_loop (fun i : Nat => i ≤ l.length) (fun i => [(3, .arr 5 (rowsT l).length), (9, .lst 4 (rowsT l)), (10, I (rowsT l).length), (11, I i)]) (fun i => [(5, .cells 33 (half l i))]) (fun i => l.length - i) [0, 1, 2, 3, 4, 6, 7]
    0 (by omega) ⟨SVle.refl _, SVle.refl _, SVle.refl _, SVle.refl _, trivial⟩ ⟨?_, trivial⟩ ?_
  · show some (SO.cells 33 (List.replicate (((rowsT l).length : Int).toNat * 4) .any)) = some (SO.cells 33 (half l 0))
    unfold half
    rw [List.take_zero, rowsT_nil, hlen]
    rfl
  intro i hi
  refine run 400 rfl ?_
  refine at_ifd rfl (fun g => ?_) (fun g => ?_)
  rotate_left
  · have e : i = l.length := by omega
    subst e
    refine run 400 rfl ?_
    refine at_publish 5 4 (rowsT l) (by show some (SO.cells 33 (half l l.length)) = _; unfold half; rw [List.take_length, Nat.sub_self, Nat.zero_mul, List.replicate_zero, List.append_nil]) (fun r hr => by rw [rowsT_map] at hr; obtain ⟨t, _, rfl⟩ := List.mem_map.1 hr; exact row_len t) (own2 := []) (fun j o h => by simp [ownq] at h) (by repeat' (first | exact trivial | refine ⟨rfl, ?_⟩)) ?_
    exact at_ret rfl rfl [] ⟨rfl, rfl, rfl⟩ trivial
  have hlt : i < l.length := by omega
  have hget := rowsT_get hlt
  have hmem := getD_mem hlt
  have hgetD : l[i]? = some (l.getD i .zero) := by rw [List.getD_eq_getElem?_getD, List.getElem?_eq_getElem hlt]; rfl
  generalize l.getD i .zero = u at hget hmem hgetD
  refine run 400 rfl ?_
  refine at_val (.rp (tr u) 0) (does_index ty_ok _ rfl rfl rfl (by omega) (show (rowsT l)[(i : Int).toNat]? = some (tr u) from hget) rfl) ?_
  refine run 1 rfl ?_
  refine at_alloc ty_ok 0 _ rfl rfl (by simp only [freshO, noKs_half]; rfl) ?_
  refine run 400 rfl ?_
  refine at_fn (h u hmem) rfl ?_
  refine run 400 rfl ?_
  refine at_val (.ptr 5 ((i : Int).toNat * 4)) (does_indexArr ty_ok rfl rfl rfl ⟨by omega, by rw [hlen]; omega⟩ rfl) ?_
  refine at_store ty_ok (half l (i + 1)) rfl rfl rfl rfl rfl rfl (by unfold half; rw [List.length_append, flat_len, List.length_replicate, List.length_take]; show i * 4 + 4 ≤ _; omega) (half_step hgetD) rfl ?_
  refine run 400 rfl ?_
  exact at_again (i + 1) (by omega) (by omega) ⟨SVle.refl _, SVle.refl _, SVle.refl _, SVle.of_eq (by show I ((i : Int) + 1) = I ((i + 1 : Nat) : Int); rw [Int.natCast_add]; rfl), trivial⟩ ⟨rfl, trivial⟩

theorem own_fn (t : Tm) (h : Sm t) : Gives Try.prog 102 [t.sv] t.sv := by
  induction t using Tm.ind with
  | h k n s l ih =>
    cases h with
    | mk h1 h2 =>
      have hL := ownL_fn l h1 fun t ht => ih t ht (h2 t ht)
      have : Gives Try.prog 102 [(Tm.mk k n s l).sv] (.agg [I k, I n, .str s, .tl 4 (rowsT l)]) := by
        refine contract_of ty_ok [0, 1, 2, 3, 4, 5, 6, 7] Try.func102 rfl (by decide) Try.ntmps102 rfl fun z => ?_
        refine run 400 rfl ?_
        refine at_fn hL rfl ?_
        refine run 400 rfl ?_
        exact at_ret rfl rfl [] ⟨rfl, rfl, rfl⟩ trivial
      exact this.le (SVle.agg ⟨SVle.refl _, SVle.refl _, SVle.refl _, SVle.tl _ _, trivial⟩)
theorem owns_fn (l : List Tm) (hl : l.length ≤ 1000000) (h : ∀ t ∈ l, Sm t) : Gives Try.prog 80 [.lst 4 (rowsT l)] (.tl 4 (rowsT l)) :=
  ownL_fn l hl fun t ht => own_fn t (h t ht)
end Go.Proofs.Ytmnmhehddbemkaa
namespace Go.Proofs.Ytmnmhehddbemkaa
open Go Go.Eng

abbrev errV : Bool → Value
  | true => .nilIface
  | false => .iface 28 (.int .i64 3)
theorem z125 : (Try.prog.info? 125).bind (·.zero) = some (.int .i64 0) := by kernel_rfl
theorem z126 : (Try.prog.info? 126).bind (·.zero) = some (.string .empty) := by kernel_rfl
theorem z108 : (Try.prog.info? 108).bind (·.zero) = some (.agg #[.int .i64 0, .int .i64 0, .int .i64 0]) := by kernel_rfl
theorem z128 : (Try.prog.info? 128).bind (·.zero) = some (.agg #[.int .i64 0, .int .i64 0]) := by kernel_rfl
theorem z130 : (Try.prog.info? 130).bind (·.zero) = some (.agg #[.int .i64 0, .int .i64 0, .int .i64 0]) := by kernel_rfl

theorem inF_lt {n m : Int} (h : inF n m = true) : 0 ≤ n ∧ n < m := by simpa [inF] using h

set_option maxRecDepth 100000 in
theorem does_given (n : Int) (l res : List Tm) (h : inF n l.length = true) (b : Bool) (hb : mayF (l.getD n.toNat .zero) = b) : Gives Try.prog 85 [.val (.iface (St.ty (.given n)) (St.v (.given n))), .lst 4 (rowsT l), .lst 4 (rowsT res)] (.tup [(l.getD n.toNat .zero).sv, .val (errV b)]) := by
  refine contract_of ty_ok [0, 1, 2, 3, 4, 5, 6, 7] Try.func85 rfl (by decide) Try.ntmps85 rfl fun z => ?_
  refine run 400 rfl ?_
  have h0 := inF_lt h
  refine at_val (.tup [St.sv (.given n), .tt]) (does_assert_yes ty_ok (St.sv (.given n)) rfl rfl rfl (St.den (.given n))) ?_
  refine run 400 rfl ?_
  have hget := rowsT_get (l := l) (n := n.toNat) (by omega)
  generalize l.getD n.toNat .zero = u at hget hb
  refine at_val (.rp (tr u) 0) (does_index ty_ok _ rfl rfl rfl h0.1 hget rfl) ?_
  refine run 400 rfl ?_
  refine at_fn (may_fn u) rfl ?_
  refine run 400 rfl ?_
  rw [hb]
  cases b with
  | false =>
    refine at_if rfl (fun g => ?_) (fun g => by cases g)
    refine run 400 rfl ?_
    refine at_val (.val (.iface 28 (.int .i64 3))) (does_iface ty_ok (.int .i64 3) rfl rfl rfl) ?_
    refine run 400 rfl ?_
    exact at_ret rfl rfl [] ⟨rfl, rfl, rfl⟩ trivial
  | true =>
    refine at_if rfl (fun g => by cases g) (fun g => ?_)
    refine run 400 rfl ?_
    exact at_ret rfl rfl [] ⟨rfl, rfl, rfl⟩ trivial

set_option maxRecDepth 100000 in
theorem does_atom (s : ByteArray) (l res : List Tm)  (b : Bool) (hb : mayF (.mk 1 0 s []) = b) : Gives Try.prog 85 [.val (.iface (St.ty (.atom s)) (St.v (.atom s))), .lst 4 (rowsT l), .lst 4 (rowsT res)] (.tup [.agg [I 1, I 0, .str s, .tl 0 []], .val (errV b)]) := by
  refine contract_of ty_ok [0, 1, 2, 3, 4, 5, 6, 7] Try.func85 rfl (by decide) Try.ntmps85 rfl fun z => ?_
  refine run 400 rfl ?_
  refine at_val (.tup [(I 0), .ff]) (does_assert_no ty_ok (I 0) z125 rfl rfl rfl rfl (fun _ _ => rfl)) ?_
  refine run 400 rfl ?_
  refine at_val (.tup [St.sv (.atom s), .tt]) (does_assert_yes ty_ok (St.sv (.atom s)) rfl rfl rfl (St.den (.atom s))) ?_
  refine run 400 rfl ?_
  have hm : Gives Try.prog 39 [.agg [I 1, I 0, .str s, .tl 0 []]] (.bl (mayF (.mk 1 0 s []))) := (may_fn (.mk 1 0 s [])).weak ⟨SVle.agg ⟨SVle.refl _, SVle.refl _, SVle.refl _, by rw [rowsT_nil]; exact fun g H x h => SVle.tl 4 [] g H x (SVle.nil 4 g H x h), trivial⟩, trivial⟩
  refine at_fn (hm) rfl ?_
  refine run 400 rfl ?_
  rw [hb]
  cases b with
  | false =>
    refine at_if rfl (fun g => ?_) (fun g => by cases g)
    refine run 400 rfl ?_
    refine at_val (.val (.iface 28 (.int .i64 3))) (does_iface ty_ok (.int .i64 3) rfl rfl rfl) ?_
    refine run 400 rfl ?_
    exact at_ret rfl rfl [] ⟨rfl, rfl, rfl⟩ trivial
  | true =>
    refine at_if rfl (fun g => by cases g) (fun g => ?_)
    refine run 400 rfl ?_
    exact at_ret rfl rfl [] ⟨rfl, rfl, rfl⟩ trivial

set_option maxRecDepth 100000 in
theorem does_half (a k d : Int) (l res : List Tm) (h : inF a res.length = true) (hk : (res.getD a.toNat .zero).k = k) (hd : 0 ≤ d ∧ d < (res.getD a.toNat .zero).kids.length) (b : Bool) (hb : mayF ((res.getD a.toNat .zero).kids.getD d.toNat .zero) = b) : Gives Try.prog 85 [.val (.iface (St.ty (.half a k d)) (St.v (.half a k d))), .lst 4 (rowsT l), .lst 4 (rowsT res)] (.tup [((res.getD a.toNat .zero).kids.getD d.toNat .zero).sv, .val (errV b)]) := by
  refine contract_of ty_ok [0, 1, 2, 3, 4, 5, 6, 7] Try.func85 rfl (by decide) Try.ntmps85 rfl fun z => ?_
  refine run 400 rfl ?_
  have h0 := inF_lt h
  refine at_val (.tup [(I 0), .ff]) (does_assert_no ty_ok (I 0) z125 rfl rfl rfl rfl (fun _ _ => rfl)) ?_
  refine run 400 rfl ?_
  refine at_val (.tup [(.str .empty), .ff]) (does_assert_no ty_ok (.str .empty) z126 rfl rfl rfl rfl (fun _ _ => rfl)) ?_
  refine run 400 rfl ?_
  refine at_val (.tup [St.sv (.half a k d), .tt]) (does_assert_yes ty_ok (St.sv (.half a k d)) rfl rfl rfl (St.den (.half a k d))) ?_
  refine run 400 rfl ?_
  have hget := rowsT_get (l := res) (n := a.toNat) (by omega)
  generalize res.getD a.toNat .zero = f at hget hb hk hd
  have hlen : ((rowsT f.kids).length : Int) = f.kids.length := by rw [rowsT_len]
  refine at_val (.rp (tr f) 0) (does_index ty_ok _ rfl rfl rfl h0.1 hget rfl) ?_
  refine run 400 rfl ?_
  refine at_false 41 rfl (by simpa using hk) ?_
  refine run 400 rfl ?_
  refine at_ifd rfl (fun g => absurd g (by rw [hlen]; omega)) (fun g => ?_)
  have hget2 := rowsT_get (l := f.kids) (n := d.toNat) (by omega)
  generalize f.kids.getD d.toNat .zero = u at hget2 hb
  refine run 400 rfl ?_
  refine at_val (.rp (tr u) 0) (does_index ty_ok _ rfl rfl rfl hd.1 hget2 rfl) ?_
  refine run 400 rfl ?_
  refine at_fn (may_fn u) rfl ?_
  refine run 400 rfl ?_
  rw [hb]
  cases b with
  | false =>
    refine at_if rfl (fun g => ?_) (fun g => by cases g)
    refine run 400 rfl ?_
    refine at_val (.val (.iface 28 (.int .i64 3))) (does_iface ty_ok (.int .i64 3) rfl rfl rfl) ?_
    refine run 400 rfl ?_
    exact at_ret rfl rfl [] ⟨rfl, rfl, rfl⟩ trivial
  | true =>
    refine at_if rfl (fun g => by cases g) (fun g => ?_)
    refine run 400 rfl ?_
    exact at_ret rfl rfl [] ⟨rfl, rfl, rfl⟩ trivial

set_option maxRecDepth 100000 in
theorem does_half_no (a k d : Int) (l res : List Tm) (h : inF a res.length = true) (hk : (res.getD a.toNat .zero).k ≠ k ∨ ((res.getD a.toNat .zero).kids.length : Int) ≤ d) : Gives Try.prog 85 [.val (.iface (St.ty (.half a k d)) (St.v (.half a k d))), .lst 4 (rowsT l), .lst 4 (rowsT res)] (.tup [.agg [I 0, I 0, .str .empty, .tl 0 []], .val (errV false)]) := by
  refine contract_of ty_ok [0, 1, 2, 3, 4, 5, 6, 7] Try.func85 rfl (by decide) Try.ntmps85 rfl fun z => ?_
  refine run 400 rfl ?_
  have h0 := inF_lt h
  refine at_val (.tup [(I 0), .ff]) (does_assert_no ty_ok (I 0) z125 rfl rfl rfl rfl (fun _ _ => rfl)) ?_
  refine run 400 rfl ?_
  refine at_val (.tup [(.str .empty), .ff]) (does_assert_no ty_ok (.str .empty) z126 rfl rfl rfl rfl (fun _ _ => rfl)) ?_
  refine run 400 rfl ?_
  refine at_val (.tup [St.sv (.half a k d), .tt]) (does_assert_yes ty_ok (St.sv (.half a k d)) rfl rfl rfl (St.den (.half a k d))) ?_
  refine run 400 rfl ?_
  have hget := rowsT_get (l := res) (n := a.toNat) (by omega)
  generalize res.getD a.toNat .zero = f at hget hk
  have hlen : ((rowsT f.kids).length : Int) = f.kids.length := by rw [rowsT_len]
  refine at_val (.rp (tr f) 0) (does_index ty_ok _ rfl rfl rfl h0.1 hget rfl) ?_
  refine run 400 rfl ?_
  refine at_split 41 rfl (fun g => ?_) (fun g => ?_)
  · refine run 400 rfl ?_
    refine at_val (.val (.iface 28 (.int .i64 3))) (does_iface ty_ok (.int .i64 3) rfl rfl rfl) ?_
    refine run 400 rfl ?_
    exact at_ret rfl rfl [] ⟨rfl, rfl, rfl⟩ trivial
  · have g : f.k = k := by simpa using g
    refine run 400 rfl ?_
    refine at_ifd rfl (fun g2 => ?_) (fun g2 => absurd (by rw [hlen]; omega) g2)
    refine run 400 rfl ?_
    refine at_val (.val (.iface 28 (.int .i64 3))) (does_iface ty_ok (.int .i64 3) rfl rfl rfl) ?_
    refine run 400 rfl ?_
    exact at_ret rfl rfl [] ⟨rfl, rfl, rfl⟩ trivial

set_option maxRecDepth 100000 in
theorem does_one (k a : Int) (l res : List Tm) (h : inF a res.length = true) (b : Bool) (hb : mayF (.mk k 0 .empty [res.getD a.toNat .zero]) = b) : Gives Try.prog 85 [.val (.iface (St.ty (.one k a)) (St.v (.one k a))), .lst 4 (rowsT l), .lst 4 (rowsT res)] (.tup [.agg [I k, I 0, .str .empty, .tl 4 [tr (res.getD a.toNat .zero)]], .val (errV b)]) := by
  refine contract_of ty_ok [0, 1, 2, 3, 4, 5, 6, 7] Try.func85 rfl (by decide) Try.ntmps85 rfl fun z => ?_
  refine run 400 rfl ?_
  have h0 := inF_lt h
  refine at_val (.tup [(I 0), .ff]) (does_assert_no ty_ok (I 0) z125 rfl rfl rfl rfl (fun _ _ => rfl)) ?_
  refine run 400 rfl ?_
  refine at_val (.tup [(.str .empty), .ff]) (does_assert_no ty_ok (.str .empty) z126 rfl rfl rfl rfl (fun _ _ => rfl)) ?_
  refine run 400 rfl ?_
  refine at_val (.tup [(.agg [I 0, I 0, I 0]), .ff]) (does_assert_no ty_ok (.agg [I 0, I 0, I 0]) z108 rfl rfl rfl rfl (fun _ _ => ⟨_, rfl, rfl, rfl, rfl, trivial⟩)) ?_
  refine run 400 rfl ?_
  refine at_val (.tup [St.sv (.one k a), .tt]) (does_assert_yes ty_ok (St.sv (.one k a)) rfl rfl rfl (St.den (.one k a))) ?_
  refine run 400 rfl ?_
  have hget := rowsT_get (l := res) (n := a.toNat) (by omega)
  generalize res.getD a.toNat .zero = u at hget hb
  refine at_drawn 9 rfl rfl [(5, .val (.rp (tr u) 0)), (7, .gro (.tl 4 [tr u]))] [20, 21, 22] rfl ⟨doesG_build ty_ok _ rfl ⟨⟨rfl, rfl, _, rfl, SVles.refl _⟩, trivial⟩ rfl rfl (by decide), does_index ty_ok _ rfl rfl rfl h0.1 hget rfl⟩ ?_
  refine run 400 rfl ?_
  have hm : Gives Try.prog 39 [.agg [I k, I 0, .str .empty, .tl 4 [tr u]]] (.bl (mayF (.mk k 0 .empty [u]))) := (may_fn (.mk k 0 .empty [u])).weak ⟨SVle.agg ⟨SVle.refl _, SVle.refl _, SVle.refl _, by rw [rowsT_cons, rowsT_nil]; exact SVle.tl _ _, trivial⟩, trivial⟩
  refine at_fn (hm) rfl ?_
  refine run 400 rfl ?_
  rw [hb]
  cases b with
  | false =>
    refine at_if rfl (fun g => ?_) (fun g => by cases g)
    refine run 400 rfl ?_
    refine at_val (.val (.iface 28 (.int .i64 3))) (does_iface ty_ok (.int .i64 3) rfl rfl rfl) ?_
    refine run 400 rfl ?_
    exact at_ret rfl rfl [] ⟨rfl, rfl, rfl⟩ trivial
  | true =>
    refine at_if rfl (fun g => by cases g) (fun g => ?_)
    refine run 400 rfl ?_
    exact at_ret rfl rfl [] ⟨rfl, rfl, rfl⟩ trivial

set_option maxRecDepth 100000 in
theorem does_two (k a c : Int) (l res : List Tm) (h : inF a res.length = true) (h2 : inF c res.length = true) (b : Bool) (hb : mayF (.mk k 0 .empty [res.getD a.toNat .zero, res.getD c.toNat .zero]) = b) : Gives Try.prog 85 [.val (.iface (St.ty (.two k a c)) (St.v (.two k a c))), .lst 4 (rowsT l), .lst 4 (rowsT res)] (.tup [.agg [I k, I 0, .str .empty, .tl 4 [tr (res.getD a.toNat .zero), tr (res.getD c.toNat .zero)]], .val (errV b)]) := by
  refine contract_of ty_ok [0, 1, 2, 3, 4, 5, 6, 7] Try.func85 rfl (by decide) Try.ntmps85 rfl fun z => ?_
  refine run 400 rfl ?_
  have h0 := inF_lt h
  have h1 := inF_lt h2
  refine at_val (.tup [(I 0), .ff]) (does_assert_no ty_ok (I 0) z125 rfl rfl rfl rfl (fun _ _ => rfl)) ?_
  refine run 400 rfl ?_
  refine at_val (.tup [(.str .empty), .ff]) (does_assert_no ty_ok (.str .empty) z126 rfl rfl rfl rfl (fun _ _ => rfl)) ?_
  refine run 400 rfl ?_
  refine at_val (.tup [(.agg [I 0, I 0, I 0]), .ff]) (does_assert_no ty_ok (.agg [I 0, I 0, I 0]) z108 rfl rfl rfl rfl (fun _ _ => ⟨_, rfl, rfl, rfl, rfl, trivial⟩)) ?_
  refine run 400 rfl ?_
  refine at_val (.tup [(.agg [I 0, I 0]), .ff]) (does_assert_no ty_ok (.agg [I 0, I 0]) z128 rfl rfl rfl rfl (fun _ _ => ⟨_, rfl, rfl, rfl, trivial⟩)) ?_
  refine run 400 rfl ?_
  refine at_val (.tup [St.sv (.two k a c), .tt]) (does_assert_yes ty_ok (St.sv (.two k a c)) rfl rfl rfl (St.den (.two k a c))) ?_
  refine run 400 rfl ?_
  have hget := rowsT_get (l := res) (n := a.toNat) (by omega)
  have hget2 := rowsT_get (l := res) (n := c.toNat) (by omega)
  generalize res.getD a.toNat .zero = u at hget hb
  generalize res.getD c.toNat .zero = v at hget2 hb
  refine at_drawn 14 rfl rfl [(5, .val (.rp (tr u) 0)), (10, .val (.rp (tr v) 0)), (12, .gro (.tl 4 [tr u, tr v]))] [20, 21, 22] rfl ⟨doesG_build ty_ok _ rfl ⟨⟨rfl, rfl, _, rfl, SVles.refl _⟩, ⟨rfl, rfl, _, rfl, SVles.refl _⟩, trivial⟩ rfl rfl (by decide), does_index ty_ok _ rfl rfl rfl h1.1 hget2 rfl, does_index ty_ok _ rfl rfl rfl h0.1 hget rfl⟩ ?_
  refine run 400 rfl ?_
  have hm : Gives Try.prog 39 [.agg [I k, I 0, .str .empty, .tl 4 [tr u, tr v]]] (.bl (mayF (.mk k 0 .empty [u, v]))) := (may_fn (.mk k 0 .empty [u, v])).weak ⟨SVle.agg ⟨SVle.refl _, SVle.refl _, SVle.refl _, by rw [rowsT_cons, rowsT_cons, rowsT_nil]; exact SVle.tl _ _, trivial⟩, trivial⟩
  refine at_fn (hm) rfl ?_
  refine run 400 rfl ?_
  rw [hb]
  cases b with
  | false =>
    refine at_if rfl (fun g => ?_) (fun g => by cases g)
    refine run 400 rfl ?_
    refine at_val (.val (.iface 28 (.int .i64 3))) (does_iface ty_ok (.int .i64 3) rfl rfl rfl) ?_
    refine run 400 rfl ?_
    exact at_ret rfl rfl [] ⟨rfl, rfl, rfl⟩ trivial
  | true =>
    refine at_if rfl (fun g => by cases g) (fun g => ?_)
    refine run 400 rfl ?_
    exact at_ret rfl rfl [] ⟨rfl, rfl, rfl⟩ trivial

end Go.Proofs.Ytmnmhehddbemkaa
namespace Go.Proofs.Ytmnmhehddbemkaa
open Go Go.Eng

def stepT (l res : List Tm) : St → Option Tm
  | .given n => some (l.getD n.toNat .zero)
  | .atom s => some (.mk 1 0 s [])
  | .half a k d => if (res.getD a.toNat .zero).k = k ∧ d < (res.getD a.toNat .zero).kids.length then some ((res.getD a.toNat .zero).kids.getD d.toNat .zero) else none
  | .one k a => some (.mk k 0 .empty [res.getD a.toNat .zero])
  | .two k a b => some (.mk k 0 .empty [res.getD a.toNat .zero, res.getD b.toNat .zero])
def doesF (l res : List Tm) (s : St) : Tm × Bool :=
  match stepT l res s with
  | none => (.zero, false)
  | some t => (t, mayF t)
def okS : St → Prop
  | .half _ _ d => 0 ≤ d
  | _ => True
theorem SVle.nils : SVle (.tl 0 []) (.lst 4 (rowsT [])) := by
  rw [rowsT_nil]
  exact fun g H x h => SVle.tl 4 [] g H x (SVle.nil 4 g H x h)

theorem does_fn (l res : List Tm) (s : St) (hn : nearF s res.length l.length = true) (ho : okS s) :
    Gives Try.prog 85 [.val (.iface s.ty s.v), .lst 4 (rowsT l), .lst 4 (rowsT res)] (.tup [(doesF l res s).1.sv, .val (errV (doesF l res s).2)]) := by
  cases s with
  | given n => exact does_given n l res hn _ rfl
  | atom s => exact (does_atom s l res _ rfl).le (SVle.tup ⟨SVle.agg ⟨SVle.refl _, SVle.refl _, SVle.refl _, SVle.nils, trivial⟩, SVle.refl _, trivial⟩)
  | half a k d =>
    by_cases h : (res.getD a.toNat .zero).k = k ∧ d < (res.getD a.toNat .zero).kids.length
    · have e : doesF l res (.half a k d) = ((res.getD a.toNat .zero).kids.getD d.toNat .zero, mayF ((res.getD a.toNat .zero).kids.getD d.toNat .zero)) := by simp only [doesF, stepT, if_pos h]
      rw [e]
      exact does_half a k d l res hn h.1 ⟨ho, h.2⟩ _ rfl
    · have e : doesF l res (.half a k d) = (.zero, false) := by simp only [doesF, stepT, if_neg h]
      rw [e]
      refine (does_half_no a k d l res hn ?_).le (SVle.tup ⟨SVle.agg ⟨SVle.refl _, SVle.refl _, SVle.refl _, SVle.nils, trivial⟩, SVle.refl _, trivial⟩)
      by_cases h1 : (res.getD a.toNat .zero).k = k
      · exact .inr (by have := fun q => h ⟨h1, q⟩; omega)
      · exact .inl h1
  | one k a => exact (does_one k a l res hn _ rfl).le (SVle.tup ⟨SVle.agg ⟨SVle.refl _, SVle.refl _, SVle.refl _, by show SVle _ (.lst 4 (rowsT [_])); rw [rowsT_cons, rowsT_nil]; exact SVle.tl _ _, trivial⟩, SVle.refl _, trivial⟩)
  | two k a b =>
    rw [nearF, Bool.and_eq_true] at hn
    exact (does_two k a b l res hn.1 hn.2 _ rfl).le (SVle.tup ⟨SVle.agg ⟨SVle.refl _, SVle.refl _, SVle.refl _, by show SVle _ (.lst 4 (rowsT [_, _])); rw [rowsT_cons, rowsT_cons, rowsT_nil]; exact SVle.tl _ _, trivial⟩, SVle.refl _, trivial⟩)

theorem read_ok {m : Mv} {s : St} (h : readF m = some s) : okS s := by
  unfold readF at h
  repeat' split at h
  all_goals (first | (cases h; trivial) | (cases h; show (0 : Int) ≤ _; decide) | cases h)

/-- A term that may be has as many kids as its kinds say. -/
theorem mayT_gd : ∀ (t : Tm) (d c : Int), (mayT t d c).1 = true → Gd t := by
  intro t
  induction t using Tm.ind with
  | h k n s l ih =>
    intro d c h
    rw [mayT] at h
    split at h
    · cases h
    split at h
    · cases h
    split at h
    · cases h
    · rename_i h3
      have h3 : rightF (.mk k n s l) = true := by simpa using h3
      have hlen : (l.length : Int) = kidsF k := by
        unfold rightF at h3
        rw [Bool.and_eq_true, Bool.and_eq_true] at h3
        simpa using h3.1.1
      refine .mk hlen ?_
      have key : ∀ (m : List Tm) (d c : Int), (∀ t ∈ m, t ∈ l) → (mayL m d c).1 = true → ∀ t ∈ m, Gd t := by
        intro m
        induction m with
        | nil => intro _ _ _ _ t ht; cases ht
        | cons u m ihm =>
          intro d c hm h t ht
          rw [mayL] at h
          rcases hu : mayT u d c with ⟨b, c'⟩
          rw [hu] at h
          cases b with
          | false => cases h
          | true =>
            rcases List.mem_cons.1 ht with rfl | ht
            · exact ih t (hm t (by simp)) d c (by rw [hu])
            · exact ihm d c' (fun t ht => hm t (by simp [ht])) h t ht
      exact key l _ _ (fun _ h => h) h
theorem mayF_gd {t : Tm} (h : mayF t = true) : Gd t := mayT_gd t 1 0 h

theorem st_plain (s : St) : (tiOf Try.prog s.ty).kd.plain = true := by
  rw [← ty_ok]
  cases s
  · exact (rfl : (ty 125).kd.plain = true)
  · exact (rfl : (ty 126).kd.plain = true)
  · exact (rfl : (ty 108).kd.plain = true)
  · exact (rfl : (ty 128).kd.plain = true)
  · exact (rfl : (ty 130).kd.plain = true)
theorem st_np (s : St) : (tiOf Try.prog s.ty).kd ≠ .ptr := by
  intro h
  have := st_plain s
  rw [← ty_ok] at h
  cases s
  · exact absurd (show (ty 125).kd = .ptr from h) (by intro e; cases e)
  · exact absurd (show (ty 126).kd = .ptr from h) (by intro e; cases e)
  · exact absurd (show (ty 108).kd = .ptr from h) (by intro e; cases e)
  · exact absurd (show (ty 128).kd = .ptr from h) (by intro e; cases e)
  · exact absurd (show (ty 130).kd = .ptr from h) (by intro e; cases e)

/-- What moves come to. -/
def runG (l : List Tm) : List Mv → List Tm → List Tm × Int
  | [], acc => (acc, 0)
  | m :: ms, acc => match readF m with
    | none => ([], 2)
    | some s => if nearF s acc.length l.length then (match doesF l acc s with
      | (t, true) => runG l ms (acc ++ [t])
      | (_, false) => ([], 3)) else ([], 8)
def runF (l : List Tm) (ms : List Mv) : List Tm × Int := if 1024 < ms.length then ([], 7) else runG l ms []
abbrev errI (e : Int) : Value := if e = 0 then .nilIface else .iface 28 (.int .i64 e)

set_option maxRecDepth 100000 in
theorem run58_fn (l : List Tm) (ms : List Mv) (_hl : l.length ≤ 1000000) : Gives Try.prog 58 [.lst 4 (rowsT l), .lst 4 (rowsM ms)] (.tup [.lst 4 (rowsT (runF l ms).1), .val (errI (runF l ms).2)]) := by
  refine GivesP.le (Post := fun s => ∃ a, s = .tup [a, .val (errI (runF l ms).2)] ∧ SVle a (.lst 4 (rowsT (runF l ms).1))) ?_ (fun s h => by
    obtain ⟨a, rfl, h⟩ := h
    exact SVle.tup ⟨h, SVle.refl _, trivial⟩)
  have hlen : (rowsM ms).length = ms.length := by simp
  have hlenl : (rowsT l).length = l.length := rowsT_len l
  refine contract_of ty_ok [0, 1, 2, 3, 4, 6, 7] Try.func58 rfl (by decide) Try.ntmps58 rfl fun z => ?_
  refine run 400 rfl ?_
  refine at_ifd rfl (fun h => ?_) (fun h => ?_)
  · rw [hlen] at h
    have e : runF l ms = ([], 7) := by rw [runF, if_pos (by omega)]
    rw [e]
    refine run 400 rfl ?_
    refine at_val (.val (.iface 28 (.int .i64 7))) (does_iface ty_ok (.int .i64 7) rfl rfl rfl) ?_
    refine run 400 rfl ?_
    exact at_ret rfl rfl [] ⟨⟨_, rfl, SVle.nils⟩, rfl, rfl⟩ trivial
  rw [hlen] at h
  have e : runF l ms = runG l ms [] := by rw [runF, if_neg (by omega)]
  rw [e]
  generalize hR : runG l ms [] = R
  refine run 400 rfl ?_
  refine at_new 5 4 [] (doesT_make0 ty_ok rfl rfl rfl (by omega) (show ((56 : Nat) : Int) * ((rowsM ms).length : Int) ≤ 281474976710656 by omega) (by omega) rfl) ?_
  refine run 400 rfl ?_
  refine at_loop (fun x : Nat × List Tm => x.1 ≤ ms.length ∧ x.2.length = x.1 ∧ (∀ t ∈ x.2, Sm t) ∧ runG l (ms.drop x.1) x.2 = R) (fun x => [(0, .lst 4 (rowsT l)), (6, .gl 5 4 (rowsT x.2)), (19, .lst 4 (rowsM ms)), (20, I (rowsM ms).length), (21, I x.1)]) (fun _ => [(5, .tok 4)]) (fun x => ms.length - x.1) [0, 1, 2, 3, 4, 6, 7]
    (0, []) ⟨by simp, rfl, by simp, by simpa using hR⟩ ⟨SVle.refl _, SVle.of_eq (by show SV.gl 5 4 [] = SV.gl 5 4 (rowsT []); rw [rowsT_nil]), SVle.refl _, SVle.refl _, SVle.refl _, trivial⟩ ⟨rfl, trivial⟩ ?_
  rintro ⟨i, acc⟩ ⟨a1, a2, a3, a4⟩
  dsimp only at a1 a2 a3 a4
  have hacc : (rowsT acc).length = acc.length := rowsT_len acc
  refine run 400 rfl ?_
  refine at_ifd rfl (fun g => ?_) (fun g => ?_)
  rotate_left
  · rw [hlen] at g
    dsimp only at g
    rw [List.drop_eq_nil_of_le (by omega), runG] at a4
    subst a4
    refine run 400 rfl ?_
    refine at_fn ((owns_fn acc (by omega) a3).weak (args' := [.gl 5 4 (rowsT acc)]) ⟨SVle.gl 5 4 _, trivial⟩) rfl ?_
    refine run 400 rfl ?_
    exact at_ret rfl rfl [] ⟨⟨_, rfl, SVle.tl 4 _⟩, rfl, rfl⟩ trivial
  rw [hlen] at g
  dsimp only at g
  have hlt : i < ms.length := by omega
  have hget := rowsM_get hlt
  have hdrop : ms.drop i = ms.getD i .zero :: ms.drop (i + 1) := by
    rw [List.getD_eq_getElem?_getD, List.getElem?_eq_getElem hlt, List.drop_eq_getElem_cons hlt]
    rfl
  rw [hdrop, runG] at a4
  generalize ms.getD i .zero = m at hget a4
  refine run 400 rfl ?_
  refine at_val (.rp (mr m) 0) (does_index ty_ok _ rfl rfl rfl (by omega) (show (rowsM ms)[(i : Int).toNat]? = some (mr m) from hget) rfl) ?_
  refine run 400 rfl ?_
  refine at_fn (read_fn m) rfl ?_
  refine run 400 rfl ?_
  cases hr : readF m with
  | none =>
    rw [hr] at a4
    subst a4
    refine at_val .tt (does_isNil ty_ok rfl rfl rfl) ?_
    refine run 400 rfl ?_
    refine at_val (.val (.iface 28 (.int .i64 2))) (does_iface ty_ok (.int .i64 2) rfl rfl rfl) ?_
    refine run 400 rfl ?_
    exact at_ret rfl rfl [] ⟨⟨_, rfl, SVle.nils⟩, rfl, rfl⟩ trivial
  | some s =>
    rw [hr] at a4
    refine at_val .ff (does_isNil_no ty_ok rfl rfl rfl) ?_
    refine run 400 rfl ?_
    refine at_invoke (near_meth s) (st_plain s) (st_np s) (near_fn s i (rowsT l).length) rfl rfl rfl rfl (St.den s) rfl ?_
    refine run 400 rfl ?_
    dsimp only at a4
    rw [hlenl]
    rw [a2] at a4
    refine at_if rfl (fun q => ?_) (fun q => ?_)
    · have q : nearF s i l.length = false := by simpa using q
      rw [q] at a4
      have a4 : ([], 8) = R := a4
      subst a4
      refine run 400 rfl ?_
      refine at_val (.val (.iface 28 (.int .i64 8))) (does_iface ty_ok (.int .i64 8) rfl rfl rfl) ?_
      refine run 400 rfl ?_
      exact at_ret rfl rfl [] ⟨⟨_, rfl, SVle.nils⟩, rfl, rfl⟩ trivial
    have q : nearF s i l.length = true := by simpa using q
    rw [if_pos q] at a4
    have hd := does_fn l acc s (by rw [a2]; exact q) (read_ok hr)
    have hd2 := hd.weak (args' := [.val (.iface s.ty s.v), .lst 4 (rowsT l), .gl 5 4 (rowsT acc)]) ⟨SVle.refl _, SVle.refl _, SVle.gl 5 4 _, trivial⟩
    have hgd : (doesF l acc s).2 = true → Sm (doesF l acc s).1 := by
      unfold doesF
      split
      · intro h; cases h
      · exact fun h => (mayF_gd h).sm
    generalize doesF l acc s = r at hd2 a4 hgd
    obtain ⟨t, b⟩ := r
    refine run 400 rfl ?_
    refine at_fn hd2 rfl ?_
    refine run 400 rfl ?_
    cases b with
    | false =>
      have a4 : ([], 3) = R := a4
      subst a4
      refine at_val .tt (does_notNil ty_ok rfl rfl rfl) ?_
      refine run 400 rfl ?_
      exact at_ret rfl rfl [] ⟨⟨_, rfl, SVle.nils⟩, rfl, rfl⟩ trivial
    | true =>
      have a4 : runG l (ms.drop (i + 1)) (acc ++ [t]) = R := a4
      refine at_val .ff (does_notNil_no ty_ok rfl rfl rfl) ?_
      refine run 400 rfl ?_
      refine at_gro (.tl 4 [tr t]) (doesG_build ty_ok _ rfl ⟨⟨rfl, rfl, _, rfl, SVles.refl _⟩, trivial⟩ rfl rfl (by decide)) ?_
      refine at_grow 5 5 4 (rowsT acc ++ [tr t]) rfl (doesU_append ty_ok rfl rfl rfl rfl rfl rfl rfl (by simp; omega) (by show _ * 56 ≤ _; simp; omega)) rfl ?_
      refine run 400 rfl ?_
      exact at_again (i + 1, acc ++ [t]) ⟨by dsimp only; omega, by simp [a2], fun u hu => (List.mem_append.1 hu).elim (a3 u) (fun h => by simp at h; rw [h]; exact hgd rfl), a4⟩ (by dsimp only; omega)
        ⟨SVle.refl _, SVle.of_eq (by show SV.gl 5 4 (rowsT acc ++ [tr t]) = SV.gl 5 4 (rowsT (acc ++ [t])); rw [rowsT_app, rowsT_cons, rowsT_nil]), SVle.refl _, SVle.refl _, SVle.of_eq (by show I ((i : Int) + 1) = I ((i + 1 : Nat) : Int); rw [Int.natCast_add]; rfl), trivial⟩ ⟨rfl, trivial⟩
end Go.Proofs.Ytmnmhehddbemkaa
/- The proof engine, part 14g: own things that a call hands back; maps; bytes. -/
namespace Go.Eng

/-- A thing of its own is held by a name. -/
theorem Dn.bind {cx : Cx} {g : Nat → Value} {H : Hp} {env : List (Nat × SV)} {own : List (Nat × SO)} {n : Nat} {tmps : Array Value} {w : World} {k : Nat} {x : Value} {so : SO}
    (h : Dn cx g H env own n tmps w) (hm : cx.m0 ≤ k) (hE : freshE k env = true) (hO : freshO k own = true) (hok : OwnOk cx.mine (Eng.upd g k x) H w k so)
    (hb : ∀ b, blkOf x = some b → ∀ j o, ownq own j = some o → blkOf (g j) ≠ some b) : Dn cx (Eng.upd g k x) H env ((k, so) :: own) n tmps w := by
  have hne : ∀ i, i ≠ k → Eng.upd g k x i = g i := fun i hi => upd_ne _ _ _ i hi
  refine { size := h.size, den := fun t => Den.upd hne _ _ (freshE_nth t hE) (h.den t), ok := fun j o hj => ?_, inj := fun i j hi hj b hbi hbj => ?_, hp := h.hp, base := { h.base with fix := fun j hj => by rw [hne j (by omega)]; exact h.base.fix j hj } }
  · simp only [ownq] at hj
    cases hb : Nat.beq k j with
    | true =>
      have := beq_true hb
      subst this
      simp only [hb, cond_true, Option.some.injEq] at hj
      subst hj
      exact hok
    | false =>
      simp only [hb, cond_false] at hj
      exact (h.ok j o hj).upd (freshO_own hO hj)
  · have key : ∀ j b, (ownq ((k, so) :: own) j).isSome = true → blkOf (Eng.upd g k x j) = some b → (j = k ∧ ∀ i o, ownq own i = some o → blkOf (g i) ≠ some b) ∨ (j ≠ k ∧ (ownq own j).isSome = true ∧ blkOf (g j) = some b) := by
      intro j b hj hbj
      by_cases hjk : j = k
      · subst hjk
        rw [upd_same] at hbj
        exact .inl ⟨rfl, hb b hbj⟩
      · have hbf : Nat.beq k j = false := by
          cases hb' : Nat.beq k j with
          | false => rfl
          | true => exact absurd (beq_true hb').symm hjk
        simp only [ownq, hbf, cond_false] at hj
        rw [hne j hjk] at hbj
        exact .inr ⟨hjk, hj, hbj⟩
    rcases key i b hi hbi with ⟨e1, e2⟩ | ⟨n1, o1, b1⟩ <;> rcases key j b hj hbj with ⟨e3, e4⟩ | ⟨n2, o2, b2⟩
    · rw [e1, e3]
    · cases ho : ownq own j with
      | none => rw [ho] at o2; cases o2
      | some o => exact absurd b2 (e2 j o ho)
    · cases ho : ownq own i with
      | none => rw [ho] at o1; cases o1
      | some o => exact absurd b1 (e4 i o ho)
    · exact h.inj i j o1 o2 b b1 b2

section
variable {E : Stc} {all rest : List Oper} {o : Oper} {s : List Fr} {env : List (Nat × SV)} {own own2 : List (Nat × SO)} {nx : List Nat}

/-- A call that is handed a list with room of its own, and hands one back. -/
theorem at_growF (k k' sz : Nat) {rows : List (List DV)} {f : Nat} {args : List SV} (hC : Contract E.P f 1 [(0, .tok sz)] args fun s post => s = .gl 1 sz rows ∧ post = [(1, .tok sz)]) (hc : callK o.op env (fun f l => some (f, l)) none = some (f, rens (fun _ => k) args))
    (hk : ownq own k = some (.tok sz)) (ho : lessK k own some = some own2) (kk : Sat E (.ops all rest) s (put o.dst (.gl k' sz rows) (degE k env)) ((k', .tok sz) :: own2) nx)
    (hm : Nat.ble E.cx.m0 k' = true := by rfl) (hE : freshE k' (degE k env) = true := by rfl) (hO : freshO k' own2 = true := by rfl)
    (hg : guardK all o.guard env true false false = true := by rfl) (hd : dstLt o.dst E.n = true := by rfl) : Sat E (.ops all (o :: rest)) s env own nx := by
  intro a w hat
  have hwant := wanted_of (E := E) (own := own) hg a w hat
  rw [lessK_eq] at ho
  simp only [Option.some.injEq] at ho
  subst ho
  unfold wpList
  rw [if_pos hwant]
  refine .inl ?_
  obtain ⟨hdf, g, H, hdn⟩ := hat
  obtain ⟨vs, hv, hr⟩ := run_call (P := E.P) hdn hC.1 hc
  have hpre : pres (fun _ => k) own [(0, .tok sz)] := ⟨hk, trivial⟩
  have hv' : Dens (fun j => g ((fun _ => k) j)) H args vs := Dens.unren (g' := g) (r := fun _ => k) (fun _ => rfl) args vs hv
  have key : ∀ i, (ownq [(0, SO.tok sz)] i).isSome = true → i = 0 := by
    intro i hi
    cases i with
    | zero => rfl
    | succ i => exact absurd hi (by show ¬ (false = true); simp)
  have hok : ∀ j o, ownq [(0, SO.tok sz)] j = some o → OwnOk (fun _ => True) (fun _ => g k) H w j o := by
    intro j o hj
    have h0 := key j (by rw [hj]; rfl)
    subst h0
    have e : SO.tok sz = o := by simpa [ownq] using hj
    subst e
    obtain ⟨ad, q, c, e, q1, hle, q2⟩ := hdn.ok k _ hk
    refine ⟨ad, q, c, e, q1, hle, fun p hpa hlt => ?_⟩
    obtain ⟨q3, _, q5⟩ := q2 p hpa hlt
    exact ⟨q3, trivial, q5⟩
  have hinj : InjOn (fun _ => g k) [(0, SO.tok sz)] := by
    intro i j hi hj _ _ _
    rw [key i hi, key j hj]
  have hcall := hC.2 (fun _ => g k) H w vs hdn.hp hok hinj hv'
  unfold Oper.wp
  rw [hr]
  refine hcall.mono fun e w' he => ?_
  cases e with
  | panicked c => exact he.elim
  | outgrown => exact he.elim
  | returned x =>
    obtain ⟨g', H', sv, post, ⟨rfl, rfl⟩, hx, hok', _, hon, hb⟩ := he
    obtain ⟨hd2, hother⟩ := hdn.left (r := fun _ => k) (own2 := rm1 k own) hpre hb hon (fun j o hj => ⟨rm1_own hj, fun i _ => (rm1_less k own j o hj).1⟩)
    obtain ⟨hx1, hx2⟩ := hx
    obtain ⟨ad, q, c, e, q1, hle, q2⟩ := hok' 1 (.tok sz) rfl
    rw [← hx2] at e
    have hsp : Spare w' H' sz x fun b => E.cx.mine b ∧ ∀ j o, ownq (rm1 k own) j = some o → blkOf (g j) ≠ some b := by
      refine ⟨ad, q, c, e, q1, hle, fun p hpa hlt => ?_⟩
      obtain ⟨q3, q4, q5⟩ := q2 p hpa hlt
      exact ⟨q3, hother _ q4, q5⟩
    obtain ⟨hd3, hp⟩ := (hd2.le (degE_le k env) (fun _ _ h => h)).tok (Nat.le_of_ble_eq_true hm) hE hO hx1 hsp
    exact kk _ _ (At.put hdf hd3 hp fun d e => by rw [e] at hd; exact Nat.blt_eq.mp hd)

/-- A call that hands back a thing of its own: a map. -/
theorem at_mapF (k' : Nat) {F : Nat → Hp → Obj → Prop} {f : Nat} {args : List SV} (hC : Contract E.P f 0 [] args fun s post => s = .mp 0 ∧ post = [(0, .obj F)]) (hc : callK o.op env (fun f l => some (f, l)) none = some (f, args))
    (kk : Sat E (.ops all rest) s (put o.dst (.mp k') env) ((k', .obj F) :: own) nx)
    (hm : Nat.ble E.cx.m0 k' = true := by rfl) (hE : freshE k' env = true := by rfl) (hO : freshO k' own = true := by rfl)
    (hg : guardK all o.guard env true false false = true := by rfl) (hd : dstLt o.dst E.n = true := by rfl) : Sat E (.ops all (o :: rest)) s env own nx := by
  intro a w hat
  have hwant := wanted_of (E := E) (own := own) hg a w hat
  unfold wpList
  rw [if_pos hwant]
  refine .inl ?_
  obtain ⟨hdf, g, H, hdn⟩ := hat
  obtain ⟨vs, hv, hr⟩ := run_call (P := E.P) hdn hC.1 hc
  have hcall := hC.2 g H w vs hdn.hp (fun k o hk => by simp [ownq] at hk) (fun i j hi => by simp [ownq] at hi) hv
  unfold Oper.wp
  rw [hr]
  refine hcall.mono fun e w' he => ?_
  cases e with
  | panicked c => exact he.elim
  | outgrown => exact he.elim
  | returned x =>
    obtain ⟨g', H', sv, post, ⟨rfl, rfl⟩, ⟨q, hx1, hx2⟩, hok', _, hon, hb⟩ := he
    obtain ⟨hd2, hother⟩ := hdn.left (r := fun k => k) (pre := []) (own2 := own) trivial hb hon (fun j o hj => ⟨hj, fun k hk => by simp [ownq] at hk⟩)
    obtain ⟨q', ob, e, r1, r2, r3, r4⟩ := hok' 0 (.obj F) rfl
    rw [hx1] at e
    simp only [Value.map.injEq, Option.some.injEq] at e
    subst e
    have ho := hother q r4
    have hd3 := hd2.bind (x := x) (so := .obj F) (Nat.le_of_ble_eq_true hm) hE hO ⟨q, ob, by rw [upd_same, hx2], r1, r2, r3, ho.1⟩ (fun b hbx j o hj => by
      rw [hx2] at hbx
      simp only [blkOf, Option.some.injEq] at hbx
      subst hbx
      exact ho.2 j o hj)
    exact kk _ _ (At.put hdf hd3 ⟨q, by rw [upd_same, hx2], hx2⟩ fun d e => by rw [e] at hd; exact Nat.blt_eq.mp hd)

/-- A list with room of its own gets another name. -/
theorem at_rename {m : Md} (t k k' sz : Nat) {rows : List (List DV)} (ht : nth env t = .gl k sz rows) (hk : ownq own k = some (.tok sz)) (ho : lessK k own some = some own2) (kk : Sat E m s ((t, .gl k' sz rows) :: degE k env) ((k', .tok sz) :: own2) nx)
    (hm : Nat.ble E.cx.m0 k' = true := by rfl) (hE : freshE k' (degE k env) = true := by rfl) (hO : freshO k' own2 = true := by rfl) : Sat E m s env own nx := by
  rw [lessK_eq] at ho
  simp only [Option.some.injEq] at ho
  subst ho
  refine sat_mono (fun a w hat => ?_) kk
  obtain ⟨hdf, g, H, hdn⟩ := hat
  have hx := hdn.den t
  rw [ht] at hx
  obtain ⟨hx1, hx2⟩ := hx
  obtain ⟨ad, q, c, e, q1, hle, q2⟩ := hdn.ok k _ hk
  have hsp : Spare w H sz (a.tmps.getD t undef) fun b => E.cx.mine b ∧ ∀ j o, ownq (rm1 k own) j = some o → blkOf (g j) ≠ some b := by
    refine ⟨ad, q, c, by rw [hx2, e], q1, hle, fun p hpa hlt => ?_⟩
    obtain ⟨q3, q4, q5⟩ := q2 p hpa hlt
    refine ⟨q3, ⟨q4, fun j o hj ej => ?_⟩, q5⟩
    have hl := rm1_less k own j o hj
    exact hl.1 (hdn.inj j k (by rw [hl.2]; rfl) (by rw [hk]; rfl) p.block ej (by rw [e, hpa]; simp [blkOf, Nat.blt_eq.mpr hlt]))
  have hd2 := (hdn.lessO (rm1_less k own)).le (degE_le k env) (fun _ _ h => h)
  obtain ⟨hd3, hp⟩ := hd2.tok (Nat.le_of_ble_eq_true hm) hE hO hx1 hsp
  refine ⟨hdf, _, H, { hd3 with den := fun i => ?_ }⟩
  simp only [nth]
  cases hb : Nat.beq t i with
  | true =>
    have := beq_true hb
    subst this
    exact hp
  | false => exact hd3.den i

/-- A map that has no entries. -/
def noMap : Nat → Hp → Obj → Prop := fun _ _ o => ∃ c, o = .map #[] c

/-- A map is made. -/
theorem at_mkmap (k' : Nat) {t : Nat} (ho : o.op = .makeMap t none) (kk : Sat E (.ops all rest) s (put o.dst (.mp k') env) ((k', .obj noMap) :: own) nx)
    (hm : Nat.ble E.cx.m0 k' = true := by rfl) (hE : freshE k' env = true := by rfl) (hO : freshO k' own = true := by rfl)
    (hg : guardK all o.guard env true false false = true := by rfl) (hd : dstLt o.dst E.n = true := by rfl) : Sat E (.ops all (o :: rest)) s env own nx := by
  intro a w hat
  have hwant := wanted_of (E := E) (own := own) hg a w hat
  unfold wpList
  rw [if_pos hwant]
  refine .inl ?_
  obtain ⟨hdf, g, H, hdn⟩ := hat
  have hr : (execOp a.eval o).run E.P w = .ok (.value (.map (some w.heap.size))) (w.alloc (.map #[] 0)) := by
    simp [execOp, ho, Instr.makeMap]
  have hd2 := hdn.grown (w' := w.alloc (.map #[] 0)) rfl rfl rfl (by simp) (fun b hb => heap_alloc_lt w _ hb)
  have hnew := hdn.new_ok (Nat.le_refl w.heap.size)
  have hd3 := hd2.bind (k := k') (x := .map (some w.heap.size)) (so := .obj noMap) (Nat.le_of_ble_eq_true hm) hE hO ⟨w.heap.size, _, upd_same _ _ _, heap_alloc_new w _, fun _ _ => ⟨0, rfl⟩, fun j => Hp.on_new hdn.hp j, hnew.1⟩ (fun b hbx j o hj => by
    simp only [blkOf, Option.some.injEq] at hbx
    subst hbx
    exact hnew.2 j o hj)
  unfold Oper.wp
  rw [hr]
  exact kk _ _ (At.put hdf hd3 ⟨w.heap.size, upd_same _ _ _, rfl⟩ fun d e => by rw [e] at hd; exact Nat.blt_eq.mp hd)
end

section
variable {P : Program} {T : Nat → TI} {env : List (Nat × SV)} {own : List (Nat × SO)}

/-- Nothing is found where there is nothing. -/
theorem does_lookup0 {o : Oper} {t k e q : Nat} {x y : Operand} {str : ByteArray} {z : Value} (s : SV) (ht : P.underlying t = some (.map k e)) (hks : P.underlying k = some .string) (hz : (P.info? e).bind (·.zero) = some z) (ho : o.op = .lookup t x y true) (hx : ev env x = .mp q) (hy : ev env y = .str str) (hq : ownq own q = some (.obj noMap)) (hs : ∀ g H, Den g H s z) :
    DoesV P o env own (.tup [s, .ff]) := by
  obtain ⟨i2, hi2, hz2⟩ := Option.bind_eq_some_iff.1 hz
  refine does_val fun cx g H n a w hd => ⟨.tuple #[z, .bool false], ?_, [z, .bool false], rfl, hs g H, rfl, trivial⟩
  obtain ⟨r, ob, e1, h1, h2, _⟩ := hd.ok q _ hq
  obtain ⟨c, rfl⟩ := h2 H (Hp.le_refl H)
  have ex := hd.ev x
  rw [hx] at ex
  obtain ⟨r', e2, e3⟩ := ex
  rw [e1] at e2
  simp only [Value.map.injEq, Option.some.injEq] at e2
  subst e2
  have ey : a.eval y = .string str := by have := hd.ev y; rw [hy] at this; exact this
  have hck : ∀ em, (Instr.checkKey em 10000 k (.string str)).run P w = .ok () w := by
    intro em
    rw [show (10000 : Nat) = 9999 + 1 from rfl, Instr.checkKey]
    simp [run_underlying hks]
  have hget : (getObj r).run P w = .ok (.map #[] c) w := by simp [getObj, Sem.run, h1]
  have hfind : (Instr.findKey k (.string str) []).run P w = .ok none w := by simp [Instr.findKey, run_underlying hks, Instr.findNow]
  have hl : (Instr.lookup t (.map (some r)) (.string str) true).run P w = .ok (.tuple #[z, .bool false]) w := by
    unfold Instr.lookup
    simp [run_underlying ht, hget, hck, hfind, run_zero' hi2 hz2]
  simp only [execOp, ho, e3, ey]
  simp [hl]

/-- Shifted to the right. -/
theorem does_shr {o : Oper} {t ty : Nat} {x y : Operand} {k k2 : IntKind} {a b : Int} (ho : o.op = .binOp .shr t x y ty) (hx : ev env x = .int k a) (hy : ev env y = .int k2 b) (hb : 0 ≤ b) :
    DoesV P o env own (.int k (a.fdiv (2 ^ (min b.toNat k.bits)))) := by
  refine does_bin ho fun g H u v w hu hv => ?_
  rw [hx] at hu
  rw [hy] at hv
  have hu : u = .int k a := hu
  have hv : v = .int k2 b := hv
  subst hu; subst hv
  refine ⟨_, by rw [eqGuard_at_int]; rfl, ?_, rfl⟩
  simp [binOp, Op.shift, show ¬ b < 0 by omega]

/-- The lower bits of a number. -/
theorem does_wrap (hT : ∀ t, T t = tiOf P t) {o : Oper} {s d : Nat} {x : Operand} {k k2 : IntKind} {n : Int} (ho : o.op = .convert s d x) (hx : ev env x = .int k2 n) (hs : (T s).kd = .int k2) (hd : (T d).kd = .int k) : DoesV P o env own (.int k (k.wrap n)) := by
  rw [hT s] at hs
  rw [hT d] at hd
  obtain ⟨i1, d1, h1, e1⟩ := und_kd hs (by simp)
  obtain ⟨i2, d2, h2, e2⟩ := und_kd hd (by simp)
  have e1' : d1 = .int k2 := by cases d1 <;> simp [kdOf] at e1; rw [e1]
  have e2' : d2 = .int k := by cases d2 <;> simp [kdOf] at e2; rw [e2]
  subst e1'; subst e2'
  refine does_val fun cx g H q a w hdn => ⟨.int k (k.wrap n), ?_, rfl⟩
  have e : a.eval x = .int k2 n := by have := hdn.ev x; rw [hx] at this; exact this
  simp [execOp, ho, e, convert, run_underlying h1.und, run_underlying h2.und, Conv.intToInt]

abbrev bytesR (ns : List Int) : List (List DV) := ns.map fun n => [.int .u8 n]
def bytesS (ns : List Int) : ByteArray := ns.foldl (fun r n => r.push (UInt8.ofNat n.toNat)) ByteArray.empty

theorem flat_bytes {H : Hp} : ∀ {ns : List Int} {vs : List Value}, DenF H 1 (bytesR ns) vs → vs = ns.map (Value.int .u8)
  | [], vs, h => h
  | n :: ns, vs, h => by
    obtain ⟨v1, v2, e, h1, _, h3⟩ := h
    subst e
    rw [flat_bytes h3]
    cases v1 with
    | nil => exact h1.elim
    | cons x v1 =>
      cases v1 with
      | nil =>
        have : x = .int .u8 n := h1.1
        rw [this]
        rfl
      | cons _ _ => exact h1.2.elim

/-- Bytes as a text. -/
theorem does_bytesStr (hT : ∀ t, T t = tiOf P t) {o : Oper} {s d : Nat} {x : Operand} {ns : List Int} (ho : o.op = .convert s d x) (hx : lstv (ev env x) = some (1, bytesR ns)) (hs : (T s).kd = .slice) (he : (T (T s).elem).kd = .int .u8) (hd : (T d).kd = .str) : DoesV P o env own (.str (bytesS ns)) := by
  rw [hT s] at hs
  rw [hT (T s).elem, hT s] at he
  rw [hT d] at hd
  obtain ⟨i1, h1⟩ := slice_ti hs
  obtain ⟨i2, d2, h2, e2⟩ := und_kd hd (by simp)
  obtain ⟨i3, d3, h3, e3⟩ := und_kd he (by simp)
  have e2' : d2 = .string := by cases d2 <;> simp [kdOf] at e2; rfl
  have e3' : d3 = .int .u8 := by cases d3 <;> simp [kdOf] at e3; rw [e3]
  subst e2'; subst e3'
  refine does_val fun cx g H q a w hdn => ⟨.string (bytesS ns), ?_, rfl⟩
  obtain ⟨ad, c, e, hc, hn, hp⟩ := lstv_den hx (hdn.ev x)
  have hlen : (bytesR ns).length = ns.length := by simp
  rw [hlen] at e
  have hconv : (Conv.bytesToString (.slice ad ns.length c)).run P w = .ok (.string (bytesS ns)) w := by
    cases had : ad with
    | none =>
      have := (hn had).1
      have : ns = [] := by simpa using this
      subst this
      simp [Conv.bytesToString, bytesS]
    | some p =>
      obtain ⟨hs', hR⟩ := hp p had
      obtain ⟨nv, hf, hcell⟩ := hR.flat
      have hnv := flat_bytes hf
      subst hnv
      refine run_bytesToString w p ns.length c ns ?_
      have hl := run_loadCells_list (P := P) w p (ns.map (Value.int .u8)) fun j v hj => by
        have hsp : p.spot = none := hs'.resolve_left fun e => by
          have : ns = [] := by simpa using e
          subst this
          simp at hj
        obtain ⟨b, off, spot⟩ := p
        simp only at hsp
        subst hsp
        rw [addr_add]
        exact hdn.hp _ _ _ (hcell j v hj)
      simpa using hl
  simp [execOp, ho, e, convert, run_underlying h1.und, run_underlying h2.und, run_underlying h3.und, hconv]

end
end Go.Eng
namespace Go.Proofs.Ytmnmhehddbemkaa
open Go Go.Eng

def numB (v : Int) (n : Nat) : List Int := (List.range n).map fun i => IntKind.u8.wrap (v.fdiv (2 ^ (min (8 * ((n : Int) - 1 - (i : Nat))).toNat IntKind.i64.bits)))

set_option maxRecDepth 100000 in
theorem number_fn (b : List Int) (v : Int) (n : Nat) (hn : n ≤ 100) (hb : b.length ≤ 1000000) : Contract Try.prog 126 1 [(0, .tok 1)] [.gl 0 1 (bytesR b), I v, I n] fun s post => s = .gl 1 1 (bytesR (b ++ numB v n)) ∧ post = [(1, .tok 1)] := by
  have hlenB : (numB v n).length = n := by simp [numB]
  refine contract_of ty_ok [2, 3, 4, 5, 6, 7] Try.func126 rfl (by decide) Try.ntmps126 rfl fun z => ?_
  refine run 400 rfl ?_
  refine at_rename 0 0 1 1 rfl rfl rfl ?_
  refine at_loop (fun i : Nat => i ≤ n) (fun i => [(0, .gl 1 1 (bytesR (b ++ (numB v n).take i))), (1, I v), (2, I n), (8, I n), (9, I i)]) (fun _ => [(1, .tok 1)]) (fun i => n - i) [2, 3, 4, 5, 6, 7]
    0 (by omega) ⟨SVle.of_eq (by show SV.gl 1 1 (bytesR b) = SV.gl 1 1 (bytesR (b ++ (numB v n).take 0)); rw [List.take_zero, List.append_nil]), SVle.refl _, SVle.refl _, SVle.refl _, SVle.refl _, trivial⟩ ⟨rfl, trivial⟩ ?_
  intro i hi
  refine run 400 rfl ?_
  refine at_ifd rfl (fun g => ?_) (fun g => ?_)
  rotate_left
  · have e : i = n := by omega
    subst e
    refine run 400 rfl ?_
    exact at_ret rfl rfl [(1, .tok 1)] ⟨by rw [List.take_of_length_le (by omega)], rfl⟩ ⟨rfl, trivial⟩
  have hlt : i < n := by omega
  have hx : (numB v n)[i]? = some (IntKind.u8.wrap (v.fdiv (2 ^ (min (8 * ((n : Int) - 1 - i)).toNat IntKind.i64.bits)))) := by
    simp [numB, hlt]
  refine run 400 rfl ?_
  refine at_val (.int .i64 (v.fdiv (2 ^ (min (8 * ((n : Int) - 1 - i)).toNat IntKind.i64.bits)))) (does_shr rfl rfl rfl (by omega)) ?_
  refine at_val (.int .u8 (IntKind.u8.wrap (v.fdiv (2 ^ (min (8 * ((n : Int) - 1 - i)).toNat IntKind.i64.bits))))) (does_wrap ty_ok rfl rfl rfl rfl) ?_
  generalize IntKind.u8.wrap (v.fdiv (2 ^ (min (8 * ((n : Int) - 1 - i)).toNat IntKind.i64.bits))) = x at hx
  refine at_gro (.tl 1 [[.int .u8 x]]) (doesG_build ty_ok _ rfl ⟨⟨rfl, rfl, _, rfl, SVles.refl _⟩, trivial⟩ rfl rfl (by decide)) ?_
  have hlen : (bytesR (b ++ (numB v n).take i)).length = b.length + i := by simp; omega
  refine at_grow 1 1 1 (bytesR (b ++ (numB v n).take i) ++ [[.int .u8 x]]) rfl (doesU_append ty_ok rfl rfl rfl rfl rfl rfl rfl (by rw [hlen]; simp; omega) (by rw [hlen]; show _ * 1 ≤ _; simp; omega)) rfl ?_
  refine run 400 rfl ?_
  exact at_again (i + 1) (by omega) (by omega) ⟨SVle.of_eq (by show SV.gl 1 1 (bytesR (b ++ (numB v n).take i) ++ [[.int .u8 x]]) = SV.gl 1 1 (bytesR (b ++ (numB v n).take (i + 1))); rw [List.take_add_one, hx]; simp), SVle.refl _, SVle.refl _, SVle.refl _, SVle.of_eq (by show I ((i : Int) + 1) = I ((i + 1 : Nat) : Int); rw [Int.natCast_add]; rfl), trivial⟩ ⟨rfl, trivial⟩

set_option maxRecDepth 100000 in
theorem puts0_fn (n : Int) : Gives Try.prog 104 [.tl 1 [], (Tm.mk 2 n .empty []).sv] (.lst 1 (bytesR ([2] ++ numB n 4))) := by
  refine contract_of ty_ok [0, 1, 2, 3, 4, 6, 7] Try.func104 rfl (by decide) Try.ntmps104 rfl fun z => ?_
  refine run 400 rfl ?_ (by show (0 : Int) ≤ 2 ∧ (2 : Int) ≤ 255; omega)
  refine at_gro (.tl 1 (bytesR [2])) (doesG_build ty_ok _ rfl ⟨⟨rfl, rfl, _, rfl, SVles.refl _⟩, trivial⟩ rfl rfl (by decide)) ?_
  refine at_new 5 1 (bytesR [2]) (doesT_append (xs := []) ty_ok rfl rfl rfl rfl rfl rfl rfl (by simp) (by show _ * 1 ≤ _; simp)) ?_
  refine run 400 rfl ?_
  refine at_false 15 rfl rfl ?_
  refine run 400 rfl ?_
  refine at_true 25 rfl rfl ?_
  refine run 400 rfl ?_
  refine at_growF 5 5 1 (number_fn [2] n 4 (by omega) (by simp)) rfl rfl rfl ?_
  refine run 400 rfl ?_
  refine at_loop (fun _ : Unit => True) (fun _ => [(0, .gl 5 1 (bytesR ([2] ++ numB n 4))), (33, I 0), (34, I 0)]) (fun _ => [(5, .tok 1)]) (fun _ => 0) [0, 1, 2, 3, 4, 6, 7]
    () trivial ⟨SVle.refl _, SVle.of_eq (by show I (rowsT []).length = I 0; rw [rowsT_nil]; rfl), SVle.refl _, trivial⟩ ⟨rfl, trivial⟩ ?_
  intro _ _
  refine run 400 rfl ?_
  refine at_ifd rfl (fun g => absurd g (by omega)) (fun g => ?_)
  refine at_deg 5 ?_
  refine run 400 rfl ?_
  exact at_ret rfl rfl [] ⟨rfl, rfl, rfl⟩ trivial
end Go.Proofs.Ytmnmhehddbemkaa
namespace Go.Proofs.Ytmnmhehddbemkaa
open Go Go.Eng

abbrev n1 : Tm := .mk 2 1 .empty []
theorem may_n1 : mayF n1 = true := by
  have hr : rightF n1 = true := by
    simp [rightF, kidsF, seq_self]
    exact .inr ⟨by show (0 : Int) < 1; omega, by show (1 : Int) ≤ 1073741824; omega⟩
  simp [mayF, mayT, hr, mayL]
theorem tl01 (sz : Nat) : SVle (.tl 0 []) (.tl sz []) := SVle.nil sz
theorem put_fn : Gives Try.prog 92 [n1.sv] (.lst 1 (bytesR ([2] ++ numB 1 4))) := by
  have hp := (puts0_fn 1).weak (args' := [.tl 0 [], n1.sv]) ⟨SVle.nil 1, SVle.refl _, trivial⟩
  have hm := may_fn n1
  rw [may_n1] at hm
  refine contract_of ty_ok [0, 1, 2, 3, 4, 5, 6, 7] Try.func92 rfl (by decide) Try.ntmps92 rfl fun z => ?_
  refine run 400 rfl ?_
  refine at_fn hm rfl ?_
  refine run 400 rfl ?_
  refine at_if rfl (fun h => by cases h) (fun h => ?_)
  refine run 400 rfl ?_
  refine at_fn hp rfl ?_
  refine run 400 rfl ?_
  exact at_ret rfl rfl [] ⟨rfl, rfl, rfl⟩ trivial
theorem key_fn : Gives Try.prog 66 [n1.sv] (.str (bytesS ([2] ++ numB 1 4))) := by
  refine contract_of ty_ok [0, 1, 2, 3, 4, 5, 6, 7] Try.func66 rfl (by decide) Try.ntmps66 rfl fun z => ?_
  refine run 400 rfl ?_
  refine at_fn put_fn rfl ?_
  refine at_val (.str (bytesS ([2] ++ numB 1 4))) (does_bytesStr ty_ok (ns := [2] ++ numB 1 4) rfl rfl rfl rfl rfl) ?_
  refine run 400 rfl ?_
  exact at_ret rfl rfl [] ⟨rfl, rfl, rfl⟩ trivial

theorem z33 : (Try.prog.info? 33).bind (·.zero) = some (.agg #[.int .i64 0, .int .i64 0, .string .empty, .slice none 0 0]) := by kernel_rfl
abbrev canPre : List (Nat × SO) := [(0, .cells 85 [.mp 2]), (1, .cells 55 [.clo 65 [.ptr 0 0, .ptr 1 0]]), (2, .obj noMap)]

set_option maxRecDepth 100000 in
theorem can1_fn : Contract Try.prog 65 3 canPre [n1.sv, .ptr 0 0, .ptr 1 0] fun s post => s = .ff ∧ post = canPre := by
  refine contract_of ty_ok [3, 4, 5, 6, 7] Try.func65 rfl (by decide) Try.ntmps65 rfl fun z => ?_
  refine run 400 rfl ?_
  refine at_drawn 9 rfl rfl [(2, .sv (.str (bytesS ([2] ++ numB 1 4)))), (3, .val (.tup [.agg [I 0, I 0, .str .empty, .lst 4 []], .ff])), (7, .forget), (8, .forget)] [20, 21, 22] rfl
    ⟨does_lookup0 _ Try.underlying85 Try.underlying9 z33 rfl rfl rfl rfl (fun g H => ⟨_, rfl, rfl, rfl, rfl, ⟨none, 0, rfl, Nat.le_refl _, fun _ => ⟨rfl, rfl⟩, fun p hp => by cases hp⟩, trivial⟩), key_fn⟩ ?_
  refine run 400 rfl ?_
  refine at_if rfl (fun h => by cases h) (fun h => ?_)
  refine run 400 rfl ?_
  refine at_if rfl (fun h => ?_) (fun h => ?_)
  · refine run 400 rfl ?_
    exact at_ret rfl rfl canPre ⟨rfl, rfl⟩ ⟨rfl, rfl, rfl, trivial⟩
  · have h : ((rowsT []).length : Int) ≠ 0 := by simpa using h
    rw [rowsT_nil] at h
    exact absurd rfl h

set_option maxRecDepth 100000 in
theorem open0_fn : Contract Try.prog 63 0 [] [.tl 0 []] fun s post => s = .mp 0 ∧ post = [(0, .obj noMap)] := by
  refine contract_of ty_ok [1, 2, 3, 4, 5, 6] Try.func63 rfl (by decide) Try.ntmps63 rfl fun z => ?_
  refine run 400 rfl ?_
  refine at_mkmap 0 rfl ?_
  refine run 400 rfl ?_
  refine at_loop (fun _ : Unit => True) (fun _ => [(3, .ptr 1 0), (10, I 0), (11, I 0)]) (fun _ => [(0, .obj noMap), (1, .cells 85 [.mp 0])]) (fun _ => 0) [3, 4, 5, 6]
    () trivial ⟨SVle.refl _, SVle.refl _, SVle.refl _, trivial⟩ ⟨rfl, rfl, trivial⟩ ?_
  intro _ _
  refine run 400 rfl ?_
  refine at_ifd rfl (fun g => absurd g (by omega)) (fun g => ?_)
  refine run 400 rfl ?_
  exact at_ret rfl rfl [(0, .obj noMap)] ⟨rfl, rfl⟩ ⟨rfl, trivial⟩

def r3 (a b c : Nat) : Nat → Nat := fun k => bif Nat.beq k 0 then a else bif Nat.beq k 1 then b else c

set_option maxRecDepth 100000 in
theorem can0_fn : Gives Try.prog 31 [.tl 0 [], n1.sv] .ff := by
  refine contract_of ty_ok [0, 1, 2, 3, 4, 6] Try.func31 rfl (by decide) Try.ntmps31 rfl fun z => ?_
  refine run 400 rfl ?_
  refine at_mapF 5 open0_fn rfl ?_
  refine run 400 rfl ?_
  refine at_call (r3 1 2 5) can1_fn rfl rfl ⟨rfl, rfl, rfl, trivial⟩ ?_ ?_ ?_
  · rintro _ _ ⟨rfl, rfl⟩
    refine ⟨rfl, rfl, rfl, ?_⟩
    refine run 400 rfl ?_
    exact at_ret rfl rfl [] ⟨rfl, rfl, rfl⟩ trivial
  · intro i j hi hj e
    have key : ∀ i, (ownq canPre i).isSome = true → i = 0 ∨ i = 1 ∨ i = 2 := by
      intro i hi
      match i, hi with
      | 0, _ => exact .inl rfl
      | 1, _ => exact .inr (.inl rfl)
      | 2, _ => exact .inr (.inr rfl)
      | i + 3, hi => exact absurd hi (by show ¬ (false = true); simp)
    rcases key i hi with rfl | rfl | rfl <;> rcases key j hj with rfl | rfl | rfl <;> first | rfl | (exact absurd e (by decide))
  · intro k hk
    match k, hk with
    | 0, _ => rfl
    | 1, _ => rfl
    | 2, _ => rfl

theorem way0_fn : Gives Try.prog 27 [.tl 0 [], n1.sv] (.tup [.tl 0 [], .ff]) := by
  refine contract_of ty_ok [0, 1, 2, 3, 4, 5, 6, 7] Try.func27 rfl (by decide) Try.ntmps27 rfl fun z => ?_
  refine run 400 rfl ?_
  refine at_fn can0_fn rfl ?_
  refine run 400 rfl ?_
  exact at_ret rfl rfl [] ⟨rfl, rfl, rfl⟩ trivial
end Go.Proofs.Ytmnmhehddbemkaa
namespace Go.Proofs.Ytmnmhehddbemkaa
open Go Go.Eng

theorem z28 : (Try.prog.info? 28).bind (·.zero) = some (.int .i64 0) := by kernel_rfl

theorem runG_err (l : List Tm) : ∀ (ms : List Mv) (acc : List Tm), (runG l ms acc).2 ≠ 0 → (runG l ms acc).1 = []
  | [], acc, h => by simp [runG] at h
  | m :: ms, acc, h => by
    rw [runG] at h ⊢
    split
    · rfl
    · rename_i s hs
      rw [hs] at h
      dsimp only at h
      split
      · rename_i hn
        rw [if_pos hn] at h
        split
        · rename_i t hd
          rw [hd] at h
          exact runG_err l ms _ h
        · rfl
      · rfl
theorem runF_err (l : List Tm) (ms : List Mv) (h : (runF l ms).2 ≠ 0) : (runF l ms).1 = [] := by
  unfold runF at h ⊢
  split
  · rfl
  · rename_i h1
    rw [if_neg h1] at h
    exact runG_err l ms [] h

theorem run_fn (l : List Tm) (ms : List Mv) (hl : l.length ≤ 1000000) : Gives Try.prog 19 [.lst 4 (rowsT l), .lst 4 (rowsM ms)] (.tup [.lst 4 (rowsT (runF l ms).1), I (runF l ms).2]) := by
  have h58 := run58_fn l ms hl
  have herr := runF_err l ms
  generalize runF l ms = r at h58 herr
  obtain ⟨out, e⟩ := r
  dsimp only at h58 herr ⊢
  by_cases he : e = 0
  · subst he
    have h58 : Gives Try.prog 58 [.lst 4 (rowsT l), .lst 4 (rowsM ms)] (.tup [.lst 4 (rowsT out), .val .nilIface]) := h58
    refine contract_of ty_ok [0, 1, 2, 3, 4, 5, 6, 7] Try.func19 rfl (by decide) Try.ntmps19 rfl fun z => ?_
    refine run 400 rfl ?_
    refine at_fn h58 rfl ?_
    refine run 400 rfl ?_
    refine at_val (.tup [I 0, .ff]) (does_assert_nil ty_ok (I 0) z28 rfl rfl rfl (fun _ _ => rfl)) ?_
    refine run 400 rfl ?_
    exact at_ret rfl rfl [] ⟨rfl, rfl, rfl⟩ trivial
  · have hout := herr he
    subst hout
    simp only [errI, if_neg he] at h58
    have : Gives Try.prog 19 [.lst 4 (rowsT l), .lst 4 (rowsM ms)] (.tup [.tl 0 [], I e]) := by
      refine contract_of ty_ok [0, 1, 2, 3, 4, 5, 6, 7] Try.func19 rfl (by decide) Try.ntmps19 rfl fun z => ?_
      refine run 400 rfl ?_
      refine at_fn h58 rfl ?_
      refine run 400 rfl ?_
      refine at_val (.tup [I e, .tt]) (does_assert_yes ty_ok (I e) rfl rfl rfl (fun _ _ => rfl)) ?_
      refine run 400 rfl ?_
      exact at_ret rfl rfl [] ⟨rfl, rfl, rfl⟩ trivial
    exact this.le (SVle.tup ⟨SVle.nils, SVle.refl _, trivial⟩)

theorem toList_data (a : ByteArray) : a.toList = a.data.toList := by
  unfold ByteArray.toList
  rw [loop_eq a _ 0 [] rfl]
  simp
theorem seq_data (a b : ByteArray) : seq a b = (a.data.toList == b.data.toList) := by rw [seq, toList_data, toList_data]

abbrev aa : Tm := .mk 1 0 ⟨#[97]⟩ []
abbrev ha : Tm := .mk 3 0 .empty [aa]
theorem right_aa : rightF aa = true := by
  have e : seq aa.s .empty = false := by rw [seq_data]; rfl
  unfold rightF
  rw [e]
  rfl
theorem right_ha : rightF ha = true := by
  have e : seq ha.s .empty = true := seq_self _
  unfold rightF
  rw [e]
  rfl
theorem may_aa : mayF aa = true := by
  unfold mayF
  rw [mayT, right_aa]
  rfl
theorem may_ha : mayF ha = true := by
  unfold mayF
  rw [mayT, right_ha]
  simp only [mayL]
  rw [mayT, right_aa]
  rfl
abbrev mv1 : List Mv := [⟨2, 0, 0, ⟨#[97]⟩⟩, ⟨6, 0, 0, .empty⟩]
abbrev mv2 : List Mv := [⟨0, 0, 0, .empty⟩]
theorem run_mv1 : runF [] mv1 = ([aa, ha], 0) := by
  have d1 : doesF [] [] (.atom ⟨#[97]⟩) = (aa, true) := by show (aa, mayF aa) = _; rw [may_aa]
  have d2 : doesF [] [aa] (.one 3 0) = (ha, true) := by show (ha, mayF ha) = _; rw [may_ha]
  have r1 : readF ⟨2, 0, 0, ⟨#[97]⟩⟩ = some (.atom ⟨#[97]⟩) := rfl
  have r2 : readF ⟨6, 0, 0, .empty⟩ = some (.one 3 0) := rfl
  show runG [] mv1 [] = _
  rw [runG, r1]
  show (match doesF [] [] (.atom ⟨#[97]⟩) with | (t, true) => runG [] [⟨6, 0, 0, .empty⟩] ([] ++ [t]) | (_, false) => ([], 3)) = _
  rw [d1]
  show runG [] [⟨6, 0, 0, .empty⟩] [aa] = _
  rw [runG, r2]
  show (match doesF [] [aa] (.one 3 0) with | (t, true) => runG [] [] ([aa] ++ [t]) | (_, false) => ([], 3)) = _
  rw [d2]
  rfl
theorem run_mv2 : runF [] mv2 = ([], 2) := rfl

set_option maxRecDepth 100000 in
theorem known16_fn : Gives Try.prog 16 [] .tt := by
  have k1 := (run_fn [] mv1 (by simp)).weak (args' := [.tl 0 [], .tl 4 (rowsM mv1)]) ⟨SVle.nils, SVle.tl _ _, trivial⟩
  have k2 := (run_fn [] mv2 (by simp)).weak (args' := [.tl 0 [], .tl 4 (rowsM mv2)]) ⟨SVle.nils, SVle.tl _ _, trivial⟩
  rw [run_mv1] at k1
  rw [run_mv2] at k2
  dsimp only at k1 k2
  have kw : Gives Try.prog 27 [.tl 0 [], n1.sv] (.tup [.tl 0 [], .ff]) := way0_fn
  have kT : Gives Try.prog 35 [I 3, .tl 4 [tr aa]] ha.sv := (T_fn 3 [aa]).weak ⟨SVle.refl _, by rw [rowsT_cons, rowsT_nil]; exact SVle.tl _ _, trivial⟩
  have hsm : Sm ha := (mayF_gd may_ha).sm
  have hrows : rowsT [aa, ha] = [tr aa, tr ha] := by rw [rowsT_cons, rowsT_cons, rowsT_nil]
  refine contract_of ty_ok [0, 1, 2, 3, 4, 5, 6, 7] Try.func16 rfl (by decide) Try.ntmps16 rfl fun z => ?_
  refine run 400 rfl ?_
  refine at_gro (.tl 4 (rowsM mv1)) (doesG_build ty_ok _ rfl ⟨⟨rfl, rfl, _, rfl, SVles.refl _⟩, ⟨rfl, rfl, _, rfl, SVles.refl _⟩, trivial⟩ rfl rfl (by decide)) ?_
  refine run 400 rfl ?_
  refine at_fn k1 rfl ?_
  refine run 400 rfl ?_
  refine at_gro (.tl 4 (rowsM mv2)) (doesG_build ty_ok _ rfl ⟨⟨rfl, rfl, _, rfl, SVles.refl _⟩, trivial⟩ rfl rfl (by decide)) ?_
  refine run 400 rfl ?_
  refine at_fn k2 rfl ?_
  refine run 400 rfl ?_
  refine at_fn (N_fn 1) rfl ?_
  refine run 400 rfl ?_
  refine at_fn kw rfl ?_
  refine run 400 rfl ?_
  refine at_drawn 24 rfl rfl [(2, .yes), (7, .yes), (9, .val (.rp (tr ha) 0)), (11, .sv aa.sv), (12, .gro (.tl 4 [tr aa])), (13, .sv ha.sv), (14, .sv (.bl (same ha ha))), (16, .yes), (20, .yes)] [20, 21, 22] rfl
    ⟨rfl, same_iff.2 rfl, same_fn ha ha hsm, kT, doesG_build ty_ok _ rfl ⟨⟨rfl, rfl, _, rfl, SVles.refl _⟩, trivial⟩ rfl rfl (by decide), A_fn _, does_index ty_ok _ rfl rfl rfl (by omega) (show (rowsT [aa, ha])[(1 : Int).toNat]? = some (tr ha) by rw [hrows]; rfl) rfl, by rw [hrows]; rfl, rfl⟩ ?_
  refine run 400 rfl ?_
  exact at_ret rfl rfl [] ⟨rfl, rfl, rfl⟩ trivial
end Go.Proofs.Ytmnmhehddbemkaa
namespace Go.Proofs.Ytmnmhehddbemkaa
open Go Go.Eng

theorem genT_gd (ns : List Int) : ∀ (d : Nat) (j : Int), 0 ≤ j ∧ j ≤ ns.length → Gd (genT ns d j).1 ∧ szT (genT ns d j).1 < 2 ^ (d + 1) := by
  have hA : ∀ j : Int, Gd (leafA ns j).1 ∧ szT (leafA ns j).1 = 1 := fun j => ⟨.mk rfl (by simp), by simp [leafA, szT, szL]⟩
  have hN : ∀ j : Int, Gd (leafN ns j).1 ∧ szT (leafN ns j).1 = 1 := fun j => ⟨.mk rfl (by simp), by simp [leafN, szT, szL]⟩
  intro d
  induction d with
  | zero =>
    intro j h
    simp only [genT]
    split
    · exact ⟨(hA _).1, by rw [(hA _).2]; decide⟩
    · exact ⟨(hN _).1, by rw [(hN _).2]; decide⟩
  | succ d ih =>
    intro j h
    have hx := nextF_le (l := ns) (j := j) (n := 10) h
    have h2 : 2 ^ (d + 1 + 1) = 2 ^ (d + 1) + 2 ^ (d + 1) := by rw [Nat.pow_succ]; omega
    have h1 : 1 < 2 ^ (d + 1) := Nat.one_lt_two_pow (by omega)
    simp only [genT]
    split
    · exact ⟨(hA _).1, by rw [(hA _).2]; omega⟩
    · split
      · exact ⟨(hN _).1, by rw [(hN _).2]; omega⟩
      · obtain ⟨u1, u2⟩ := ih _ hx.2.2
        have hu3 := genT_le ns d _ hx.2.2
        split
        · refine ⟨.mk ?_ (by intro t ht; simp at ht; rw [ht]; exact u1), by simp only [szT, szL]; omega⟩
          have : 3 + (nextF ns j 10).1 - 5 = 3 ∨ 3 + (nextF ns j 10).1 - 5 = 4 := by omega
          rcases this with e | e <;> rw [e] <;> rfl
        · obtain ⟨v1, v2⟩ := ih _ hu3
          refine ⟨.mk ?_ (by intro t ht; simp at ht; rcases ht with rfl | rfl; exact u1; exact v1), by simp only [szT, szL]; omega⟩
          have : 5 + (nextF ns j 10).1 - 7 = 5 ∨ 5 + (nextF ns j 10).1 - 7 = 6 ∨ 5 + (nextF ns j 10).1 - 7 = 7 := by omega
          rcases this with e | e | e <;> rw [e] <;> rfl

theorem genL_gd (ns : List Int) : ∀ (n : Nat) (j : Int), 0 ≤ j ∧ j ≤ ns.length → (∀ t ∈ genL ns n j, Gd t) ∧ szL (genL ns n j) ≤ n * 16
  | 0, _, _ => ⟨by simp [genL], by simp [genL, szL]⟩
  | n + 1, j, h => by
    obtain ⟨h1, h2⟩ := genT_gd ns 3 j h
    obtain ⟨h3, h4⟩ := genL_gd ns n (genT ns 3 j).2 (genT_le ns 3 j h)
    rw [genL]
    split
    · refine ⟨fun t ht => ?_, by rw [szL]; omega⟩
      rcases List.mem_cons.1 ht with rfl | ht
      · exact h1
      · exact h3 t ht
    · exact ⟨by simp, by rw [szL]; omega⟩

theorem runG_len (l : List Tm) : ∀ (ms : List Mv) (acc : List Tm), (runG l ms acc).2 = 0 → (runG l ms acc).1.length = acc.length + ms.length
  | [], acc, _ => by simp [runG]
  | m :: ms, acc, h => by
    rw [runG] at h ⊢
    split
    · rename_i hs
      rw [hs] at h
      cases h
    · rename_i s hs
      rw [hs] at h
      dsimp only at h
      split
      · rename_i hn
        rw [if_pos hn] at h
        split
        · rename_i t hd
          rw [hd] at h
          rw [runG_len l ms _ h]
          simp
          omega
        · rename_i t hd
          rw [hd] at h
          cases h
      · rename_i hn
        rw [if_neg hn] at h
        cases h

theorem madeL_iff {O : List Tm} : ∀ l : List Tm, madeL O l = true ↔ ∀ t ∈ l, madeT O t = true
  | [] => by simp [madeL]
  | t :: l => by rw [madeL, Bool.and_eq_true, madeL_iff l]; simp
theorem made_of_mem {O : List Tm} {t : Tm} (h : t ∈ O) : madeT O t = true := by
  cases t
  rw [madeT, among_iff.2 h]
  simp
theorem made_kids {O : List Tm} (hO : Closed O) {k n : Int} {s : ByteArray} {l : List Tm} (h : madeT O (.mk k n s l) = true) (hk : k = 7 ∨ k = 6) : ∀ t ∈ parts (.mk k n s l), madeT O t = true := by
  intro t ht
  rw [madeT] at h
  have h1 : (k == 1) = false := by rcases hk with rfl | rfl <;> rfl
  rw [h1, Bool.false_or, Bool.or_eq_true] at h
  rcases h with h | h
  · exact made_of_mem (hO _ (among_iff.1 h) t ht)
  · rw [Bool.and_eq_true] at h
    refine (madeL_iff l).1 h.2 t ?_
    rw [parts] at ht
    split at ht
    · exact ht
    · split at ht
      · exact List.mem_of_mem_drop ht
      · cases ht

/-- A step that a move is. -/
def goodS : St → Prop
  | .half _ k d => k = 7 ∧ 0 ≤ d ∨ k = 6 ∧ 1 ≤ d
  | .one k _ => k ≠ 2
  | .two k _ _ => k ≠ 2
  | _ => True
theorem read_good {m : Mv} {s : St} (h : readF m = some s) : goodS s := by
  unfold readF at h
  repeat' split at h
  all_goals (first | (cases h; trivial) | (cases h; show _ ∨ _; decide) | (cases h; show _ ≠ _; decide) | cases h)

theorem does_made {l acc : List Tm} {O : List Tm} {s : St} {t : Tm} (hO : Closed O) (hl : ∀ x ∈ l, x ∈ O) (ha : ∀ x ∈ acc, madeT O x = true) (hs : goodS s) (hn : nearF s acc.length l.length = true) (h : doesF l acc s = (t, true)) : madeT O t = true := by
  have hmem : ∀ (m : List Tm) (n : Int), inF n m.length = true → m.getD n.toNat .zero ∈ m := fun m n h => getD_mem (by have := inF_lt h; omega)
  unfold doesF at h
  cases s with
  | given n =>
    simp only [stepT, Prod.mk.injEq] at h
    rw [← h.1]
    exact made_of_mem (hl _ (hmem l n hn))
  | atom b =>
    simp only [stepT, Prod.mk.injEq] at h
    rw [← h.1, madeT]
    simp
  | half a k d =>
    simp only [stepT] at h
    split at h
    · cases h
    · rename_i u hu
      split at hu
      · rename_i hc
        simp only [Option.some.injEq] at hu
        have hf := ha _ (hmem acc a hn)
        generalize acc.getD a.toNat .zero = f at hu hc hf
        obtain ⟨fk, fn, fs, fl⟩ := f
        simp only [Prod.mk.injEq] at h
        rw [← h.1, ← hu]
        have hfk : fk = k := hc.1
        subst hfk
        have hd : d < fl.length := hc.2
        refine made_kids hO hf (hs.elim (fun h => .inl h.1) (fun h => .inr h.1)) _ ?_
        rw [parts]
        rcases hs with ⟨rfl, h0⟩ | ⟨rfl, h0⟩
        · rw [if_pos rfl]
          exact getD_mem (by omega)
        · rw [if_neg (by omega), if_pos rfl]
          have e : fl.getD d.toNat .zero = (fl.drop 1).getD (d.toNat - 1) .zero := by
            rw [List.getD_eq_getElem?_getD, List.getD_eq_getElem?_getD, List.getElem?_drop, show 1 + (d.toNat - 1) = d.toNat by omega]
          show fl.getD d.toNat .zero ∈ _
          rw [e]
          exact getD_mem (by simp; omega)
      · cases hu
  | one k a =>
    simp only [stepT, Prod.mk.injEq] at h
    have hk : (k == 2) = false := by simpa using (show k ≠ 2 from hs)
    rw [← h.1, madeT, hk, madeL, madeL, ha _ (hmem acc a hn)]
    simp
  | two k a b =>
    simp only [stepT, Prod.mk.injEq] at h
    rw [nearF, Bool.and_eq_true] at hn
    have hk : (k == 2) = false := by simpa using (show k ≠ 2 from hs)
    rw [← h.1, madeT, hk, madeL, madeL, madeL, ha _ (hmem acc a hn.1), ha _ (hmem acc b hn.2)]
    simp

theorem runG_made {l : List Tm} {O : List Tm} (hO : Closed O) (hl : ∀ x ∈ l, x ∈ O) : ∀ (ms : List Mv) (acc : List Tm), (∀ x ∈ acc, madeT O x = true) → ∀ x ∈ (runG l ms acc).1, madeT O x = true
  | [], acc, ha => by simpa [runG] using ha
  | m :: ms, acc, ha => by
    rw [runG]
    split
    · simp
    · rename_i s hs
      split
      · rename_i hn
        split
        · rename_i t hd
          exact runG_made hO hl ms _ fun x hx => (List.mem_append.1 hx).elim (ha x) fun h => by
            simp at h
            rw [h]
            exact does_made hO hl ha (read_good hs) hn hd
        · simp
      · simp
theorem runF_made {l : List Tm} (hg : ∀ t ∈ l, Gd t) (ms : List Mv) : ∀ x ∈ (runF l ms).1, madeT (openF l) x = true := by
  have hO := openF_P hg
  unfold runF
  split
  · simp
  · exact runG_made hO.closed hO.has ms [] (by simp)
theorem runF_len (l : List Tm) (ms : List Mv) (h : (runF l ms).2 = 0) : (runF l ms).1.length = ms.length := by
  unfold runF at h ⊢
  split
  · rename_i h1; rw [if_pos h1] at h; cases h
  · rename_i h1
    rw [if_neg h1] at h
    simpa using runG_len l ms [] h
theorem runG_sm {l : List Tm} : ∀ (ms : List Mv) (acc : List Tm), (∀ x ∈ acc, Sm x) → ∀ x ∈ (runG l ms acc).1, Sm x
  | [], acc, ha => by simpa [runG] using ha
  | m :: ms, acc, ha => by
    rw [runG]
    split
    · simp
    · split
      · split
        · rename_i s _ _ _ t hd
          exact runG_sm ms _ fun x hx => (List.mem_append.1 hx).elim (ha x) fun h => by
            simp at h
            rw [h]
            unfold doesF at hd
            split at hd
            · cases hd
            · simp only [Prod.mk.injEq] at hd
              rw [← hd.1]
              exact (mayF_gd hd.2).sm
        · simp
      · simp
theorem runF_sm (l : List Tm) (ms : List Mv) : ∀ x ∈ (runF l ms).1, Sm x := by
  unfold runF
  split
  · simp
  · exact runG_sm ms [] (by simp)

set_option maxRecDepth 100000 in
theorem proofSound_fn (ns mn : List Int) (h1 : ns.length ≤ 9223372036854775807) (h2 : mn.length ≤ 9223372036854775807) : Gives Try.prog 3 [.lst 1 (ints ns), .lst 1 (ints mn)] .tt := by
  have hT := terms_fn ns 8 h1 (by omega)
  have hM := moves_fn mn 40 h2 (by omega)
  have hgl := genL_gd ns 8 0 (by omega)
  have hml := genM_len mn 40 0 0
  generalize genL ns 8 0 = l at hT hgl
  generalize genM mn 40 0 0 = ms at hM hml
  have hlen := szL_len l
  refine contract_of ty_ok [0, 1, 2, 3, 4, 5, 6, 7] Try.func3 rfl (by decide) Try.ntmps3 rfl fun z => ?_
  refine run 400 rfl ?_
  refine at_fn known16_fn rfl ?_
  refine run 400 rfl ?_
  refine at_fn hT rfl ?_
  refine run 400 rfl ?_
  refine at_fn hM rfl ?_
  refine run 400 rfl ?_
  refine at_loop (fun m : List Mv => m.length ≤ 40) (fun m => [(5, .lst 4 (rowsT l)), (6, .lst 4 (rowsM m))]) (fun _ => []) (fun m => m.length) [0, 1, 2, 3, 4, 5, 6, 7]
    ms hml ⟨SVle.refl _, SVle.refl _, trivial⟩ trivial ?_
  intro m hm
  have hmlen : (rowsM m).length = m.length := by simp
  refine run 400 rfl ?_
  refine at_ifd rfl (fun g => ?_) (fun g => ?_)
  rotate_left
  · refine run 400 rfl ?_
    exact at_ret rfl rfl [] ⟨rfl, rfl, rfl⟩ trivial
  rw [hmlen] at g
  refine run 400 rfl ?_
  have hR := run_fn l m (by omega)
  have hmade := runF_made hgl.1 m
  have hrl := runF_len l m
  have hsm := runF_sm l m
  generalize runF l m = R at hR hmade hrl hsm
  obtain ⟨out, e⟩ := R
  dsimp only at hR hmade hrl hsm
  have hol : (rowsT out).length = out.length := rowsT_len out
  refine at_fn hR rfl ?_
  refine run 400 rfl ?_
  refine at_if rfl (fun q => ?_) (fun q => ?_)
  · have q : e = 0 := by simpa using q
    have hrl := hrl q
    refine run 400 rfl ?_
    refine at_loop (fun i : Nat => i ≤ out.length) (fun i => [(5, .lst 4 (rowsT l)), (6, .lst 4 (rowsM m)), (7, .lst 4 (rowsT out)), (9, I i)]) (fun _ => []) (fun i => out.length - i) [0, 1, 2, 3, 4, 5, 6, 7]
      0 (by omega) ⟨SVle.refl _, SVle.refl _, SVle.refl _, SVle.refl _, trivial⟩ trivial ?_
    intro i hi
    refine run 400 rfl ?_
    refine at_ifd rfl (fun c => ?_) (fun c => ?_)
    rotate_left
    · refine run 400 rfl ?_
      refine at_true 4 rfl (by rw [hol, hmlen, hrl]; exact beq_self_eq_true _) ?_
      exact at_ret rfl rfl [] ⟨rfl, rfl, rfl⟩ trivial
    rw [hol] at c
    have hlt : i < out.length := by omega
    have hget := rowsT_get hlt
    have hmem := getD_mem hlt
    generalize out.getD i .zero = u at hget hmem
    refine run 400 rfl ?_
    refine at_val (.rp (tr u) 0) (does_index ty_ok _ rfl rfl rfl (by omega) (show (rowsT out)[(i : Int).toNat]? = some (tr u) from hget) rfl) ?_
    refine run 400 rfl ?_
    refine at_fn (can_fn l u hgl.1 (by omega) (hsm u hmem)) rfl ?_
    refine run 400 rfl ?_
    refine at_false 39 rfl (by rw [hmade u hmem]; rfl) ?_
    refine run 400 rfl ?_
    exact at_again (i + 1) (by omega) (by omega) ⟨SVle.refl _, SVle.refl _, SVle.refl _, SVle.of_eq (by show I ((i : Int) + 1) = I ((i + 1 : Nat) : Int); rw [Int.natCast_add]; rfl), trivial⟩ trivial
  · refine run 400 rfl ?_
    refine at_val (.lst 4 ((rowsM m).take (((rowsM m).length : Int) - 1).toNat)) (does_slice_h ty_ok rfl rfl rfl (by omega) rfl) ?_
    refine run 400 rfl ?_
    exact at_again (m.take (m.length - 1)) (by simp; omega) (by simp; omega) ⟨SVle.refl _, SVle.of_eq (by show SV.lst 4 ((rowsM m).take (((rowsM m).length : Int) - 1).toNat) = SV.lst 4 (rowsM (m.take (m.length - 1))); rw [hmlen, show (((m.length : Nat) : Int) - 1).toNat = m.length - 1 by omega]; simp only [rowsM, List.map_take]), trivial⟩ trivial
end Go.Proofs.Ytmnmhehddbemkaa
namespace Go.Proofs.Ytmnmhehddbemkaa
open Go Go.Eng

theorem ok_int {n : Nat} {ds : List DV} (h : okT Try.prog n 3 ds) : ∃ m, ds = [.int .i64 m] := by
  cases n with
  | zero => exact h.elim
  | succ n =>
    simp only [okT, Try.underlying3] at h
    obtain ⟨m, rfl, _⟩ := h
    exact ⟨m, rfl⟩
theorem cells3 : Try.prog.cellsOf 3 = 1 := by kernel_rfl
theorem rows_of {X : Type} {f : X → List DV} {Q : List DV → Prop} (hQ : ∀ r, Q r → ∃ x, r = f x) : ∀ rows : List (List DV), (∀ r ∈ rows, Q r) → ∃ l : List X, rows = l.map f
  | [], _ => ⟨[], rfl⟩
  | r :: rows, h => by
    obtain ⟨x, rfl⟩ := hQ r (h r (by simp))
    obtain ⟨l, rfl⟩ := rows_of hQ rows fun r hr => h r (by simp [hr])
    exact ⟨x :: l, rfl⟩
theorem ok_ints {n : Nat} {ds : List DV} (h : okT Try.prog n 22 ds) : ∃ l, ds = [.lst 1 (ints l)] ∧ l.length ≤ maxLen := by
  cases n with
  | zero => exact h.elim
  | succ n =>
    simp only [okT, Try.underlying22, cells3] at h
    obtain ⟨rows, rfl, hm, hr⟩ := h
    obtain ⟨l, rfl⟩ := rows_of (f := fun n => [.int .i64 n]) (fun r hr => ok_int hr) rows fun r h => (hr r h).2
    exact ⟨l, rfl, by simpa using hm⟩
end Go.Proofs.Ytmnmhehddbemkaa
namespace Go.Proofs.Ytmnmhehddbemkaa
open Go Go.Eng
set_option maxRecDepth 100000

theorem ok_str {n : Nat} {ds : List DV} (h : okT Try.prog n 9 ds) : ∃ m, ds = [.str m] := by
  cases n with
  | zero => exact h.elim
  | succ n =>
    simp only [okT, Try.underlying9] at h
    obtain ⟨m, rfl, _⟩ := h
    exact ⟨m, rfl⟩
theorem cells9 : Try.prog.cellsOf 9 = 1 := by kernel_rfl
theorem cells37 : Try.prog.cellsOf 37 = 4 := by kernel_rfl
theorem ok_move {n : Nat} {r : List DV} (h : okT Try.prog n 37 r) : ∃ m : Mv, r = mr m := by
  cases n with
  | zero => exact h.elim
  | succ n =>
    simp only [okT, Try.underlying37, cells37] at h
    obtain ⟨hl, h⟩ := h
    obtain ⟨a, b, c, d, rfl⟩ : ∃ a b c d, r = [a, b, c, d] := by
      match r, hl with
      | [a, b, c, d], _ => exact ⟨a, b, c, d, rfl⟩
    have h0 := h 0 _ rfl
    have h1 := h 1 _ rfl
    have h2 := h 2 _ rfl
    have h3 := h 3 _ rfl
    simp [cells3, cells9] at h0 h1 h2 h3
    obtain ⟨x0, e0⟩ := ok_int h0
    obtain ⟨x1, e1⟩ := ok_int h1
    obtain ⟨x2, e2⟩ := ok_int h2
    obtain ⟨x3, e3⟩ := ok_str h3
    simp only [List.cons.injEq, and_true] at e0 e1 e2 e3
    exact ⟨⟨x0, x1, x2, x3⟩, by rw [e0, e1, e2, e3]⟩
theorem ok_moves {n : Nat} {ds : List DV} (h : okT Try.prog n 26 ds) : ∃ l : List Mv, ds = [.lst 4 (rowsM l)] ∧ l.length ≤ maxLen := by
  cases n with
  | zero => exact h.elim
  | succ n =>
    simp only [okT, Try.underlying26, cells37] at h
    obtain ⟨rows, rfl, hm, hr⟩ := h
    obtain ⟨l, rfl⟩ := rows_of (f := mr) (fun r hr => ok_move hr) rows fun r h => (hr r h).2
    exact ⟨l, rfl, by simpa using hm⟩
end Go.Proofs.Ytmnmhehddbemkaa
namespace Go.Proofs.Ytmnmhehddbemkaa
open Go Go.Eng

abbrev xs : ByteArray := ⟨#[120]⟩
abbrev mx : Mv := ⟨2, 0, 0, xs⟩
abbrev ax : Tm := .mk 1 0 xs []
theorem right_ax : rightF ax = true := by
  have e : seq ax.s .empty = false := by rw [seq_data]; rfl
  unfold rightF
  rw [e]
  rfl
theorem runG_atoms (tl : List Mv) : ∀ (k : Nat) (acc : List Tm), runG [] (List.replicate k mx ++ tl) acc = runG [] tl (acc ++ List.replicate k ax)
  | 0, acc => by simp
  | k + 1, acc => by
    have d1 : doesF [] acc (.atom xs) = (ax, true) := by
      show (ax, mayF ax) = _
      have : mayF ax = true := by
        unfold mayF
        rw [mayT, right_ax]
        rfl
      rw [this]
    rw [List.replicate_succ, List.cons_append, runG]
    show (match doesF [] acc (.atom xs) with | (t, true) => runG [] (List.replicate k mx ++ tl) (acc ++ [t]) | (_, false) => ([], 3)) = _
    rw [d1]
    show runG [] (List.replicate k mx ++ tl) (acc ++ [ax]) = _
    rw [runG_atoms tl k (acc ++ [ax]), List.replicate_succ]
    simp
theorem run_e (k : Nat) : (runF [] (List.replicate k mx)).2 = if 1024 < k then 7 else 0 := by
  unfold runF
  rw [List.length_replicate]
  split
  · rfl
  · have := runG_atoms [] k []
    rw [List.append_nil] at this
    rw [this]
    rfl
theorem run_g (k : Nat) : (runF [] (List.replicate k mx ++ [Mv.zero])).2 = if 1024 < k + 1 then 7 else 2 := by
  unfold runF
  rw [List.length_append, List.length_replicate, List.length_singleton]
  split
  · rfl
  · rw [runG_atoms]
    rfl

/-- Hashes, so many, of an atom. -/
def tow : Nat → Tm
  | 0 => ax
  | j + 1 => .mk 3 0 .empty [tow j]
def tows (n : Nat) : List Tm := (List.range n).map tow
abbrev hm (i : Nat) : Mv := ⟨6, i, 0, .empty⟩
theorem right_h (t : Tm) : rightF (.mk 3 0 .empty [t]) = true := by
  have e : seq (Tm.mk 3 0 .empty [t]).s .empty = true := seq_self _
  unfold rightF
  rw [e]
  rfl
theorem may_tow : ∀ (j : Nat) (d c : Int), 0 ≤ c → c + j + 1 ≤ 64 → (mayT (tow j) d c).1 = decide (d + j ≤ 16)
  | 0, d, c, h0, h1 => by
    show (mayT ax d c).1 = _
    rw [mayT, right_ax, if_neg (by omega)]
    by_cases h : 16 < d
    · rw [if_pos h]
      exact (decide_eq_false (by omega)).symm
    · rw [if_neg h, if_neg (by simp), mayL]
      exact (decide_eq_true (by omega)).symm
  | j + 1, d, c, h0, h1 => by
    rw [tow, mayT, right_h, if_neg (by omega)]
    by_cases h : 16 < d
    · rw [if_pos h]
      exact (decide_eq_false (by omega)).symm
    · rw [if_neg h, if_neg (by simp)]
      have ih := may_tow j (d + 1) (c + 1) (by omega) (by omega)
      rw [mayL]
      rcases hm : mayT (tow j) (d + 1) (c + 1) with ⟨b, c'⟩
      rw [hm] at ih
      dsimp only at ih
      have e : decide (d + ((j + 1 : Nat) : Int) ≤ 16) = b := by
        rw [ih]
        exact decide_eq_decide.2 (by omega)
      rw [e]
      cases b <;> simp [mayL]
theorem runG_hash : ∀ (r i : Nat), i + 1 ≤ 16 → i + r ≤ 40 → (runG [] ((List.range' i r).map hm) (tows (i + 1))).2 = if i + r + 1 ≤ 16 then 0 else 3
  | 0, i, h, _ => by
    rw [if_pos (by omega)]
    rfl
  | r + 1, i, h, h40 => by
    have hlen : (tows (i + 1)).length = i + 1 := by simp [tows]
    have hget : (tows (i + 1)).getD (i : Int).toNat .zero = tow i := by
      rw [List.getD_eq_getElem?_getD]
      simp [tows]
    have hn : nearF (.one 3 i) (tows (i + 1)).length ([] : List Tm).length = true := by
      rw [hlen]
      simp [nearF, inF]
      omega
    have hd : doesF [] (tows (i + 1)) (.one 3 i) = (tow (i + 1), mayF (tow (i + 1))) := by
      simp only [doesF, stepT, hget]
      rfl
    have hr : readF (hm i) = some (.one 3 i) := rfl
    have hmay : mayF (tow (i + 1)) = decide (i + 2 ≤ 16) := by
      unfold mayF
      rw [may_tow (i + 1) 1 0 (by omega) (by omega)]
      exact decide_eq_decide.2 (by omega)
    rw [List.range'_succ, List.map_cons, runG, hr]
    dsimp only
    rw [if_pos hn, hd, hmay]
    by_cases h2 : i + 2 ≤ 16
    · rw [decide_eq_true h2]
      have e : tows (i + 1) ++ [tow (i + 1)] = tows (i + 1 + 1) := by
        unfold tows
        rw [List.range_succ (n := i + 1), List.map_append]
        rfl
      show (runG [] _ (tows (i + 1) ++ [tow (i + 1)])).2 = _
      rw [e, runG_hash r (i + 1) h2 (by omega)]
      by_cases h3 : i + (r + 1) + 1 ≤ 16
      · rw [if_pos h3, if_pos (by omega)]
      · rw [if_neg h3, if_neg (by omega)]
    · rw [decide_eq_false h2, if_neg (by omega)]
theorem run_f (d : Nat) (hd : d ≤ 40) : (runF [] (mx :: (List.range d).map hm)).2 = if d + 1 ≤ 16 then 0 else 3 := by
  unfold runF
  rw [if_neg (by simp; omega)]
  have := runG_atoms ((List.range d).map hm) 1 []
  have e1 : List.replicate 1 mx ++ (List.range d).map hm = mx :: (List.range d).map hm := rfl
  rw [e1] at this
  rw [this]
  have h2 := runG_hash d 0 (by omega) (by omega)
  have e2 : ([] : List Tm) ++ List.replicate 1 ax = tows (0 + 1) := rfl
  rw [e2, List.range_eq_range', h2, Nat.zero_add]

/-! A list of moves, filled. -/
theorem flatM_len (l : List Mv) : (flatU (rowsM l)).length = l.length * 4 := by
  unfold flatU
  induction l with
  | nil => rfl
  | cons m l ih =>
    show ((mr m ++ (rowsM l).flatten).map up).length = _
    rw [List.map_append, List.length_append, ih, List.length_cons]
    show 4 + _ = _
    omega
abbrev halfM (n i : Nat) : List SV := flatU (rowsM (List.replicate i mx)) ++ List.replicate ((n - i) * 4) .any
theorem halfM_step {n i : Nat} (h : i < n) : splice [I 2, I 0, I 0, .str xs] (i * 4) (halfM n i) = halfM n (i + 1) := by
  have hlen : (flatU (rowsM (List.replicate i mx))).length = i * 4 := by rw [flatM_len, List.length_replicate]
  unfold halfM
  rw [← hlen, show (n - i) * 4 = (n - (i + 1)) * 4 + [I 2, I 0, I 0, SV.str xs].length from by show _ = _ + 4; omega, splice_fill, List.replicate_succ']
  unfold flatU
  simp only [rowsM, List.map_append, List.flatten_append]
  rfl

set_option maxRecDepth 100000 in
theorem proofMany_fn (n : Int) : Gives Try.prog 4 [I n] .tt := by
  refine Gives.le (a := .bl true) ?_ (SVle.tt rfl)
  obtain ⟨k, hk, hk2⟩ : ∃ k : Nat, (k : Int) = 1021 + n % 6 ∧ k ≤ 1026 := ⟨(1021 + n % 6).toNat, by omega, by omega⟩
  obtain ⟨d, hd, hd2⟩ : ∃ d : Nat, (d : Int) = 12 + n % 8 ∧ d ≤ 19 := ⟨(12 + n % 8).toNat, by omega, by omega⟩
  refine contract_of ty_ok [0, 1, 2, 3, 4, 7] Try.func4 rfl (by decide) Try.ntmps4 rfl fun z => ?_
  refine run 400 rfl ?_
  refine at_fn known16_fn rfl ?_
  refine run 400 rfl ?_
  refine at_fn (within21 n 6 (by omega)) rfl ?_
  refine run 400 rfl ?_
  rw [← hk]
  refine at_make 5 4 ty_ok rfl rfl rfl (by omega) (show ((40 : Nat) : Int) * (k : Int) ≤ 281474976710656 by omega) (by omega) ?_
  refine run 400 rfl ?_
  refine at_loop (fun i : Nat => i ≤ k) (fun i => [(0, I n), (3, I k), (4, .arr 5 k), (5, I i)]) (fun i => [(5, .cells 37 (halfM k i))]) (fun i => k - i) [0, 1, 2, 3, 4, 7]
    0 (by omega) ⟨SVle.refl _, SVle.refl _, SVle.refl _, SVle.refl _, trivial⟩ ⟨rfl, trivial⟩ ?_
  intro i hi
  refine run 400 rfl ?_
  refine at_ifd rfl (fun g => ?_) (fun g => ?_)
  · refine run 400 rfl ?_
    refine at_val (.ptr 5 ((i : Int).toNat * 4)) (does_indexArr ty_ok rfl rfl rfl ⟨by omega, by omega⟩ rfl) ?_
    refine at_store ty_ok (halfM k (i + 1)) rfl rfl rfl rfl rfl rfl (by unfold halfM; rw [List.length_append, flatM_len, List.length_replicate, List.length_replicate]; show i * 4 + 4 ≤ _; omega) (halfM_step (by omega)) rfl ?_
    refine run 400 rfl ?_
    exact at_again (i + 1) (by omega) (by omega) ⟨SVle.refl _, SVle.refl _, SVle.refl _, SVle.of_eq (by show I ((i : Int) + 1) = I ((i + 1 : Nat) : Int); rw [Int.natCast_add]; rfl), trivial⟩ ⟨rfl, trivial⟩
  have e : i = k := by omega
  subst e
  have hrl : (rowsM (List.replicate i mx)).length = i := by simp
  refine at_publish 5 4 (rowsM (List.replicate i mx)) (by show some (SO.cells 37 (halfM i i)) = _; unfold halfM; rw [Nat.sub_self, Nat.zero_mul, List.replicate_zero, List.append_nil]) (fun r hr => by obtain ⟨t, _, rfl⟩ := List.mem_map.1 hr; rfl) (own2 := []) (fun j o h => by simp [ownq] at h) (by repeat' (first | exact trivial | refine ⟨show (bif Nat.beq 5 5 then i = _ else True) by rw [hrl]; rfl, ?_⟩ | refine ⟨trivial, ?_⟩)) ?_
  refine run 400 rfl ?_
  have hR1 := run_fn [] (List.replicate i mx) (by simp)
  have he := run_e i
  generalize runF [] (List.replicate i mx) = R1 at hR1 he
  refine at_fn (hR1.weak (args' := [.tl 0 [], .tl 4 (rowsM (List.replicate i mx))]) ⟨SVle.nils, SVle.tl _ _, trivial⟩) rfl ?_
  refine run 400 rfl ?_
  refine at_fn (within21 n 8 (by omega)) rfl ?_
  refine run 400 rfl ?_
  rw [← hd]
  refine at_gro (.tl 4 [mr mx]) (doesG_build ty_ok _ rfl ⟨⟨rfl, rfl, _, rfl, SVles.refl _⟩, trivial⟩ rfl rfl (by decide)) ?_
  refine run 400 rfl ?_
  refine at_name 9 6 4 rfl (.inl rfl) ?_
  refine run 400 rfl ?_
  refine at_loop (fun j : Nat => j ≤ d) (fun j => [(3, I i), (4, .tl 4 (rowsM (List.replicate i mx))), (7, I R1.2), (8, I d), (9, .gl 6 4 (rowsM (mx :: (List.range j).map hm))), (10, I j)]) (fun _ => [(6, .tok 4)]) (fun j => d - j) [0, 1, 2, 3, 4, 5, 7]
    0 (by omega) ⟨SVle.refl _, SVle.refl _, SVle.refl _, SVle.refl _, SVle.refl _, SVle.refl _, trivial⟩ ⟨rfl, trivial⟩ ?_
  intro j hj
  refine run 400 rfl ?_
  refine at_ifd rfl (fun g => ?_) (fun g => ?_)
  · refine run 400 rfl ?_
    refine at_gro (.tl 4 [mr (hm j)]) (doesG_build ty_ok _ rfl ⟨⟨rfl, rfl, _, rfl, SVles.refl _⟩, trivial⟩ rfl rfl (by decide)) ?_
    refine run 400 rfl ?_
    refine at_grow 6 6 4 (rowsM (mx :: (List.range j).map hm) ++ [mr (hm j)]) rfl (doesU_append ty_ok rfl rfl rfl rfl rfl rfl rfl (by simp; omega) (by show _ * 40 ≤ _; simp; omega)) rfl ?_
    refine run 400 rfl ?_
    refine at_again (j + 1) (by omega) (by omega) ⟨SVle.refl _, SVle.refl _, SVle.refl _, SVle.refl _, SVle.of_eq ?_, SVle.of_eq (by show I ((j : Int) + 1) = I ((j + 1 : Nat) : Int); rw [Int.natCast_add]; rfl), trivial⟩ ⟨rfl, trivial⟩
    show SV.gl 6 4 (rowsM (mx :: (List.range j).map hm) ++ [mr (hm j)]) = SV.gl 6 4 (rowsM (mx :: (List.range (j + 1)).map hm))
    rw [List.range_succ]
    simp
  have e : j = d := by omega
  subst e
  refine run 400 rfl ?_
  have hR2 := run_fn [] (mx :: (List.range j).map hm) (by simp)
  have hf := run_f j (by omega)
  generalize runF [] (mx :: (List.range j).map hm) = R2 at hR2 hf
  refine at_deg 6 ?_
  refine run 400 rfl ?_
  refine at_fn (hR2.weak (args' := [.tl 0 [], .lst 4 (rowsM (mx :: (List.range j).map hm))]) ⟨SVle.nils, SVle.refl _, trivial⟩) rfl ?_
  refine run 400 rfl ?_
  refine at_gro (.tl 4 [mr Mv.zero]) (doesG_build ty_ok _ rfl ⟨⟨rfl, rfl, _, rfl, SVles.refl _⟩, trivial⟩ rfl rfl (by decide)) ?_
  refine run 400 rfl ?_
  refine at_new 5 4 (rowsM (List.replicate i mx) ++ [mr Mv.zero]) (doesT_append ty_ok rfl rfl rfl rfl rfl rfl rfl (by simp; omega) (by show _ * 40 ≤ _; simp; omega)) ?_
  refine run 400 rfl ?_
  refine at_deg 5 ?_
  refine run 400 rfl ?_
  have hR3 := run_fn [] (List.replicate i mx ++ [Mv.zero]) (by simp)
  have hg := run_g i
  generalize runF [] (List.replicate i mx ++ [Mv.zero]) = R3 at hR3 hg
  refine at_fn (hR3.weak (args' := [.tl 0 [], .lst 4 (rowsM (List.replicate i mx) ++ [mr Mv.zero])]) ⟨SVle.nils, SVle.of_eq (by simp), trivial⟩) rfl ?_
  refine run 400 rfl ?_
  refine at_true 69 rfl (by rw [he]; by_cases h : 1024 < i <;> simp [h] <;> omega) ?_
  refine run 400 rfl ?_
  by_cases h1 : 1024 < i
  · rw [if_pos h1] at he
    refine at_false 72 rfl (by rw [he]; rfl) ?_
    refine run 400 rfl ?_
    refine at_true 77 rfl (by rw [he]; rfl) ?_
    refine run 400 rfl ?_
    refine at_true 85 rfl (by rw [hf]; by_cases h : j + 1 ≤ 16 <;> simp [h] <;> omega) ?_
    refine run 400 rfl ?_
    by_cases h2 : j + 1 ≤ 16
    · rw [if_pos h2] at hf
      refine at_true 88 rfl (by rw [hf]; rfl) ?_
      refine run 400 rfl ?_
      refine at_ret rfl rfl [] ⟨?_, rfl, rfl⟩ trivial
      show SV.bl (decide (R3.2 = 7) == decide ((i : Int) + 1 > 1024)) = .bl true
      rw [hg]
      by_cases h : 1024 < i + 1 <;> simp [h] <;> omega
    · rw [if_neg h2] at hf
      refine at_false 88 rfl (by rw [hf]; rfl) ?_
      refine run 400 rfl ?_
      refine at_true 93 rfl (by rw [hf]; rfl) ?_
      refine run 400 rfl ?_
      refine at_ret rfl rfl [] ⟨?_, rfl, rfl⟩ trivial
      show SV.bl (decide (R3.2 = 7) == decide ((i : Int) + 1 > 1024)) = .bl true
      rw [hg]
      by_cases h : 1024 < i + 1 <;> simp [h] <;> omega
  · rw [if_neg h1] at he
    refine at_true 72 rfl (by rw [he]; rfl) ?_
    refine run 400 rfl ?_
    refine at_true 85 rfl (by rw [hf]; by_cases h : j + 1 ≤ 16 <;> simp [h] <;> omega) ?_
    refine run 400 rfl ?_
    by_cases h2 : j + 1 ≤ 16
    · rw [if_pos h2] at hf
      refine at_true 88 rfl (by rw [hf]; rfl) ?_
      refine run 400 rfl ?_
      refine at_ret rfl rfl [] ⟨?_, rfl, rfl⟩ trivial
      show SV.bl (decide (R3.2 = 7) == decide ((i : Int) + 1 > 1024)) = .bl true
      rw [hg]
      by_cases h : 1024 < i + 1 <;> simp [h] <;> omega
    · rw [if_neg h2] at hf
      refine at_false 88 rfl (by rw [hf]; rfl) ?_
      refine run 400 rfl ?_
      refine at_true 93 rfl (by rw [hf]; rfl) ?_
      refine run 400 rfl ?_
      refine at_ret rfl rfl [] ⟨?_, rfl, rfl⟩ trivial
      show SV.bl (decide (R3.2 = 7) == decide ((i : Int) + 1 > 1024)) = .bl true
      rw [hg]
      by_cases h : 1024 < i + 1 <;> simp [h] <;> omega
end Go.Proofs.Ytmnmhehddbemkaa
