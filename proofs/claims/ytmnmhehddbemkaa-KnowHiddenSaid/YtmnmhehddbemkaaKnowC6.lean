/- The texts W4u, W4v, W1a, W1b, Own2, W1c, GroS, W7a, M1, L2, P1, Q1, one behind the other: an executor over the translated code, contracts of functions, and their laws. -/
import Derived.Lib.Bytealg
import Derived.Laws.Externs
import Derived.Lib.AppendStr
import Derived.Test.YtmnmhehddbemkaaKnowC5
namespace Go.Proofs.Ytmnmhehddbemkaa
open Go Go.Eng


set_option maxRecDepth 100000 in
theorem walk_f0 (t : Tm) (d left : Int) (h1 : decide (left < 1) = true) : Gives Try.prog 69 [t.sv, I d, I left] (I (-1)) := by
  refine contract_of ty_ok [0, 1, 2, 3, 4, 5, 6, 7] Try.func69 rfl (by decide) Try.ntmps69 rfl fun z => ?_
  refine run 400 rfl ?_
  refine at_drawn 51 rfl rfl [(2, .yes)] [20, 21, 22] rfl h1 ?_
  refine run 400 rfl ?_
  exact at_ret rfl rfl [] ⟨rfl, rfl, rfl⟩ trivial

set_option maxRecDepth 100000 in
theorem walk_f1 (t : Tm) (d left : Int) (h1 : decide (left < 1) = false) (h2 : decide (16 < d) = true) : Gives Try.prog 69 [t.sv, I d, I left] (I (-1)) := by
  refine contract_of ty_ok [0, 1, 2, 3, 4, 5, 6, 7] Try.func69 rfl (by decide) Try.ntmps69 rfl fun z => ?_
  refine run 400 rfl ?_
  refine at_drawn 51 rfl rfl [(2, .no), (6, .yes)] [20, 21, 22] rfl ⟨h2, h1⟩ ?_
  refine run 400 rfl ?_
  exact at_ret rfl rfl [] ⟨rfl, rfl, rfl⟩ trivial

set_option maxRecDepth 100000 in
theorem walk_f2 (t : Tm) (d left : Int) (h1 : decide (left < 1) = false) (h2 : decide (16 < d) = false) (h3 : (!(kidsF t.k == ((rowsT t.kids).length : Int))) = true) : Gives Try.prog 69 [t.sv, I d, I left] (I (-1)) := by
  refine contract_of ty_ok [0, 1, 2, 3, 4, 5, 6, 7] Try.func69 rfl (by decide) Try.ntmps69 rfl fun z => ?_
  refine run 400 rfl ?_
  refine at_drawn 51 rfl rfl [(2, .no), (6, .no), (9, .sv (I (kidsF t.k))), (15, .yes)] [20, 21, 22] rfl ⟨h3, kids94_fn _, h2, h1⟩ ?_
  refine run 400 rfl ?_
  exact at_ret rfl rfl [] ⟨rfl, rfl, rfl⟩ trivial

set_option maxRecDepth 100000 in
theorem walk_f3 (t : Tm) (d left : Int) (h1 : decide (left < 1) = false) (h2 : decide (16 < d) = false) (h3 : (!(kidsF t.k == ((rowsT t.kids).length : Int))) = false) (h4 : (!(t.k == 1)) = true) (h5 : (!(seq t.s .empty)) = true) : Gives Try.prog 69 [t.sv, I d, I left] (I (-1)) := by
  refine contract_of ty_ok [0, 1, 2, 3, 4, 5, 6, 7] Try.func69 rfl (by decide) Try.ntmps69 rfl fun z => ?_
  refine run 400 rfl ?_
  refine at_drawn 51 rfl rfl [(2, .no), (6, .no), (9, .sv (I (kidsF t.k))), (15, .no), (19, .yes), (25, .yes)] [20, 21, 22] rfl ⟨h5, h4, h3, kids94_fn _, h2, h1⟩ ?_
  refine run 400 rfl ?_
  exact at_ret rfl rfl [] ⟨rfl, rfl, rfl⟩ trivial

set_option maxRecDepth 100000 in
theorem walk_f4 (t : Tm) (d left : Int) (h1 : decide (left < 1) = false) (h2 : decide (16 < d) = false) (h3 : (!(kidsF t.k == ((rowsT t.kids).length : Int))) = false) (h4 : (!(t.k == 1)) = true) (h5 : (!(seq t.s .empty)) = false) (h6 : decide (1024 < (t.s.size : Int)) = true) : Gives Try.prog 69 [t.sv, I d, I left] (I (-1)) := by
  refine contract_of ty_ok [0, 1, 2, 3, 4, 5, 6, 7] Try.func69 rfl (by decide) Try.ntmps69 rfl fun z => ?_
  refine run 400 rfl ?_
  refine at_drawn 51 rfl rfl [(2, .no), (6, .no), (9, .sv (I (kidsF t.k))), (15, .no), (19, .yes), (25, .no), (31, .yes)] [20, 21, 22] rfl ⟨h6, h5, h4, h3, kids94_fn _, h2, h1⟩ ?_
  refine run 400 rfl ?_
  exact at_ret rfl rfl [] ⟨rfl, rfl, rfl⟩ trivial

set_option maxRecDepth 100000 in
theorem walk_f5 (t : Tm) (d left : Int) (h1 : decide (left < 1) = false) (h2 : decide (16 < d) = false) (h3 : (!(kidsF t.k == ((rowsT t.kids).length : Int))) = false) (h4 : (!(t.k == 1)) = true) (h5 : (!(seq t.s .empty)) = false) (h6 : decide (1024 < (t.s.size : Int)) = false) (h7 : (!(t.k == 2)) = true) (h8 : (!(t.n == 0)) = true) : Gives Try.prog 69 [t.sv, I d, I left] (I (-1)) := by
  refine contract_of ty_ok [0, 1, 2, 3, 4, 5, 6, 7] Try.func69 rfl (by decide) Try.ntmps69 rfl fun z => ?_
  refine run 400 rfl ?_
  refine at_drawn 51 rfl rfl [(2, .no), (6, .no), (9, .sv (I (kidsF t.k))), (15, .no), (19, .yes), (25, .no), (31, .no), (35, .yes), (41, .yes)] [20, 21, 22] rfl ⟨h8, h7, h6, h5, h4, h3, kids94_fn _, h2, h1⟩ ?_
  refine run 400 rfl ?_
  exact at_ret rfl rfl [] ⟨rfl, rfl, rfl⟩ trivial

set_option maxRecDepth 100000 in
theorem walk_f6 (t : Tm) (d left : Int) (h1 : decide (left < 1) = false) (h2 : decide (16 < d) = false) (h3 : (!(kidsF t.k == ((rowsT t.kids).length : Int))) = false) (h4 : (!(t.k == 1)) = true) (h5 : (!(seq t.s .empty)) = false) (h6 : decide (1024 < (t.s.size : Int)) = false) (h7 : (!(t.k == 2)) = true) (h8 : (!(t.n == 0)) = false) (h9 : decide (t.n < 0) = true) : Gives Try.prog 69 [t.sv, I d, I left] (I (-1)) := by
  refine contract_of ty_ok [0, 1, 2, 3, 4, 5, 6, 7] Try.func69 rfl (by decide) Try.ntmps69 rfl fun z => ?_
  refine run 400 rfl ?_
  refine at_drawn 51 rfl rfl [(2, .no), (6, .no), (9, .sv (I (kidsF t.k))), (15, .no), (19, .yes), (25, .no), (31, .no), (35, .yes), (41, .no), (46, .yes)] [20, 21, 22] rfl ⟨h9, h8, h7, h6, h5, h4, h3, kids94_fn _, h2, h1⟩ ?_
  refine run 400 rfl ?_
  exact at_ret rfl rfl [] ⟨rfl, rfl, rfl⟩ trivial

set_option maxRecDepth 100000 in
theorem walk_f7 (t : Tm) (d left : Int) (h1 : decide (left < 1) = false) (h2 : decide (16 < d) = false) (h3 : (!(kidsF t.k == ((rowsT t.kids).length : Int))) = false) (h4 : (!(t.k == 1)) = true) (h5 : (!(seq t.s .empty)) = false) (h6 : decide (1024 < (t.s.size : Int)) = false) (h7 : (!(t.k == 2)) = true) (h8 : (!(t.n == 0)) = false) (h9 : decide (t.n < 0) = false) (h10 : decide (1073741824 < t.n) = true) : Gives Try.prog 69 [t.sv, I d, I left] (I (-1)) := by
  refine contract_of ty_ok [0, 1, 2, 3, 4, 5, 6, 7] Try.func69 rfl (by decide) Try.ntmps69 rfl fun z => ?_
  refine run 400 rfl ?_
  refine at_drawn 51 rfl rfl [(2, .no), (6, .no), (9, .sv (I (kidsF t.k))), (15, .no), (19, .yes), (25, .no), (31, .no), (35, .yes), (41, .no), (46, .no)] [20, 21, 22] rfl ⟨h9, h8, h7, h6, h5, h4, h3, kids94_fn _, h2, h1⟩ ?_
  refine run 400 rfl ?_
  refine at_ifd rfl (fun g => ?_) (fun g => ?_)
  · refine run 400 rfl ?_
    exact at_ret rfl rfl [] ⟨rfl, rfl, rfl⟩ trivial
  · exact absurd h10 (by rw [decide_eq_true_eq]; exact g)

set_option maxRecDepth 100000 in
theorem walk_f8 (t : Tm) (d left : Int) (h1 : decide (left < 1) = false) (h2 : decide (16 < d) = false) (h3 : (!(kidsF t.k == ((rowsT t.kids).length : Int))) = false) (h4 : (!(t.k == 1)) = true) (h5 : (!(seq t.s .empty)) = false) (h6 : decide (1024 < (t.s.size : Int)) = false) (h7 : (!(t.k == 2)) = false) (h9 : decide (t.n < 0) = true) : Gives Try.prog 69 [t.sv, I d, I left] (I (-1)) := by
  refine contract_of ty_ok [0, 1, 2, 3, 4, 5, 6, 7] Try.func69 rfl (by decide) Try.ntmps69 rfl fun z => ?_
  refine run 400 rfl ?_
  refine at_drawn 51 rfl rfl [(2, .no), (6, .no), (9, .sv (I (kidsF t.k))), (15, .no), (19, .yes), (25, .no), (31, .no), (35, .no), (46, .yes)] [20, 21, 22] rfl ⟨h9, h7, h6, h5, h4, h3, kids94_fn _, h2, h1⟩ ?_
  refine run 400 rfl ?_
  exact at_ret rfl rfl [] ⟨rfl, rfl, rfl⟩ trivial

set_option maxRecDepth 100000 in
theorem walk_f9 (t : Tm) (d left : Int) (h1 : decide (left < 1) = false) (h2 : decide (16 < d) = false) (h3 : (!(kidsF t.k == ((rowsT t.kids).length : Int))) = false) (h4 : (!(t.k == 1)) = true) (h5 : (!(seq t.s .empty)) = false) (h6 : decide (1024 < (t.s.size : Int)) = false) (h7 : (!(t.k == 2)) = false) (h9 : decide (t.n < 0) = false) (h10 : decide (1073741824 < t.n) = true) : Gives Try.prog 69 [t.sv, I d, I left] (I (-1)) := by
  refine contract_of ty_ok [0, 1, 2, 3, 4, 5, 6, 7] Try.func69 rfl (by decide) Try.ntmps69 rfl fun z => ?_
  refine run 400 rfl ?_
  refine at_drawn 51 rfl rfl [(2, .no), (6, .no), (9, .sv (I (kidsF t.k))), (15, .no), (19, .yes), (25, .no), (31, .no), (35, .no), (46, .no)] [20, 21, 22] rfl ⟨h9, h7, h6, h5, h4, h3, kids94_fn _, h2, h1⟩ ?_
  refine run 400 rfl ?_
  refine at_ifd rfl (fun g => ?_) (fun g => ?_)
  · refine run 400 rfl ?_
    exact at_ret rfl rfl [] ⟨rfl, rfl, rfl⟩ trivial
  · exact absurd h10 (by rw [decide_eq_true_eq]; exact g)

set_option maxRecDepth 100000 in
theorem walk_f10 (t : Tm) (d left : Int) (h1 : decide (left < 1) = false) (h2 : decide (16 < d) = false) (h3 : (!(kidsF t.k == ((rowsT t.kids).length : Int))) = false) (h4 : (!(t.k == 1)) = false) (h6 : decide (1024 < (t.s.size : Int)) = true) : Gives Try.prog 69 [t.sv, I d, I left] (I (-1)) := by
  refine contract_of ty_ok [0, 1, 2, 3, 4, 5, 6, 7] Try.func69 rfl (by decide) Try.ntmps69 rfl fun z => ?_
  refine run 400 rfl ?_
  refine at_drawn 51 rfl rfl [(2, .no), (6, .no), (9, .sv (I (kidsF t.k))), (15, .no), (19, .no), (31, .yes)] [20, 21, 22] rfl ⟨h6, h4, h3, kids94_fn _, h2, h1⟩ ?_
  refine run 400 rfl ?_
  exact at_ret rfl rfl [] ⟨rfl, rfl, rfl⟩ trivial

set_option maxRecDepth 100000 in
theorem walk_f11 (t : Tm) (d left : Int) (h1 : decide (left < 1) = false) (h2 : decide (16 < d) = false) (h3 : (!(kidsF t.k == ((rowsT t.kids).length : Int))) = false) (h4 : (!(t.k == 1)) = false) (h6 : decide (1024 < (t.s.size : Int)) = false) (h7 : (!(t.k == 2)) = true) (h8 : (!(t.n == 0)) = true) : Gives Try.prog 69 [t.sv, I d, I left] (I (-1)) := by
  refine contract_of ty_ok [0, 1, 2, 3, 4, 5, 6, 7] Try.func69 rfl (by decide) Try.ntmps69 rfl fun z => ?_
  refine run 400 rfl ?_
  refine at_drawn 51 rfl rfl [(2, .no), (6, .no), (9, .sv (I (kidsF t.k))), (15, .no), (19, .no), (31, .no), (35, .yes), (41, .yes)] [20, 21, 22] rfl ⟨h8, h7, h6, h4, h3, kids94_fn _, h2, h1⟩ ?_
  refine run 400 rfl ?_
  exact at_ret rfl rfl [] ⟨rfl, rfl, rfl⟩ trivial

set_option maxRecDepth 100000 in
theorem walk_f12 (t : Tm) (d left : Int) (h1 : decide (left < 1) = false) (h2 : decide (16 < d) = false) (h3 : (!(kidsF t.k == ((rowsT t.kids).length : Int))) = false) (h4 : (!(t.k == 1)) = false) (h6 : decide (1024 < (t.s.size : Int)) = false) (h7 : (!(t.k == 2)) = true) (h8 : (!(t.n == 0)) = false) (h9 : decide (t.n < 0) = true) : Gives Try.prog 69 [t.sv, I d, I left] (I (-1)) := by
  refine contract_of ty_ok [0, 1, 2, 3, 4, 5, 6, 7] Try.func69 rfl (by decide) Try.ntmps69 rfl fun z => ?_
  refine run 400 rfl ?_
  refine at_drawn 51 rfl rfl [(2, .no), (6, .no), (9, .sv (I (kidsF t.k))), (15, .no), (19, .no), (31, .no), (35, .yes), (41, .no), (46, .yes)] [20, 21, 22] rfl ⟨h9, h8, h7, h6, h4, h3, kids94_fn _, h2, h1⟩ ?_
  refine run 400 rfl ?_
  exact at_ret rfl rfl [] ⟨rfl, rfl, rfl⟩ trivial

set_option maxRecDepth 100000 in
theorem walk_f13 (t : Tm) (d left : Int) (h1 : decide (left < 1) = false) (h2 : decide (16 < d) = false) (h3 : (!(kidsF t.k == ((rowsT t.kids).length : Int))) = false) (h4 : (!(t.k == 1)) = false) (h6 : decide (1024 < (t.s.size : Int)) = false) (h7 : (!(t.k == 2)) = true) (h8 : (!(t.n == 0)) = false) (h9 : decide (t.n < 0) = false) (h10 : decide (1073741824 < t.n) = true) : Gives Try.prog 69 [t.sv, I d, I left] (I (-1)) := by
  refine contract_of ty_ok [0, 1, 2, 3, 4, 5, 6, 7] Try.func69 rfl (by decide) Try.ntmps69 rfl fun z => ?_
  refine run 400 rfl ?_
  refine at_drawn 51 rfl rfl [(2, .no), (6, .no), (9, .sv (I (kidsF t.k))), (15, .no), (19, .no), (31, .no), (35, .yes), (41, .no), (46, .no)] [20, 21, 22] rfl ⟨h9, h8, h7, h6, h4, h3, kids94_fn _, h2, h1⟩ ?_
  refine run 400 rfl ?_
  refine at_ifd rfl (fun g => ?_) (fun g => ?_)
  · refine run 400 rfl ?_
    exact at_ret rfl rfl [] ⟨rfl, rfl, rfl⟩ trivial
  · exact absurd h10 (by rw [decide_eq_true_eq]; exact g)

set_option maxRecDepth 100000 in
theorem walk_f14 (t : Tm) (d left : Int) (h1 : decide (left < 1) = false) (h2 : decide (16 < d) = false) (h3 : (!(kidsF t.k == ((rowsT t.kids).length : Int))) = false) (h4 : (!(t.k == 1)) = false) (h6 : decide (1024 < (t.s.size : Int)) = false) (h7 : (!(t.k == 2)) = false) (h9 : decide (t.n < 0) = true) : Gives Try.prog 69 [t.sv, I d, I left] (I (-1)) := by
  refine contract_of ty_ok [0, 1, 2, 3, 4, 5, 6, 7] Try.func69 rfl (by decide) Try.ntmps69 rfl fun z => ?_
  refine run 400 rfl ?_
  refine at_drawn 51 rfl rfl [(2, .no), (6, .no), (9, .sv (I (kidsF t.k))), (15, .no), (19, .no), (31, .no), (35, .no), (46, .yes)] [20, 21, 22] rfl ⟨h9, h7, h6, h4, h3, kids94_fn _, h2, h1⟩ ?_
  refine run 400 rfl ?_
  exact at_ret rfl rfl [] ⟨rfl, rfl, rfl⟩ trivial

set_option maxRecDepth 100000 in
theorem walk_f15 (t : Tm) (d left : Int) (h1 : decide (left < 1) = false) (h2 : decide (16 < d) = false) (h3 : (!(kidsF t.k == ((rowsT t.kids).length : Int))) = false) (h4 : (!(t.k == 1)) = false) (h6 : decide (1024 < (t.s.size : Int)) = false) (h7 : (!(t.k == 2)) = false) (h9 : decide (t.n < 0) = false) (h10 : decide (1073741824 < t.n) = true) : Gives Try.prog 69 [t.sv, I d, I left] (I (-1)) := by
  refine contract_of ty_ok [0, 1, 2, 3, 4, 5, 6, 7] Try.func69 rfl (by decide) Try.ntmps69 rfl fun z => ?_
  refine run 400 rfl ?_
  refine at_drawn 51 rfl rfl [(2, .no), (6, .no), (9, .sv (I (kidsF t.k))), (15, .no), (19, .no), (31, .no), (35, .no), (46, .no)] [20, 21, 22] rfl ⟨h9, h7, h6, h4, h3, kids94_fn _, h2, h1⟩ ?_
  refine run 400 rfl ?_
  refine at_ifd rfl (fun g => ?_) (fun g => ?_)
  · refine run 400 rfl ?_
    exact at_ret rfl rfl [] ⟨rfl, rfl, rfl⟩ trivial
  · exact absurd h10 (by rw [decide_eq_true_eq]; exact g)
end Go.Proofs.Ytmnmhehddbemkaa
namespace Go.Proofs.Ytmnmhehddbemkaa
open Go Go.Eng

theorem tl_data (a : ByteArray) : a.toList = a.data.toList := by
  unfold ByteArray.toList
  rw [loop_eq a _ 0 [] rfl]
  simp
theorem sq_data (a b : ByteArray) : seq a b = (a.data.toList == b.data.toList) := by rw [seq, tl_data, tl_data]
theorem right_eq (t : Tm) : rightF t = ((((kidsF t.k == ((rowsT t.kids).length : Int)) && !(!(t.k == 1) && !(seq t.s .empty)) && !decide (1024 < (t.s.size : Int))) && !(!(t.k == 2) && !(t.n == 0))) && !decide (t.n < 0) && !decide (1073741824 < t.n)) := by
  have hs : seq t.s .empty = true → t.s.size = 0 := by
    intro h
    rw [sq_data] at h
    have : t.s.data = ByteArray.empty.data := by simpa using h
    show t.s.data.size = 0
    rw [this]
    rfl
  unfold rightF
  rw [rowsT_len]
  have e1 : ((t.kids.length : Int) == kidsF t.k) = (kidsF t.k == (t.kids.length : Int)) := by
    rw [Bool.eq_iff_iff, beq_iff_eq, beq_iff_eq]
    exact eq_comm
  have e2 : (seq t.s .empty || (t.k == 1 && decide ((t.s.size : Int) ≤ 1024))) = (!(!(t.k == 1) && !(seq t.s .empty)) && !decide (1024 < (t.s.size : Int))) := by
    cases hq : seq t.s .empty with
    | true =>
      have := hs hq
      simp [this]
    | false =>
      cases hk : (t.k == 1)
      · simp
      · simp only [Bool.false_or, Bool.true_and, Bool.not_true, Bool.false_and, Bool.not_false]
        rw [Bool.eq_iff_iff]
        simp
  have e3 : (t.n == 0 || (t.k == 2 && decide (0 < t.n) && decide (t.n ≤ 1073741824))) = (!(!(t.k == 2) && !(t.n == 0)) && !decide (t.n < 0) && !decide (1073741824 < t.n)) := by
    cases hk : (t.k == 2) with
    | false =>
      by_cases h : t.n = 0
      · simp [h]
      · have h : (t.n == 0) = false := by simpa using h
        simp [h]
    | true =>
      rw [Bool.eq_iff_iff]
      simp
      omega
  rw [e1, e2, e3]
  simp only [Bool.and_assoc]

/-- What is left. -/
def wk (r : Bool × Int) : Int := if r.1 then 64 - r.2 else -1
theorem wk_may {t : Tm} {d left : Int} (h0 : 0 ≤ left ∧ left ≤ 64) : -1 ≤ wk (mayT t d (64 - left)) ∧ wk (mayT t d (64 - left)) ≤ 64 := by
  have := mayT_le t d (64 - left) (by omega) (by omega)
  unfold wk
  split
  · rename_i h
    have := this.2.2 h
    omega
  · omega
theorem wk_cons {t : Tm} {l : List Tm} {d left : Int} (h0 : 0 ≤ left ∧ left ≤ 64) : wk (mayL (t :: l) d (64 - left)) = if wk (mayT t d (64 - left)) < 0 then -1 else wk (mayL l d (64 - wk (mayT t d (64 - left)))) := by
  have := mayT_le t d (64 - left) (by omega) (by omega)
  rw [mayL]
  rcases hm : mayT t d (64 - left) with ⟨b, c'⟩
  rw [hm] at this
  dsimp only at this
  cases b with
  | false => simp [wk]
  | true =>
    have h64 := this.2.2 rfl
    have e : wk (true, c') = 64 - c' := rfl
    rw [e, if_neg (by omega)]
    dsimp only
    rw [show (64 : Int) - (64 - c') = c' by omega]

set_option maxRecDepth 100000 in
theorem walk_g0 (k n : Int) (s : ByteArray) (l : List Tm) (d left : Int) (hd : 0 ≤ d) (hl : left ≤ 64) (ih : ∀ u ∈ l, ∀ d left : Int, 0 ≤ left → left ≤ 64 → 0 ≤ d → d ≤ 17 → Gives Try.prog 69 [u.sv, I d, I left] (I (wk (mayT u d (64 - left))))) (h1 : decide (left < 1) = false) (h2 : decide (16 < d) = false) (h3 : (!(kidsF (Tm.mk k n s l).k == ((rowsT (Tm.mk k n s l).kids).length : Int))) = false) (h4 : (!((Tm.mk k n s l).k == 1)) = true) (h5 : (!(seq (Tm.mk k n s l).s .empty)) = false) (h6 : decide (1024 < ((Tm.mk k n s l).s.size : Int)) = false) (h7 : (!((Tm.mk k n s l).k == 2)) = true) (h8 : (!((Tm.mk k n s l).n == 0)) = false) (h9 : decide ((Tm.mk k n s l).n < 0) = false) (h10 : decide (1073741824 < (Tm.mk k n s l).n) = false) : Gives Try.prog 69 [(Tm.mk k n s l).sv, I d, I left] (I (wk (mayL l (d + 1) (64 - left + 1)))) := by
  have hd16 : d ≤ 16 := by simpa using h2
  have hl1 : 1 ≤ left := by simp at h1; omega
  have hlen2 : l.length ≤ 2 := by
    have : kidsF k = ((rowsT l).length : Int) := by simpa using h3
    rw [rowsT_len] at this
    have := kidsF_le k
    omega
  have hlen0 : ((rowsT l).length : Int) = l.length := by rw [rowsT_len]
  refine contract_of ty_ok [0, 1, 2, 3, 4, 5, 6, 7] Try.func69 rfl (by decide) Try.ntmps69 rfl fun z => ?_
  refine run 400 rfl ?_
  refine at_drawn 51 rfl rfl [(2, .no), (6, .no), (9, .sv (I (kidsF k))), (15, .no), (19, .yes), (25, .no), (31, .no), (35, .yes), (41, .no), (46, .no)] [20, 21, 22] rfl ⟨h9, h8, h7, h6, h5, h4, h3, kids94_fn _, h2, h1⟩ ?_
  refine run 400 rfl ?_
  refine at_ifd rfl (fun g => ?_) (fun g => ?_)
  · exact absurd g (by simpa using h10)
  refine run 400 rfl ?_
  refine at_loop (fun x : Int × Int => 0 ≤ x.1 ∧ x.1 ≤ l.length ∧ -1 ≤ x.2 ∧ x.2 ≤ 64 ∧ wk (mayL l (d + 1) (64 - left + 1)) = if x.2 < 0 then -1 else wk (mayL (l.drop x.1.toNat) (d + 1) (64 - x.2)))
    (fun x => [(1, I d), (2, I x.2), (3, .ptr 0 0), (7, I x.1)]) (fun x => [(0, .cells 33 [I k, I n, .str s, .lst 4 (rowsT l)])]) (fun x => (l.length - x.1).toNat) [1, 2, 3, 4, 5, 6, 7]
    (0, left - 1) ⟨by omega, by dsimp only; omega, by dsimp only; omega, by dsimp only; omega, by dsimp only; rw [if_neg (by omega), show (64 : Int) - (left - 1) = 64 - left + 1 by omega]; rfl⟩ ⟨SVle.refl _, SVle.refl _, SVle.refl _, SVle.refl _, trivial⟩ ⟨rfl, trivial⟩ ?_
  rintro ⟨i, lf⟩ ⟨a1, a2, a3, a4, a5⟩
  dsimp only at a1 a2 a3 a4 a5
  refine run 400 rfl ?_
  refine at_split 66 rfl (fun q => ?_) (fun q => ?_)
  rotate_left
  · have q : ¬ i < ((rowsT l).length : Int) := by simpa using q
    rw [hlen0] at q
    refine run 400 rfl ?_
    have e : l.drop i.toNat = [] := List.drop_eq_nil_of_le (by omega)
    rw [e, mayL] at a5
    refine at_ret rfl rfl [] ⟨?_, rfl, rfl⟩ trivial
    rw [a5]
    show I lf = I _
    split
    · rw [show lf = -1 by omega]
    · rw [wk, if_pos rfl, show lf = 64 - (64 - lf) by omega]
      congr 1
      omega
  have q : i < ((rowsT l).length : Int) := by simpa using q
  rw [hlen0] at q
  refine run 400 rfl ?_
  refine at_ifd rfl (fun q2 => ?_) (fun q2 => ?_)
  rotate_left
  · refine run 400 rfl ?_
    refine at_ret rfl rfl [] ⟨?_, rfl, rfl⟩ trivial
    rw [a5, if_pos (by omega), show lf = -1 by omega]
  have hlt : i.toNat < l.length := by omega
  have hget := rowsT_get hlt
  have hmem := getD_mem hlt
  have hdrop := drop_getD hlt
  generalize l.getD i.toNat .zero = u at hget hmem hdrop
  rw [hdrop, if_neg (by omega), wk_cons (by omega)] at a5
  have hcall := ih u hmem (d + 1) lf (by omega) a4 (by omega) (by omega)
  have hw := wk_may (t := u) (d := d + 1) (left := lf) (by omega)
  generalize wk (mayT u (d + 1) (64 - lf)) = nl at hcall hw a5
  refine run 400 rfl ?_
  refine at_val (.rp (tr u) 0) (does_index ty_ok _ rfl rfl rfl (by omega) (show (rowsT l)[i.toNat]? = some (tr u) from hget) rfl) ?_
  refine run 400 rfl ?_
  refine at_fn hcall rfl ?_
  refine run 400 rfl ?_
  exact at_again (i + 1, nl) ⟨by dsimp only; omega, by dsimp only; omega, by dsimp only; omega, by dsimp only; omega, by dsimp only; rw [a5, show (i + 1).toNat = i.toNat + 1 by omega]⟩ (by dsimp only; omega) ⟨SVle.refl _, SVle.refl _, SVle.refl _, SVle.refl _, trivial⟩ ⟨rfl, trivial⟩

set_option maxRecDepth 100000 in
theorem walk_g1 (k n : Int) (s : ByteArray) (l : List Tm) (d left : Int) (hd : 0 ≤ d) (hl : left ≤ 64) (ih : ∀ u ∈ l, ∀ d left : Int, 0 ≤ left → left ≤ 64 → 0 ≤ d → d ≤ 17 → Gives Try.prog 69 [u.sv, I d, I left] (I (wk (mayT u d (64 - left))))) (h1 : decide (left < 1) = false) (h2 : decide (16 < d) = false) (h3 : (!(kidsF (Tm.mk k n s l).k == ((rowsT (Tm.mk k n s l).kids).length : Int))) = false) (h4 : (!((Tm.mk k n s l).k == 1)) = true) (h5 : (!(seq (Tm.mk k n s l).s .empty)) = false) (h6 : decide (1024 < ((Tm.mk k n s l).s.size : Int)) = false) (h7 : (!((Tm.mk k n s l).k == 2)) = false) (h9 : decide ((Tm.mk k n s l).n < 0) = false) (h10 : decide (1073741824 < (Tm.mk k n s l).n) = false) : Gives Try.prog 69 [(Tm.mk k n s l).sv, I d, I left] (I (wk (mayL l (d + 1) (64 - left + 1)))) := by
  have hd16 : d ≤ 16 := by simpa using h2
  have hl1 : 1 ≤ left := by simp at h1; omega
  have hlen2 : l.length ≤ 2 := by
    have : kidsF k = ((rowsT l).length : Int) := by simpa using h3
    rw [rowsT_len] at this
    have := kidsF_le k
    omega
  have hlen0 : ((rowsT l).length : Int) = l.length := by rw [rowsT_len]
  refine contract_of ty_ok [0, 1, 2, 3, 4, 5, 6, 7] Try.func69 rfl (by decide) Try.ntmps69 rfl fun z => ?_
  refine run 400 rfl ?_
  refine at_drawn 51 rfl rfl [(2, .no), (6, .no), (9, .sv (I (kidsF k))), (15, .no), (19, .yes), (25, .no), (31, .no), (35, .no), (46, .no)] [20, 21, 22] rfl ⟨h9, h7, h6, h5, h4, h3, kids94_fn _, h2, h1⟩ ?_
  refine run 400 rfl ?_
  refine at_ifd rfl (fun g => ?_) (fun g => ?_)
  · exact absurd g (by simpa using h10)
  refine run 400 rfl ?_
  refine at_loop (fun x : Int × Int => 0 ≤ x.1 ∧ x.1 ≤ l.length ∧ -1 ≤ x.2 ∧ x.2 ≤ 64 ∧ wk (mayL l (d + 1) (64 - left + 1)) = if x.2 < 0 then -1 else wk (mayL (l.drop x.1.toNat) (d + 1) (64 - x.2)))
    (fun x => [(1, I d), (2, I x.2), (3, .ptr 0 0), (7, I x.1)]) (fun x => [(0, .cells 33 [I k, I n, .str s, .lst 4 (rowsT l)])]) (fun x => (l.length - x.1).toNat) [1, 2, 3, 4, 5, 6, 7]
    (0, left - 1) ⟨by omega, by dsimp only; omega, by dsimp only; omega, by dsimp only; omega, by dsimp only; rw [if_neg (by omega), show (64 : Int) - (left - 1) = 64 - left + 1 by omega]; rfl⟩ ⟨SVle.refl _, SVle.refl _, SVle.refl _, SVle.refl _, trivial⟩ ⟨rfl, trivial⟩ ?_
  rintro ⟨i, lf⟩ ⟨a1, a2, a3, a4, a5⟩
  dsimp only at a1 a2 a3 a4 a5
  refine run 400 rfl ?_
  refine at_split 66 rfl (fun q => ?_) (fun q => ?_)
  rotate_left
  · have q : ¬ i < ((rowsT l).length : Int) := by simpa using q
    rw [hlen0] at q
    refine run 400 rfl ?_
    have e : l.drop i.toNat = [] := List.drop_eq_nil_of_le (by omega)
    rw [e, mayL] at a5
    refine at_ret rfl rfl [] ⟨?_, rfl, rfl⟩ trivial
    rw [a5]
    show I lf = I _
    split
    · rw [show lf = -1 by omega]
    · rw [wk, if_pos rfl, show lf = 64 - (64 - lf) by omega]
      congr 1
      omega
  have q : i < ((rowsT l).length : Int) := by simpa using q
  rw [hlen0] at q
  refine run 400 rfl ?_
  refine at_ifd rfl (fun q2 => ?_) (fun q2 => ?_)
  rotate_left
  · refine run 400 rfl ?_
    refine at_ret rfl rfl [] ⟨?_, rfl, rfl⟩ trivial
    rw [a5, if_pos (by omega), show lf = -1 by omega]
  have hlt : i.toNat < l.length := by omega
  have hget := rowsT_get hlt
  have hmem := getD_mem hlt
  have hdrop := drop_getD hlt
  generalize l.getD i.toNat .zero = u at hget hmem hdrop
  rw [hdrop, if_neg (by omega), wk_cons (by omega)] at a5
  have hcall := ih u hmem (d + 1) lf (by omega) a4 (by omega) (by omega)
  have hw := wk_may (t := u) (d := d + 1) (left := lf) (by omega)
  generalize wk (mayT u (d + 1) (64 - lf)) = nl at hcall hw a5
  refine run 400 rfl ?_
  refine at_val (.rp (tr u) 0) (does_index ty_ok _ rfl rfl rfl (by omega) (show (rowsT l)[i.toNat]? = some (tr u) from hget) rfl) ?_
  refine run 400 rfl ?_
  refine at_fn hcall rfl ?_
  refine run 400 rfl ?_
  exact at_again (i + 1, nl) ⟨by dsimp only; omega, by dsimp only; omega, by dsimp only; omega, by dsimp only; omega, by dsimp only; rw [a5, show (i + 1).toNat = i.toNat + 1 by omega]⟩ (by dsimp only; omega) ⟨SVle.refl _, SVle.refl _, SVle.refl _, SVle.refl _, trivial⟩ ⟨rfl, trivial⟩

set_option maxRecDepth 100000 in
theorem walk_g2 (k n : Int) (s : ByteArray) (l : List Tm) (d left : Int) (hd : 0 ≤ d) (hl : left ≤ 64) (ih : ∀ u ∈ l, ∀ d left : Int, 0 ≤ left → left ≤ 64 → 0 ≤ d → d ≤ 17 → Gives Try.prog 69 [u.sv, I d, I left] (I (wk (mayT u d (64 - left))))) (h1 : decide (left < 1) = false) (h2 : decide (16 < d) = false) (h3 : (!(kidsF (Tm.mk k n s l).k == ((rowsT (Tm.mk k n s l).kids).length : Int))) = false) (h4 : (!((Tm.mk k n s l).k == 1)) = false) (h6 : decide (1024 < ((Tm.mk k n s l).s.size : Int)) = false) (h7 : (!((Tm.mk k n s l).k == 2)) = true) (h8 : (!((Tm.mk k n s l).n == 0)) = false) (h9 : decide ((Tm.mk k n s l).n < 0) = false) (h10 : decide (1073741824 < (Tm.mk k n s l).n) = false) : Gives Try.prog 69 [(Tm.mk k n s l).sv, I d, I left] (I (wk (mayL l (d + 1) (64 - left + 1)))) := by
  have hd16 : d ≤ 16 := by simpa using h2
  have hl1 : 1 ≤ left := by simp at h1; omega
  have hlen2 : l.length ≤ 2 := by
    have : kidsF k = ((rowsT l).length : Int) := by simpa using h3
    rw [rowsT_len] at this
    have := kidsF_le k
    omega
  have hlen0 : ((rowsT l).length : Int) = l.length := by rw [rowsT_len]
  refine contract_of ty_ok [0, 1, 2, 3, 4, 5, 6, 7] Try.func69 rfl (by decide) Try.ntmps69 rfl fun z => ?_
  refine run 400 rfl ?_
  refine at_drawn 51 rfl rfl [(2, .no), (6, .no), (9, .sv (I (kidsF k))), (15, .no), (19, .no), (31, .no), (35, .yes), (41, .no), (46, .no)] [20, 21, 22] rfl ⟨h9, h8, h7, h6, h4, h3, kids94_fn _, h2, h1⟩ ?_
  refine run 400 rfl ?_
  refine at_ifd rfl (fun g => ?_) (fun g => ?_)
  · exact absurd g (by simpa using h10)
  refine run 400 rfl ?_
  refine at_loop (fun x : Int × Int => 0 ≤ x.1 ∧ x.1 ≤ l.length ∧ -1 ≤ x.2 ∧ x.2 ≤ 64 ∧ wk (mayL l (d + 1) (64 - left + 1)) = if x.2 < 0 then -1 else wk (mayL (l.drop x.1.toNat) (d + 1) (64 - x.2)))
    (fun x => [(1, I d), (2, I x.2), (3, .ptr 0 0), (7, I x.1)]) (fun x => [(0, .cells 33 [I k, I n, .str s, .lst 4 (rowsT l)])]) (fun x => (l.length - x.1).toNat) [1, 2, 3, 4, 5, 6, 7]
    (0, left - 1) ⟨by omega, by dsimp only; omega, by dsimp only; omega, by dsimp only; omega, by dsimp only; rw [if_neg (by omega), show (64 : Int) - (left - 1) = 64 - left + 1 by omega]; rfl⟩ ⟨SVle.refl _, SVle.refl _, SVle.refl _, SVle.refl _, trivial⟩ ⟨rfl, trivial⟩ ?_
  rintro ⟨i, lf⟩ ⟨a1, a2, a3, a4, a5⟩
  dsimp only at a1 a2 a3 a4 a5
  refine run 400 rfl ?_
  refine at_split 66 rfl (fun q => ?_) (fun q => ?_)
  rotate_left
  · have q : ¬ i < ((rowsT l).length : Int) := by simpa using q
    rw [hlen0] at q
    refine run 400 rfl ?_
    have e : l.drop i.toNat = [] := List.drop_eq_nil_of_le (by omega)
    rw [e, mayL] at a5
    refine at_ret rfl rfl [] ⟨?_, rfl, rfl⟩ trivial
    rw [a5]
    show I lf = I _
    split
    · rw [show lf = -1 by omega]
    · rw [wk, if_pos rfl, show lf = 64 - (64 - lf) by omega]
      congr 1
      omega
  have q : i < ((rowsT l).length : Int) := by simpa using q
  rw [hlen0] at q
  refine run 400 rfl ?_
  refine at_ifd rfl (fun q2 => ?_) (fun q2 => ?_)
  rotate_left
  · refine run 400 rfl ?_
    refine at_ret rfl rfl [] ⟨?_, rfl, rfl⟩ trivial
    rw [a5, if_pos (by omega), show lf = -1 by omega]
  have hlt : i.toNat < l.length := by omega
  have hget := rowsT_get hlt
  have hmem := getD_mem hlt
  have hdrop := drop_getD hlt
  generalize l.getD i.toNat .zero = u at hget hmem hdrop
  rw [hdrop, if_neg (by omega), wk_cons (by omega)] at a5
  have hcall := ih u hmem (d + 1) lf (by omega) a4 (by omega) (by omega)
  have hw := wk_may (t := u) (d := d + 1) (left := lf) (by omega)
  generalize wk (mayT u (d + 1) (64 - lf)) = nl at hcall hw a5
  refine run 400 rfl ?_
  refine at_val (.rp (tr u) 0) (does_index ty_ok _ rfl rfl rfl (by omega) (show (rowsT l)[i.toNat]? = some (tr u) from hget) rfl) ?_
  refine run 400 rfl ?_
  refine at_fn hcall rfl ?_
  refine run 400 rfl ?_
  exact at_again (i + 1, nl) ⟨by dsimp only; omega, by dsimp only; omega, by dsimp only; omega, by dsimp only; omega, by dsimp only; rw [a5, show (i + 1).toNat = i.toNat + 1 by omega]⟩ (by dsimp only; omega) ⟨SVle.refl _, SVle.refl _, SVle.refl _, SVle.refl _, trivial⟩ ⟨rfl, trivial⟩

theorem walk_fn : ∀ (t : Tm) (d left : Int), 0 ≤ left → left ≤ 64 → 0 ≤ d → d ≤ 17 → Gives Try.prog 69 [t.sv, I d, I left] (I (wk (mayT t d (64 - left)))) := by
  intro t
  induction t using Tm.ind with
  | h k n s l ih =>
    intro d left h0 h64 hd hd17
    have hr := right_eq (.mk k n s l)
    cases h1 : decide (left < 1) with
    | true => exact (walk_f0 (.mk k n s l) d left h1).le (SVle.of_eq (by simp at h1; rw [mayT, if_pos (by omega)]; rfl))
    | false => ?_
    have h1' : ¬ 64 < 64 - left + 1 := by simp at h1; omega
    cases h2 : decide (16 < d) with
    | true => exact (walk_f1 (.mk k n s l) d left h1 h2).le (SVle.of_eq (by simp at h2; rw [mayT, if_neg h1', if_pos (by omega)]; rfl))
    | false => ?_
    have h2' : ¬ 16 < d := by simpa using h2
    have no : rightF (.mk k n s l) = false → I (-1) = I (wk (mayT (.mk k n s l) d (64 - left))) := fun h => by rw [mayT, if_neg h1', if_neg h2', if_pos h]; rfl
    have yes : rightF (.mk k n s l) = true → I (wk (mayL l (d + 1) (64 - left + 1))) = I (wk (mayT (.mk k n s l) d (64 - left))) := fun h => by rw [mayT, if_neg h1', if_neg h2', if_neg (by simp [h])]
    cases h3 : (!(kidsF (Tm.mk k n s l).k == ((rowsT (Tm.mk k n s l).kids).length : Int))) with
    | true => exact (walk_f2 (.mk k n s l) d left h1 h2 h3).le (SVle.of_eq (no (by rw [hr]; simp only [Bool.not_eq_true'] at h3; simp [h3])))
    | false => ?_
    cases h4 : (!((Tm.mk k n s l).k == 1)) with
    | true =>
      cases h5 : (!(seq (Tm.mk k n s l).s .empty)) with
      | true =>
        exact (walk_f3 (.mk k n s l) d left h1 h2 h3 h4 h5).le (SVle.of_eq (no (by rw [hr]; simp only [Bool.not_eq_true', Bool.not_eq_false'] at h3 h4 h5; simp [*])))
      | false =>
        cases h6 : decide (1024 < ((Tm.mk k n s l).s.size : Int)) with
        | true =>
          exact (walk_f4 (.mk k n s l) d left h1 h2 h3 h4 h5 h6).le (SVle.of_eq (no (by rw [hr]; simp only [Bool.not_eq_true', Bool.not_eq_false'] at h3 h4 h5; simp [*])))
        | false =>
          cases h7 : (!((Tm.mk k n s l).k == 2)) with
          | true =>
            cases h8 : (!((Tm.mk k n s l).n == 0)) with
            | true =>
              exact (walk_f5 (.mk k n s l) d left h1 h2 h3 h4 h5 h6 h7 h8).le (SVle.of_eq (no (by rw [hr]; simp only [Bool.not_eq_true', Bool.not_eq_false'] at h3 h4 h5 h7 h8; simp [*])))
            | false =>
              cases h9 : decide ((Tm.mk k n s l).n < 0) with
              | true =>
                exact (walk_f6 (.mk k n s l) d left h1 h2 h3 h4 h5 h6 h7 h8 h9).le (SVle.of_eq (no (by rw [hr]; simp only [Bool.not_eq_true', Bool.not_eq_false'] at h3 h4 h5 h7 h8; simp [*])))
              | false =>
                cases h10 : decide (1073741824 < (Tm.mk k n s l).n) with
                | true =>
                  exact (walk_f7 (.mk k n s l) d left h1 h2 h3 h4 h5 h6 h7 h8 h9 h10).le (SVle.of_eq (no (by rw [hr]; simp only [Bool.not_eq_true', Bool.not_eq_false'] at h3 h4 h5 h7 h8; simp [*])))
                | false =>
                  exact (walk_g0 k n s l d left hd h64 ih h1 h2 h3 h4 h5 h6 h7 h8 h9 h10).le (SVle.of_eq (yes (by rw [hr]; simp only [Bool.not_eq_true', Bool.not_eq_false'] at h3 h4 h5 h7 h8; simp [*])))
          | false =>
            cases h9 : decide ((Tm.mk k n s l).n < 0) with
            | true =>
              exact (walk_f8 (.mk k n s l) d left h1 h2 h3 h4 h5 h6 h7 h9).le (SVle.of_eq (no (by rw [hr]; simp only [Bool.not_eq_true', Bool.not_eq_false'] at h3 h4 h5 h7; simp [*])))
            | false =>
              cases h10 : decide (1073741824 < (Tm.mk k n s l).n) with
              | true =>
                exact (walk_f9 (.mk k n s l) d left h1 h2 h3 h4 h5 h6 h7 h9 h10).le (SVle.of_eq (no (by rw [hr]; simp only [Bool.not_eq_true', Bool.not_eq_false'] at h3 h4 h5 h7; simp [*])))
              | false =>
                exact (walk_g1 k n s l d left hd h64 ih h1 h2 h3 h4 h5 h6 h7 h9 h10).le (SVle.of_eq (yes (by rw [hr]; simp only [Bool.not_eq_true', Bool.not_eq_false'] at h3 h4 h5 h7; simp [*])))
    | false =>
      cases h6 : decide (1024 < ((Tm.mk k n s l).s.size : Int)) with
      | true =>
        exact (walk_f10 (.mk k n s l) d left h1 h2 h3 h4 h6).le (SVle.of_eq (no (by rw [hr]; simp only [Bool.not_eq_false'] at h3 h4; simp [*])))
      | false =>
        cases h7 : (!((Tm.mk k n s l).k == 2)) with
        | true =>
          cases h8 : (!((Tm.mk k n s l).n == 0)) with
          | true =>
            exact (walk_f11 (.mk k n s l) d left h1 h2 h3 h4 h6 h7 h8).le (SVle.of_eq (no (by rw [hr]; simp only [Bool.not_eq_true', Bool.not_eq_false'] at h3 h4 h7 h8; simp [*])))
          | false =>
            cases h9 : decide ((Tm.mk k n s l).n < 0) with
            | true =>
              exact (walk_f12 (.mk k n s l) d left h1 h2 h3 h4 h6 h7 h8 h9).le (SVle.of_eq (no (by rw [hr]; simp only [Bool.not_eq_true', Bool.not_eq_false'] at h3 h4 h7 h8; simp [*])))
            | false =>
              cases h10 : decide (1073741824 < (Tm.mk k n s l).n) with
              | true =>
                exact (walk_f13 (.mk k n s l) d left h1 h2 h3 h4 h6 h7 h8 h9 h10).le (SVle.of_eq (no (by rw [hr]; simp only [Bool.not_eq_true', Bool.not_eq_false'] at h3 h4 h7 h8; simp [*])))
              | false =>
                exact (walk_g2 k n s l d left hd h64 ih h1 h2 h3 h4 h6 h7 h8 h9 h10).le (SVle.of_eq (yes (by rw [hr]; simp only [Bool.not_eq_true', Bool.not_eq_false'] at h3 h4 h7 h8; simp [*])))
        | false =>
          cases h9 : decide ((Tm.mk k n s l).n < 0) with
          | true =>
            exact (walk_f14 (.mk k n s l) d left h1 h2 h3 h4 h6 h7 h9).le (SVle.of_eq (no (by rw [hr]; simp only [Bool.not_eq_false'] at h3 h4 h7; simp [*])))
          | false =>
            cases h10 : decide (1073741824 < (Tm.mk k n s l).n) with
            | true =>
              exact (walk_f15 (.mk k n s l) d left h1 h2 h3 h4 h6 h7 h9 h10).le (SVle.of_eq (no (by rw [hr]; simp only [Bool.not_eq_false'] at h3 h4 h7; simp [*])))
            | false =>
              exfalso
              simp at h4 h7
              omega

theorem rmay_fn (t : Tm) : Gives Try.prog 40 [t.sv] (.bl (mayF t)) := by
  have hw := walk_fn t 1 64 (by omega) (by omega) (by omega) (by omega)
  have e : mayF t = decide (0 ≤ wk (mayT t 1 (64 - 64))) := by
    have := mayT_le t 1 0 (by omega) (by omega)
    unfold mayF wk
    rw [show (64 : Int) - 64 = 0 by omega]
    cases hm : (mayT t 1 0).1 with
    | false => rfl
    | true =>
      have := this.2.2 hm
      exact (decide_eq_true (by simp; omega)).symm
  rw [e]
  refine contract_of ty_ok [0, 1, 2, 3, 4, 5, 6, 7] Try.func40 rfl (by decide) Try.ntmps40 rfl fun z => ?_
  refine run 400 rfl ?_
  refine at_fn hw rfl ?_
  refine run 400 rfl ?_
  exact at_ret rfl rfl [] ⟨rfl, rfl, rfl⟩ trivial
end Go.Proofs.Ytmnmhehddbemkaa
namespace Go.Proofs.Ytmnmhehddbemkaa
open Go Go.Eng

theorem isnan_fn (n : Int) : Gives Try.prog 116 [I n] .ff := by
  refine Gives.le (a := .bl (!(n == n))) ?_ (fun _ _ x h => by
    have h : x = .bool (!(n == n)) := h
    rw [beq_self_eq_true] at h
    exact h)
  refine contract_of ty_ok [0, 1, 2, 3, 4, 5, 6, 7] Try.func116 rfl (by decide) Try.ntmps116 rfl fun z => ?_
  refine run 400 rfl ?_
  exact at_ret rfl rfl [] ⟨rfl, rfl, rfl⟩ trivial

theorem cmpI_fn (a b : Int) : Gives Try.prog 98 [I a, I b] (I (sgI a b)) := by
  refine contract_of ty_ok [0, 1, 2, 3, 4, 5, 6, 7] Try.func98 rfl (by decide) Try.ntmps98 rfl fun z => ?_
  refine run 400 rfl ?_
  refine at_fn (isnan_fn a) rfl ?_
  refine run 400 rfl ?_
  refine at_fn (isnan_fn b) rfl ?_
  refine run 400 rfl ?_
  refine at_ifd rfl (fun h => ?_) (fun h => ?_)
  · refine run 400 rfl ?_
    exact at_ret rfl rfl [] ⟨by rw [sgI, if_pos h], rfl, rfl⟩ trivial
  refine run 400 rfl ?_
  refine at_ifd rfl (fun h2 => ?_) (fun h2 => ?_)
  · refine run 400 rfl ?_
    exact at_ret rfl rfl [] ⟨by rw [sgI, if_neg h, if_pos h2], rfl, rfl⟩ trivial
  refine run 400 rfl ?_
  exact at_ret rfl rfl [] ⟨by rw [sgI, if_neg h, if_neg h2], rfl, rfl⟩ trivial

/-- The order of two strings. -/
theorem does_cmpstr {o : Oper} {env : List (Nat × SV)} {own : List (Nat × SO)} {x y : Operand} {c : Call} (a b : ByteArray) (ho : o.op = .call c) (hc : c.callee = .value (.func 132)) (ha : c.args = #[x, y]) (hx : ev env x = .str a) (hy : ev env y = .str b) :
    DoesV Try.prog o env own (I (Lib.compareBytes a.data.toList b.data.toList)) := by
  refine does_val fun cx g H n act w hd => ⟨.int .i64 (Lib.compareBytes a.data.toList b.data.toList), ?_, rfl⟩
  have e1 : act.eval x = .string a := by have := hd.ev x; rw [hx] at this; exact this
  have e2 : act.eval y = .string b := by have := hd.ev y; rw [hy] at this; exact this
  have e3 : act.eval (.func 132) = .func (.func 132) #[] #[] := rfl
  simp only [execOp, ho, hc, ha, resolve, e3, Deferred.ofValue]
  have hr := run_callFunc_extern Try.func132 (by kernel_rfl) (by kernel_rfl) (by kernel_rfl) (e := Extern.BytealgCompare.compare) (by kernel_rfl) #[.string a, .string b] w
  rw [Lib.run_compareString] at hr
  simpa [invoke, e1, e2] using hr
theorem bytesLess_cmp : ∀ a b : List UInt8, Lib.compareBytes a b = if Op.bytesLess a b then -1 else if !(Op.bytesLess a b || a == b) then 1 else 0
  | [], [] => rfl
  | [], _ :: _ => rfl
  | _ :: _, [] => rfl
  | x :: a, y :: b => by
    rw [Lib.compareBytes, Op.bytesLess, bytesLess_cmp a b]
    by_cases h1 : x < y
    · simp [h1]
    · by_cases h2 : y < x
      · have : x ≠ y := fun e => by rw [e] at h2; exact absurd h2 (UInt8.lt_irrefl y)
        simp [h1, h2, this]
      · have : x = y := UInt8.le_antisymm (UInt8.not_lt.1 h2) (UInt8.not_lt.1 h1)
        subst this
        simp [UInt8.lt_irrefl]
theorem cmpB_sgS (a b : ByteArray) : Lib.compareBytes a.data.toList b.data.toList = sgS a b := by
  rw [bytesLess_cmp, sgS, slt, seq, tl_data, tl_data]

theorem cmpS117_fn (a b : ByteArray) : Gives Try.prog 117 [.str a, .str b] (I (sgS a b)) := by
  rw [← cmpB_sgS]
  refine contract_of ty_ok [0, 1, 2, 3, 4, 5, 6, 7] Try.func117 rfl (by decide) Try.ntmps117 rfl fun z => ?_
  refine run 400 rfl ?_
  refine at_val (I (Lib.compareBytes a.data.toList b.data.toList)) (does_cmpstr a b rfl rfl rfl rfl rfl) ?_
  refine run 400 rfl ?_
  exact at_ret rfl rfl [] ⟨rfl, rfl, rfl⟩ trivial
theorem cmpS_fn (a b : ByteArray) : Gives Try.prog 99 [.str a, .str b] (I (sgS a b)) := by
  refine contract_of ty_ok [0, 1, 2, 3, 4, 5, 6, 7] Try.func99 rfl (by decide) Try.ntmps99 rfl fun z => ?_
  refine run 400 rfl ?_
  refine at_fn (cmpS117_fn a b) rfl ?_
  refine run 400 rfl ?_
  exact at_ret rfl rfl [] ⟨rfl, rfl, rfl⟩ trivial

theorem or4_fn (a b c d : Int) : Gives Try.prog 97 [.lst 1 (ints [a, b, c, d])] (I (orI a (orI b (orI c d)))) := by
  refine contract_of ty_ok [0, 1, 2, 3, 4, 5, 6, 7] Try.func97 rfl (by decide) Try.ntmps97 rfl fun z => ?_
  refine run 400 rfl ?_
  refine at_loop (fun i : Nat => i ≤ 4 ∧ ∀ j, j < i → [a, b, c, d].getD j 0 = 0) (fun i => [(3, I 0), (6, .lst 1 (ints [a, b, c, d])), (7, I 4), (8, I i)]) (fun _ => []) (fun i => 4 - i) [0, 1, 2, 3, 4, 5, 6, 7]
    0 ⟨by omega, fun j h => by omega⟩ ⟨SVle.refl _, SVle.refl _, SVle.refl _, SVle.refl _, trivial⟩ trivial ?_
  rintro i ⟨hi, hz⟩
  refine run 400 rfl ?_
  refine at_ifd rfl (fun g => ?_) (fun g => ?_)
  rotate_left
  · refine run 400 rfl ?_
    have e : i = 4 := by omega
    subst e
    have h0 : a = 0 := hz 0 (by omega)
    have h1 : b = 0 := hz 1 (by omega)
    have h2 : c = 0 := hz 2 (by omega)
    have h3 : d = 0 := hz 3 (by omega)
    exact at_ret rfl rfl [] ⟨by rw [h0, h1, h2, h3]; rfl, rfl, rfl⟩ trivial
  have hlt : i < 4 := by omega
  obtain ⟨v, hv⟩ : ∃ v, (ints [a, b, c, d])[i]? = some [.int .i64 v] ∧ [a, b, c, d].getD i 0 = v := by
    match i, hlt with
    | 0, _ => exact ⟨a, rfl, rfl⟩
    | 1, _ => exact ⟨b, rfl, rfl⟩
    | 2, _ => exact ⟨c, rfl, rfl⟩
    | 3, _ => exact ⟨d, rfl, rfl⟩
  refine run 400 rfl ?_
  refine at_val (.rp [.int .i64 v] 0) (does_index ty_ok _ rfl rfl rfl (by omega) (show (ints [a, b, c, d])[(i : Int).toNat]? = some [.int .i64 v] from hv.1) rfl) ?_
  refine run 400 rfl ?_
  refine at_if rfl (fun q => ?_) (fun q => ?_)
  · refine run 400 rfl ?_
    have q : v ≠ 0 := by simpa using q
    refine at_ret rfl rfl [] ⟨?_, rfl, rfl⟩ trivial
    have hz' := hz
    match i, hlt, hv.2, hz' with
    | 0, _, e, _ => simp at e; rw [e, orI_ne q]
    | 1, _, e, z => simp at e; rw [show a = 0 from z 0 (by omega), e, orI_00, orI_ne q]
    | 2, _, e, z => simp at e; rw [show a = 0 from z 0 (by omega), show b = 0 from z 1 (by omega), e, orI_00, orI_00, orI_ne q]
    | 3, _, e, z => simp at e; rw [show a = 0 from z 0 (by omega), show b = 0 from z 1 (by omega), show c = 0 from z 2 (by omega), e, orI_00, orI_00, orI_00]
  · have q : v = 0 := by simpa using q
    refine run 400 rfl ?_
    exact at_again (i + 1) ⟨by omega, fun j hj => by
      by_cases e : j = i
      · rw [e, hv.2, q]
      · exact hz j (by omega)⟩ (by omega) ⟨SVle.refl _, SVle.refl _, SVle.refl _, SVle.of_eq (by show I ((i : Int) + 1) = I ((i + 1 : Nat) : Int); rw [Int.natCast_add]; rfl), trivial⟩ trivial
end Go.Proofs.Ytmnmhehddbemkaa
namespace Go.Proofs.Ytmnmhehddbemkaa
open Go Go.Eng

theorem cmpL_fn (l l' : List Tm) (hl : l.length ≤ 1000000) (ih : ∀ t ∈ l, ∀ u : Tm, Gives Try.prog 77 [t.sv, u.sv] (I (ordT t u))) : Gives Try.prog 100 [.lst 4 (rowsT l), .lst 4 (rowsT l'), .clo 77 []] (I (orI (ordL l l') (sgI l.length l'.length))) := by
  have hl1 : ((rowsT l).length : Int) = l.length := by rw [rowsT_len]
  have hl2 : ((rowsT l').length : Int) = l'.length := by rw [rowsT_len]
  refine contract_of ty_ok [0, 1, 2, 3, 4, 5, 6, 7] Try.func100 rfl (by decide) Try.ntmps100 rfl fun z => ?_
  refine run 400 rfl ?_
  refine at_loop (fun i : Nat => i ≤ l.length ∧ i ≤ l'.length ∧ ordL (l.drop i) (l'.drop i) = ordL l l') (fun i => [(0, .lst 4 (rowsT l)), (1, .lst 4 (rowsT l')), (2, .clo 77 []), (11, .lst 4 (rowsT l)), (12, I (rowsT l).length), (13, I i)]) (fun _ => []) (fun i => l.length - i) [0, 1, 2, 3, 4, 5, 6, 7]
    0 ⟨by omega, by omega, rfl⟩ ⟨SVle.refl _, SVle.refl _, SVle.refl _, SVle.refl _, SVle.refl _, SVle.refl _, trivial⟩ trivial ?_
  rintro i ⟨hi, hi2, ho⟩
  refine run 400 rfl ?_
  refine at_ifd rfl (fun g => ?_) (fun g => ?_)
  rotate_left
  · rw [hl1] at g
    have hfin : ordL l l' = 0 := by
      rw [← ho, List.drop_eq_nil_of_le (by omega)]
      cases l'.drop i <;> simp [ordL]
    refine run 400 rfl ?_
    refine at_ifd rfl (fun q => ?_) (fun q => ?_)
    · rw [hl1, hl2] at q
      refine run 400 rfl ?_
      exact at_ret rfl rfl [] ⟨by rw [hfin, orI_00, sgI, if_pos q], rfl, rfl⟩ trivial
    · rw [hl1, hl2] at q
      refine run 400 rfl ?_
      exact at_ret rfl rfl [] ⟨by rw [hfin, orI_00, sgI, if_neg q, if_neg (by omega)], rfl, rfl⟩ trivial
  rw [hl1] at g
  have hlt : i < l.length := by omega
  have hget := rowsT_get hlt
  have hmem := getD_mem hlt
  rw [drop_getD hlt] at ho
  generalize l.getD i .zero = u at hget hmem ho
  refine run 400 rfl ?_
  refine at_val (.rp (tr u) 0) (does_index ty_ok _ rfl rfl rfl (by omega) (show (rowsT l)[(i : Int).toNat]? = some (tr u) from hget) rfl) ?_
  refine run 400 rfl ?_
  refine at_ifd rfl (fun q => ?_) (fun q => ?_)
  · rw [hl2] at q
    refine run 400 rfl ?_
    have e : l'.drop i = [] := List.drop_eq_nil_of_le (by omega)
    refine at_ret rfl rfl [] ⟨?_, rfl, rfl⟩ trivial
    rw [← ho, e]
    simp only [ordL]
    rw [orI_00, sgI, if_neg (by omega), if_pos (by omega)]
  rw [hl2] at q
  have hlt2 : i < l'.length := by omega
  have hget2 := rowsT_get hlt2
  rw [drop_getD hlt2] at ho
  generalize l'.getD i .zero = v at hget2 ho
  rw [ordL] at ho
  refine run 400 rfl ?_
  refine at_val (.rp (tr v) 0) (does_index ty_ok _ rfl rfl rfl (by omega) (show (rowsT l')[(i : Int).toNat]? = some (tr v) from hget2) rfl) ?_
  refine run 400 rfl ?_
  refine at_fn (ih u hmem v) rfl ?_
  refine run 400 rfl ?_
  refine at_if rfl (fun p => ?_) (fun p => ?_)
  · have p : ordT u v ≠ 0 := by simpa using p
    refine run 400 rfl ?_
    refine at_ret rfl rfl [] ⟨?_, rfl, rfl⟩ trivial
    rw [← ho, orI_ne p, orI_ne p]
  · have p : ordT u v = 0 := by simpa using p
    rw [p, orI_00] at ho
    refine run 400 rfl ?_
    exact at_again (i + 1) ⟨by omega, by omega, ho⟩ (by omega) ⟨SVle.refl _, SVle.refl _, SVle.refl _, SVle.refl _, SVle.refl _, SVle.of_eq (by show I ((i : Int) + 1) = I ((i + 1 : Nat) : Int); rw [Int.natCast_add]; rfl), trivial⟩ trivial

theorem orI_assoc (a b c : Int) : orI (orI a b) c = orI a (orI b c) := by
  unfold orI
  by_cases h : a = 0 <;> simp [h]

set_option maxRecDepth 100000 in
theorem tcmp_fn (a b : Tm) (h : Sm a) : Gives Try.prog 77 [a.sv, b.sv] (I (ordT a b)) := by
  induction a using Tm.ind generalizing b with
  | h k n s l ih =>
    obtain ⟨k', n', s', l'⟩ := b
    have hL : l.length ≤ 1000000 ∧ ∀ t ∈ l, Sm t := by
      cases h with
      | mk h1 h2 => exact ⟨h1, h2⟩
    have hc := cmpL_fn l l' hL.1 fun t ht u => ih t ht u (hL.2 t ht)
    have hT : ordT (.mk k n s l) (.mk k' n' s' l') = orI (sgI k k') (orI (sgI n n') (orI (sgS s s') (orI (ordL l l') (sgI l.length l'.length)))) := by
      rw [ordT, orI_assoc, orI_assoc, orI_assoc]
    have hor := or4_fn (sgI k k') (sgI n n') (sgS s s') (orI (ordL l l') (sgI l.length l'.length))
    rw [hT]
    generalize orI (ordL l l') (sgI l.length l'.length) = q at hc hor
    refine contract_of ty_ok [0, 1, 2, 3, 4, 5, 6, 7] Try.func77 rfl (by decide) Try.ntmps77 rfl fun z => ?_
    refine run 400 rfl ?_
    refine at_drawn 22 rfl rfl [(4, .sv (I (sgI k k'))), (9, .sv (I (sgI n n'))), (14, .sv (I (sgS s s'))), (19, .sv (I q)), (20, .gro (.tl 1 (ints [sgI k k', sgI n n', sgS s s', q]))), (21, .sv (I (orI (sgI k k') (orI (sgI n n') (orI (sgS s s') q)))))] [20, 21, 22] rfl
      ⟨hor.weak ⟨SVle.tl _ _, trivial⟩, doesG_build ty_ok _ rfl ⟨⟨rfl, rfl, _, rfl, SVles.refl _⟩, ⟨rfl, rfl, _, rfl, SVles.refl _⟩, ⟨rfl, rfl, _, rfl, SVles.refl _⟩, ⟨rfl, rfl, _, rfl, SVles.refl _⟩, trivial⟩ rfl rfl (by decide), hc, cmpS_fn s s', cmpI_fn n n', cmpI_fn k k'⟩ ?_
    refine run 400 rfl ?_
    exact at_ret rfl rfl [] ⟨rfl, rfl, rfl⟩ trivial

theorem tsame_fn (a b : Tm) (h : Sm a) : Gives Try.prog 45 [a.sv, b.sv] (.bl (same a b)) := by
  refine contract_of ty_ok [0, 1, 2, 3, 4, 5, 6, 7] Try.func45 rfl (by decide) Try.ntmps45 rfl fun z => ?_
  refine run 400 rfl ?_
  refine at_fn (tcmp_fn a b h) rfl ?_
  refine run 400 rfl ?_
  exact at_ret rfl rfl [] ⟨rfl, rfl, rfl⟩ trivial
theorem tless_fn (a b : Tm) (h : Sm a) : Gives Try.prog 47 [a.sv, b.sv] (.bl (decide (ordT a b < 0))) := by
  refine contract_of ty_ok [0, 1, 2, 3, 4, 5, 6, 7] Try.func47 rfl (by decide) Try.ntmps47 rfl fun z => ?_
  refine run 400 rfl ?_
  refine at_fn (tcmp_fn a b h) rfl ?_
  refine run 400 rfl ?_
  exact at_ret rfl rfl [] ⟨rfl, rfl, rfl⟩ trivial
end Go.Proofs.Ytmnmhehddbemkaa
/- The proof engine, part 14h: own cells that hold lists which may grow. -/
namespace Go.Eng

variable {E : Stc} {all rest : List Oper} {o : Oper} {s : List Fr} {env : List (Nat × SV)} {own own2 : List (Nat × SO)} {nx : List Nat}

/-- Own cells may be known less well. -/
def soLe : SO → SO → Prop
  | .cells t cs, .cells t' cs' => t = t' ∧ SVles cs cs'
  | .tok a, .tok b => a = b
  | .cells _ cs, .buf rw n => SVles cs (bufC rw n)
  | .buf rw n, .buf rw' n' => SVles (bufC rw n) (bufC rw' n')
  | .obj f, .obj f' => ∀ r H o, f r H o → f' r H o
  | _, _ => False
def ownLe : List (Nat × SO) → List (Nat × SO) → Prop
  | [], [] => True
  | (k, a) :: l, (j, b) :: r => k = j ∧ soLe a b ∧ ownLe l r
  | _, _ => False
theorem ownLe_q : ∀ {l r : List (Nat × SO)}, ownLe l r → ∀ k b, ownq r k = some b → ∃ a, ownq l k = some a ∧ soLe a b
  | [], [], _, _, _, h => by simp [ownq] at h
  | (j, a) :: l, (j', b') :: r, hl, k, b, h => by
    obtain ⟨rfl, h1, h2⟩ := hl
    simp only [ownq] at h ⊢
    cases hb : Nat.beq j k with
    | true =>
      rw [hb, cond_true] at h
      simp only [Option.some.injEq] at h
      subst h
      exact ⟨a, rfl, h1⟩
    | false =>
      rw [hb, cond_false] at h
      exact ownLe_q h2 k b h
theorem ownOk_le {mine : Nat → Prop} {g : Nat → Value} {H : Hp} {w : World} {k : Nat} {a b : SO} (h : OwnOk mine g H w k a) (hl : soLe a b) : OwnOk mine g H w k b := by
  cases a with
  | cells t cs =>
    cases b with
    | cells t' cs' =>
      obtain ⟨rfl, hc⟩ := hl
      obtain ⟨q, vs, h1, h2, h3⟩ := h
      exact ⟨q, vs, h1, hc.dens g H vs h2, h3⟩
    | buf rw n =>
      obtain ⟨q, vs, h1, h2, h3⟩ := h
      exact .inl ⟨t, q, vs, h1, SVles.dens hl g H vs h2, h3⟩
    | tok z => exact hl.elim
    | obj f => exact hl.elim
  | tok z =>
    cases b with
    | cells t' cs' => exact hl.elim
    | tok y =>
      have hl : z = y := hl
      subst hl
      exact h
    | obj f => exact hl.elim
    | buf c n => exact hl.elim
  | buf rw n =>
    cases b with
    | buf rw' n' =>
      rcases h with ⟨t, q, vs, h1, h2, h3⟩ | ⟨h1, e⟩
      · exact .inl ⟨t, q, vs, h1, SVles.dens hl g H vs h2, h3⟩
      · refine .inr ⟨h1, ?_⟩
        have hl : SVles (bufC rw n) (bufC rw' n') := hl
        rw [e] at hl
        cases hc : bufC rw' n' with
        | nil => rfl
        | cons _ _ => rw [hc] at hl; exact hl.elim
    | cells t' cs' => exact hl.elim
    | tok y => exact hl.elim
    | obj f => exact hl.elim
  | obj f =>
    cases b with
    | obj f' =>
      obtain ⟨r, o, e, h1, h2, h3⟩ := h
      exact ⟨r, o, e, h1, fun H' hh => hl r H' o (h2 H' hh), h3⟩
    | cells t' cs' => exact hl.elim
    | tok y => exact hl.elim
    | buf c n => exact hl.elim
theorem at_weakO {m : Md} (own' : List (Nat × SO)) (hl : ownLe own own') (kk : Sat E m s env own' nx) : Sat E m s env own nx := by
  refine sat_mono (fun a w hat => ?_) kk
  obtain ⟨hdf, g, H, hd⟩ := hat
  refine ⟨hdf, g, H, { hd with ok := fun k b hk => ?_, inj := fun i j hi hj => hd.inj i j ?_ ?_ }⟩
  · obtain ⟨a', h1, h2⟩ := ownLe_q hl k b hk
    exact ownOk_le (hd.ok k a' h1) h2
  · cases hq : ownq own' i with
    | none => rw [hq] at hi; cases hi
    | some b =>
      obtain ⟨a', h1, _⟩ := ownLe_q hl i b hq
      rw [h1]; rfl
  · cases hq : ownq own' j with
    | none => rw [hq] at hj; cases hj
    | some b =>
      obtain ⟨a', h1, _⟩ := ownLe_q hl j b hq
      rw [h1]; rfl

/-- A list in an own block of one cell gets a name. -/
theorem at_nameC {m : Md} (c k sz : Nat) {ty sz0 : Nat} {rows : List (List DV)} (hc : ownq own c = some (.cells ty [.tl sz0 rows])) (hs : sz0 = sz ∨ rows = []) (hso : setOwnK c (.cells ty [.gl k sz rows]) own some = some own2)
    (kk : Sat E m s env ((k, .tok sz) :: own2) nx) (hm : Nat.ble E.cx.m0 k = true := by rfl) (hE : freshE k env = true := by rfl) (hO : freshO k own = true := by rfl) (hne : Nat.beq k c = false := by rfl) : Sat E m s env own nx := by
  rw [setOwnK_eq] at hso
  simp only [Option.some.injEq] at hso
  subst hso
  have hkc : ¬ k = c := fun e => by rw [e, Nat.beq_refl] at hne; cases hne
  refine sat_mono (fun a w hat => ?_) kk
  obtain ⟨hdf, g, H, hdn⟩ := hat
  obtain ⟨b, vs, g1, g2, g3, g4, g5, g6⟩ := hdn.ok c _ hc
  obtain ⟨x, rfl⟩ : ∃ x, vs = [x] := by
    match vs, g2 with
    | [x], _ => exact ⟨x, rfl⟩
    | [], h => exact h.elim
    | _ :: _ :: _, h => exact h.2.elim
  obtain ⟨⟨ad, cp, e, h1, h2, h3⟩, ad', e'⟩ := g2.1
  have hx : DenD H (.lst sz rows) x := by
    refine ⟨ad, cp, e, h1, h2, fun p hp => ?_⟩
    rcases hs with rfl | rfl
    · exact h3 p hp
    · exact ⟨.inl rfl, trivial⟩
  have hcp : cp = rows.length := by
    rw [e] at e'
    simp only [Value.slice.injEq, true_and] at e'
    exact e'.2
  obtain ⟨hd3, hp⟩ := hdn.tok (k := k) (sz := sz) (rows := rows) (Nat.le_of_ble_eq_true hm) hE hO hx ⟨ad, rows.length, cp, e, fun h => ⟨by rw [(h2 h).1]; rfl, (h2 h).2⟩, h1, fun p hp hlt => absurd hlt (by omega)⟩
  have hiff : ∀ i, (ownq ((k, SO.tok sz) :: setOwn c (.cells ty [.gl k sz rows]) own) i).isSome = true → (ownq ((k, SO.tok sz) :: own) i).isSome = true := by
    intro i hi
    simp only [ownq] at hi ⊢
    cases hb : Nat.beq k i with
    | true => rfl
    | false =>
      rw [hb, cond_false] at hi
      rw [cond_false]
      rw [ownq_setOwn] at hi
      split at hi
      · rename_i e
        subst e
        rw [hc]; rfl
      · exact hi
  refine ⟨hdf, _, H, { hd3 with ok := fun j o' hj => ?_, inj := fun i j hi hj => hd3.inj i j (hiff i hi) (hiff j hj) }⟩
  simp only [ownq] at hj
  cases hb : Nat.beq k j with
  | true =>
    have hj' : ownq ((k, SO.tok sz) :: own) j = some o' := by simp only [ownq, hb, cond_true]; rw [hb, cond_true] at hj; exact hj
    exact hd3.ok j o' hj'
  | false =>
    rw [hb, cond_false, ownq_setOwn] at hj
    have hjk : j ≠ k := fun e => by rw [e, Nat.beq_refl] at hb; cases hb
    by_cases hjc : j = c
    · subst hjc
      rw [if_pos rfl, hc] at hj
      simp only [Option.map_some, Option.some.injEq] at hj
      subst hj
      exact ⟨b, [x], by rw [upd_ne _ _ _ j hjk]; exact g1, ⟨hp, trivial⟩, g3, g4, g5, g6⟩
    · rw [if_neg hjc] at hj
      exact hd3.ok j o' (by simp only [ownq, hb, cond_false]; exact hj)

theorem Dn.cons {cx : Cx} {g : Nat → Value} {H : Hp} {env : List (Nat × SV)} {own : List (Nat × SO)} {n : Nat} {tmps : Array Value} {w : World} {k : Nat} {so : SO}
    (h : Dn cx g H env own n tmps w) (hok : OwnOk cx.mine g H w k so) (hb : ∀ b, blkOf (g k) = some b → ∀ j o, ownq own j = some o → blkOf (g j) ≠ some b) : Dn cx g H env ((k, so) :: own) n tmps w := by
  refine { h with ok := fun j o hj => ?_, inj := fun i j hi hj b hbi hbj => ?_ }
  · simp only [ownq] at hj
    cases hb : Nat.beq k j with
    | true =>
      have := beq_true hb
      subst this
      simp only [hb, cond_true, Option.some.injEq] at hj
      subst hj
      exact hok
    | false =>
      simp only [hb, cond_false] at hj
      exact h.ok j o hj
  · have key : ∀ j, (ownq ((k, so) :: own) j).isSome = true → j = k ∨ (ownq own j).isSome = true := by
      intro j hj
      by_cases hjk : j = k
      · exact .inl hjk
      · have hbf : Nat.beq k j = false := by
          cases hb' : Nat.beq k j with
          | false => rfl
          | true => exact absurd (beq_true hb').symm hjk
        simp only [ownq, hbf, cond_false] at hj
        exact .inr hj
    rcases key i hi with rfl | oi <;> rcases key j hj with rfl | oj
    · rfl
    · cases ho : ownq own j with
      | none => rw [ho] at oj; cases oj
      | some o => exact absurd hbj (hb b hbi j o ho)
    · cases ho : ownq own i with
      | none => rw [ho] at oi; cases oi
      | some o => exact absurd hbi (hb b hbj i o ho)
    · exact h.inj i j oi oj b hbi hbj

def r3 (c k k' : Nat) : Nat → Nat := fun j => bif Nat.beq j 0 then c else bif Nat.beq j 1 then k else k'

/-- A call that may write an own block, in whose cells is a list with room of its own that may grow. -/
theorem at_growM (c k k' sz : Nat) {ty f : Nat} {cs cs' : List SV} {args : List SV} {sv : SV} (hC : Contract E.P f 2 [(0, .cells ty cs), (1, .tok sz)] args fun s post => s = sv ∧ post = [(0, .cells ty cs'), (2, .tok sz)])
    (hc : callK o.op env (fun f l => some (f, l)) none = some (f, rens (r2 c k) args)) (h0 : ownq own c = some (.cells ty (rens (r2 c k) cs))) (h1 : ownq own k = some (.tok sz)) (ho : lessK c own (fun o1 => lessK k o1 some) = some own2)
    (kk : Sat E (.ops all rest) s (put o.dst (ren (r3 c k k') sv) env) ((c, .cells ty (rens (r3 c k k') cs')) :: (k', .tok sz) :: own2) nx)
    (hne : Nat.beq c k = false := by rfl) (hck : Nat.beq c k' = false := by rfl) (hkk : Nat.beq k k' = false := by rfl) (hm : Nat.ble E.cx.m0 k' = true := by rfl) (hE : freshE k' env = true := by rfl) (hO : freshO k' own2 = true := by rfl)
    (l1 : sv.lt 3 = true := by rfl) (l2 : SV.lts 3 cs' = true := by rfl)
    (hg : guardK all o.guard env true false false = true := by rfl) (hd : dstLt o.dst E.n = true := by rfl) : Sat E (.ops all (o :: rest)) s env own nx := by
  intro a w hat
  have hwant := wanted_of (E := E) (own := own) hg a w hat
  simp only [lessK_eq, Option.some.injEq] at ho
  have nck := beq_false hne
  have nck' := beq_false hck
  have nkk' := beq_false hkk
  unfold wpList
  rw [if_pos hwant]
  refine .inl ?_
  obtain ⟨hdf, g, H, hdn⟩ := hat
  obtain ⟨vs, hv, hr⟩ := run_call (P := E.P) hdn hC.1 hc
  have hpre : pres (r2 c k) own [(0, .cells ty cs), (1, .tok sz)] := ⟨h0, h1, trivial⟩
  have hv' : Dens (fun j => g (r2 c k j)) H args vs := Dens.unren (g' := g) (r := r2 c k) (fun _ => rfl) args vs hv
  have key : ∀ i, (ownq [(0, SO.cells ty cs), (1, SO.tok sz)] i).isSome = true → i = 0 ∨ i = 1 := by
    intro i hi
    match i, hi with
    | 0, _ => exact .inl rfl
    | 1, _ => exact .inr rfl
    | i + 2, hi => exact absurd hi (by show ¬ (false = true); simp)
  have hok : ∀ j o, ownq [(0, SO.cells ty cs), (1, SO.tok sz)] j = some o → OwnOk (fun _ => True) (fun j => g (r2 c k j)) H w j o := by
    intro j o hj
    rcases key j (by rw [hj]; rfl) with rfl | rfl
    · have e : SO.cells ty cs = o := by simpa [ownq] using hj
      subst e
      obtain ⟨b, ws, e, q1, q2, q3, q4, _⟩ := hdn.ok c _ h0
      exact ⟨b, ws, e, Dens.unren (g' := g) (r := r2 c k) (fun _ => rfl) cs ws q1, q2, q3, q4, trivial⟩
    · have e : SO.tok sz = o := Option.some.inj hj
      subst e
      obtain ⟨ad, q, cp, e, q1, hle, q2⟩ := hdn.ok k _ h1
      refine ⟨ad, q, cp, e, q1, hle, fun p hpa hlt => ?_⟩
      obtain ⟨q3, _, q5⟩ := q2 p hpa hlt
      exact ⟨q3, trivial, q5⟩
  have hinj : InjOn (fun j => g (r2 c k j)) [(0, SO.cells ty cs), (1, SO.tok sz)] := by
    intro i j hi hj b hbi hbj
    have hi' : (ownq own (r2 c k i)).isSome = true := by
      rcases key i hi with rfl | rfl
      · show (ownq own c).isSome = true; rw [h0]; rfl
      · show (ownq own k).isSome = true; rw [h1]; rfl
    have hj' : (ownq own (r2 c k j)).isSome = true := by
      rcases key j hj with rfl | rfl
      · show (ownq own c).isSome = true; rw [h0]; rfl
      · show (ownq own k).isSome = true; rw [h1]; rfl
    have e := hdn.inj _ _ hi' hj' b hbi hbj
    rcases key i hi with rfl | rfl <;> rcases key j hj with rfl | rfl
    · rfl
    · exact absurd (show c = k from e) nck
    · exact absurd (show k = c from e).symm nck
    · rfl
  have hcall := hC.2 (fun j => g (r2 c k j)) H w vs hdn.hp hok hinj hv'
  unfold Oper.wp
  rw [hr]
  refine hcall.mono fun e w' he => ?_
  cases e with
  | panicked c => exact he.elim
  | outgrown => exact he.elim
  | returned x =>
    obtain ⟨g', H', sv', post, ⟨rfl, rfl⟩, hx, hok', hinj', hon, hb⟩ := he
    have hl2 : ∀ j o, ownq own2 j = some o → j ≠ c ∧ j ≠ k ∧ ownq own j = some o := by
      intro j o hj
      rw [← ho] at hj
      have e1 := rm1_less k (rm1 c own) j o hj
      have e2 := rm1_less c own j o e1.2
      exact ⟨e2.1, e1.1, e2.2⟩
    obtain ⟨hd2, hother⟩ := hdn.left (r := r2 c k) (own2 := own2) hpre hb hon (fun j o hj => ⟨(hl2 j o hj).2.2, fun i hi => by
      rcases key i hi with rfl | rfl
      · exact (hl2 j o hj).1
      · exact (hl2 j o hj).2.1⟩)
    obtain ⟨b, ws, e0, q1, q2, q3, q4, q5⟩ := hok' 0 (.cells ty cs') rfl
    obtain ⟨ad, q, cp, e2, p1, hle, p2⟩ := hok' 2 (.tok sz) rfl
    have hd3 := hd2.bind (k := k') (x := g' 2) (so := .tok sz) (Nat.le_of_ble_eq_true hm) hE hO ⟨ad, q, cp, by rw [upd_same, e2], p1, hle, fun p hpa hlt => by
      obtain ⟨q3, q4, q5⟩ := p2 p hpa hlt
      exact ⟨q3, (hother _ q4).1, q5⟩⟩ (fun b' hb' j o hj => by
      rw [e2] at hb'
      cases ad with
      | none => simp [blkOf] at hb'
      | some p =>
        simp only [blkOf] at hb'
        cases hlt : Nat.blt q cp with
        | false => rw [hlt] at hb'; cases hb'
        | true =>
          rw [hlt, cond_true, Option.some.injEq] at hb'
          subst hb'
          exact (hother _ (p2 p rfl (Nat.blt_eq.mp hlt)).2.1).2 j o hj)
    have f0 : g' 0 = g c := hb.fix 0 (show 0 < 2 by omega)
    have f1 : g' 1 = g k := hb.fix 1 (show 1 < 2 by omega)
    have hg3 : ∀ j, j < 3 → Eng.upd g k' (g' 2) (r3 c k k' j) = g' j := by
      intro j hj
      match j, hj with
      | 0, _ => show Eng.upd g k' (g' 2) c = _; rw [upd_ne _ _ _ c nck', f0]
      | 1, _ => show Eng.upd g k' (g' 2) k = _; rw [upd_ne _ _ _ k nkk', f1]
      | 2, _ => exact upd_same _ _ _
    have hd4 := hd3.cons (k := c) (so := .cells ty (rens (r3 c k k') cs')) ⟨b, ws, by rw [upd_ne _ _ _ c nck', ← f0, e0], Dens.ren hg3 cs' ws l2 q1, q2, q3, q4, (hother _ q5).1⟩ (fun b' hb' j o hj => by
      rw [upd_ne _ _ _ c nck', ← f0, e0] at hb'
      simp only [blkOf, Option.some.injEq] at hb'
      subst hb'
      simp only [ownq] at hj
      cases hjk : Nat.beq k' j with
      | true =>
        have := beq_true hjk
        subst this
        rw [upd_same]
        intro e3
        have := hinj' 0 2 rfl rfl b (by rw [e0]; rfl) e3
        cases this
      | false =>
        rw [hjk, cond_false] at hj
        rw [upd_ne _ _ _ j (fun e => by rw [e, Nat.beq_refl] at hjk; cases hjk)]
        exact (hother _ q5).2 j o hj)
    exact kk _ _ (At.put hdf hd4 (Den.ren hg3 sv' x l1 hx) fun d e => by rw [e] at hd; exact Nat.blt_eq.mp hd)

/-- A list with room of its own, in an own block, gets another name. -/
theorem at_renameC {m : Md} (c k k' sz i : Nat) {ty : Nat} {cs : List SV} {rows : List (List DV)} (hc : ownq own c = some (.cells ty cs)) (hi : cs[i]? = some (.gl k sz rows)) (hk : ownq own k = some (.tok sz)) (ho : lessK c own (fun o1 => lessK k o1 some) = some own2)
    (kk : Sat E m s (degE k' env) ((c, .cells ty (cs.set i (.gl k' sz rows))) :: (k', .tok sz) :: own2) nx) (hne : Nat.beq c k = false := by rfl) (hck : Nat.beq c k' = false := by rfl)
    (hm : Nat.ble E.cx.m0 k' = true := by rfl) (hE : freshE k' (degE k' env) = true := by rfl) (hO : freshO k' own2 = true := by rfl) (hcs : SV.noKs k' cs = true := by rfl) : Sat E m s env own nx := by
  simp only [lessK_eq, Option.some.injEq] at ho
  have nck := beq_false hne
  have nck' := beq_false hck
  refine sat_mono (fun a w hat => ?_) kk
  obtain ⟨hdf, g, H, hdn⟩ := hat
  have hl2 : ∀ j o, ownq own2 j = some o → j ≠ c ∧ j ≠ k ∧ ownq own j = some o := by
    intro j o hj
    rw [← ho] at hj
    have e1 := rm1_less k (rm1 c own) j o hj
    have e2 := rm1_less c own j o e1.2
    exact ⟨e2.1, e1.1, e2.2⟩
  obtain ⟨b, vs, e0, q1, q2, q3, q4, q5⟩ := hdn.ok c _ hc
  obtain ⟨x, hx, hd⟩ := Dens.get q1 hi
  obtain ⟨hx1, hx2⟩ := hd
  obtain ⟨ad, q, cp, e, p1, hle, p2⟩ := hdn.ok k _ hk
  have hd2 : Dn E.cx g H (degE k' env) own2 E.n a.tmps w := (hdn.le (degE_le k' env) (fun j o hj => (hl2 j o hj).2.2))
  have hdis : ∀ b', blkOf (g k) = some b' → ∀ j o, ownq own2 j = some o → blkOf (g j) ≠ some b' := fun b' hb' j o hj ej =>
    (hl2 j o hj).2.1 (hdn.inj j k (by rw [(hl2 j o hj).2.2]; rfl) (by rw [hk]; rfl) b' ej hb')
  obtain ⟨hd3, hp⟩ := hd2.tok (k := k') (sz := sz) (Nat.le_of_ble_eq_true hm) hE hO hx1 ⟨ad, q, cp, by rw [hx2, e], p1, hle, fun p hpa hlt => by
    obtain ⟨q3, q4, q5⟩ := p2 p hpa hlt
    exact ⟨q3, ⟨q4, hdis _ (by rw [e, hpa]; simp [blkOf, Nat.blt_eq.mpr hlt])⟩, q5⟩⟩
  have hset : ∀ (ds : List SV) (ws : List Value) (i : Nat), Dens (Eng.upd g k' x) H ds ws → ws[i]? = some x → Dens (Eng.upd g k' x) H (ds.set i (.gl k' sz rows)) ws := by
    intro ds
    induction ds with
    | nil =>
      intro ws i h1 h2
      cases ws with
      | nil => simp at h2
      | cons _ _ => exact h1.elim
    | cons d ds ih =>
      intro ws i h1 h2
      cases ws with
      | nil => exact h1.elim
      | cons v ws =>
        cases i with
        | zero =>
          simp only [List.getElem?_cons_zero, Option.some.injEq] at h2
          subst h2
          exact ⟨hp, h1.2⟩
        | succ i => exact ⟨h1.1, ih ws i h1.2 (by simpa using h2)⟩
  have q1' : Dens (Eng.upd g k' x) H cs vs := Dens.upd (k := k') (fun j hj => upd_ne _ _ _ j hj) cs vs hcs q1
  refine ⟨hdf, _, H, hd3.cons (k := c) ⟨b, vs, by rw [upd_ne _ _ _ c nck', e0], hset cs vs i q1' hx, q2, q3, q4, q5⟩ fun b' hb' j o hj => ?_⟩
  rw [upd_ne _ _ _ c nck', e0] at hb'
  simp only [blkOf, Option.some.injEq] at hb'
  subst hb'
  simp only [ownq] at hj
  cases hjk : Nat.beq k' j with
  | true =>
    have := beq_true hjk
    subst this
    rw [upd_same, hx2]
    intro e3
    exact nck (hdn.inj c k (by rw [hc]; rfl) (by rw [hk]; rfl) b (by rw [e0]; rfl) e3)
  | false =>
    rw [hjk, cond_false] at hj
    rw [upd_ne _ _ _ j (fun e => by rw [e, Nat.beq_refl] at hjk; cases hjk)]
    intro e3
    exact (hl2 j o hj).1 (hdn.inj j c (by rw [(hl2 j o hj).2.2]; rfl) (by rw [hc]; rfl) b e3 (by rw [e0]; rfl))
end Go.Eng
namespace Go.Proofs.Ytmnmhehddbemkaa
open Go Go.Eng

mutual
def nonT : Tm → List Int
  | .mk k n _ l => (if k = 2 then [n] else []) ++ nonL l
def nonL : List Tm → List Int
  | [] => []
  | t :: l => nonT t ++ nonL l
end
mutual
def hasT (x : Tm) : Tm → Bool
  | .mk k n s l => same (.mk k n s l) x || hasL x l
def hasL (x : Tm) : List Tm → Bool
  | [] => false
  | t :: l => hasT x t || hasL x l
end
theorem Sm.ks {k n : Int} {s : ByteArray} {l : List Tm} (h : Sm (.mk k n s l)) : l.length ≤ 1000000 ∧ ∀ t ∈ l, Sm t := by
  cases h with
  | mk h1 h2 => exact ⟨h1, h2⟩
mutual
theorem nonT_len : ∀ t : Tm, (nonT t).length ≤ szT t
  | .mk k n s l => by
    have := nonL_len l
    rw [nonT, szT, List.length_append]
    split <;> simp <;> omega
theorem nonL_len : ∀ l : List Tm, (nonL l).length ≤ szL l
  | [] => by simp [nonL, szL]
  | t :: l => by
    have := nonT_len t
    have := nonL_len l
    rw [nonL, szL, List.length_append]
    omega
end

abbrev szO (c : Nat) : List (Nat × SO) := [(0, .cells 3 [I c])]
theorem size1_fn (t : Tm) (c : Nat) (hc : c ≤ 1000000) : Contract Try.prog 76 1 (szO c) [t.sv, .ptr 0 0] fun s post => s = .tt ∧ post = szO (c + 1) := by
  refine contract_of ty_ok [1, 2, 3, 4, 5, 6, 7] Try.func76 rfl (by decide) Try.ntmps76 rfl fun z => ?_
  refine run 400 rfl ?_
  exact at_ret rfl rfl (szO (c + 1)) ⟨rfl, rfl⟩ ⟨rfl, trivial⟩

abbrev nnO (l : List Int) : List (Nat × SO) := [(0, .cells 22 [.gl 1 1 (ints l)]), (1, .tok 1)]
abbrev nnP (l : List Int) : List (Nat × SO) := [(0, .cells 22 [.gl 2 1 (ints l)]), (2, .tok 1)]
theorem non1_fn (t : Tm) (l : List Int) (hl : l.length ≤ 1000000) : Contract Try.prog 71 2 (nnO l) [t.sv, .ptr 0 0] fun s post => s = .tt ∧ post = nnP (l ++ if t.k = 2 then [t.n] else []) := by
  refine contract_of ty_ok [3, 4, 5, 6, 7] Try.func71 rfl (by decide) Try.ntmps71 rfl fun z => ?_
  refine run 400 rfl ?_
  refine at_if rfl (fun g => ?_) (fun g => ?_)
  · have g : t.k = 2 := by simpa using g
    rw [if_pos g]
    refine run 400 rfl ?_
    refine at_gro (.tl 1 (ints [t.n])) (doesG_build ty_ok _ rfl ⟨⟨rfl, rfl, _, rfl, SVles.refl _⟩, trivial⟩ rfl rfl (by decide)) ?_
    refine run 400 rfl ?_
    refine at_weakO [(3, .cells 33 [I t.k, I t.n, .str t.s, .lst 4 (rowsT t.kids)]), (0, .cells 22 [.lst 1 (ints l)]), (1, .tok 1)] ⟨rfl, ⟨rfl, SVles.refl _⟩, rfl, ⟨rfl, SVle.gl _ _ _, trivial⟩, rfl, rfl, trivial⟩ ?_
    refine at_grow 1 2 1 (ints l ++ ints [t.n]) rfl (doesU_append ty_ok rfl rfl rfl rfl rfl rfl rfl (by simp; omega) (by show _ * 8 ≤ _; simp; omega)) rfl ?_
    refine run 400 rfl ?_
    exact at_ret rfl rfl (nnP (l ++ [t.n])) ⟨rfl, rfl⟩ ⟨by show some (SO.cells 22 [.gl 2 1 (ints l ++ ints [t.n])]) = some (SO.cells 22 [.gl 2 1 (ints (l ++ [t.n]))]); simp, rfl, trivial⟩
  · have g : ¬ t.k = 2 := by simpa using g
    rw [if_neg g, List.append_nil]
    refine at_renameC 0 1 2 1 0 rfl rfl rfl rfl ?_
    refine run 400 rfl ?_
    exact at_ret rfl rfl (nnP l) ⟨rfl, rfl⟩ ⟨rfl, rfl, trivial⟩

abbrev hsO (x : Tm) : List (Nat × SO) := [(0, .cells 33 [I x.k, I x.n, .str x.s, .lst 4 (rowsT x.kids)])]
theorem has1_fn (t x : Tm) (h : Sm t) : Contract Try.prog 79 1 (hsO x) [t.sv, .ptr 0 0] fun s post => s = .bl (!same t x) ∧ post = hsO x := by
  refine contract_of ty_ok [1, 2, 3, 4, 5, 6, 7] Try.func79 rfl (by decide) Try.ntmps79 rfl fun z => ?_
  refine run 400 rfl ?_
  refine at_fn (tsame_fn t x h) rfl ?_
  refine run 400 rfl ?_
  exact at_ret rfl rfl (hsO x) ⟨rfl, rfl⟩ ⟨rfl, trivial⟩

set_option maxRecDepth 100000 in
theorem eachZ_fn : ∀ (t : Tm) (c : Nat), Sm t → c + szT t ≤ 1000000 → Contract Try.prog 70 1 (szO c) [t.sv, .clo 76 [.ptr 0 0]] fun s post => s = .tt ∧ post = szO (c + szT t) := by
  intro t
  induction t using Tm.ind with
  | h k n s l ih =>
    intro c hsm hc
    have hL := hsm.ks
    have hlen0 : ((rowsT l).length : Int) = l.length := by rw [rowsT_len]
    refine contract_of ty_ok [1, 2, 3, 4, 5, 6, 7] Try.func70 rfl (by decide) Try.ntmps70 rfl fun z => ?_
    refine run 400 rfl ?_
    rw [szT] at hc ⊢
    refine at_metF 0 (size1_fn (.mk k n s l) c (by omega)) rfl rfl rfl ?_
    refine run 400 rfl ?_
    refine at_loop (fun p : Nat × Nat => p.1 ≤ l.length ∧ p.2 + szL (l.drop p.1) = c + (1 + szL l)) (fun p => [(1, .clo 76 [.ptr 0 0]), (2, .ptr 1 0), (12, .lst 4 (rowsT l)), (13, I (rowsT l).length), (14, I p.1)]) (fun p => (1, .cells 33 [I k, I n, .str s, .lst 4 (rowsT l)]) :: szO p.2) (fun p => l.length - p.1) [2, 3, 4, 5, 6, 7]
      (0, c + 1) ⟨by dsimp only; omega, by dsimp only; rw [List.drop_zero]; omega⟩ ⟨SVle.refl _, SVle.refl _, SVle.refl _, SVle.refl _, SVle.refl _, trivial⟩ ⟨rfl, rfl, trivial⟩ ?_
    rintro ⟨i, q⟩ ⟨a1, a2⟩
    dsimp only at a1 a2
    refine run 400 rfl ?_
    refine at_ifd rfl (fun g => ?_) (fun g => ?_)
    rotate_left
    · dsimp only at g
      rw [hlen0] at g
      have e : i = l.length := by omega
      subst e
      rw [List.drop_length] at a2
      rw [szL] at a2
      refine run 400 rfl ?_
      exact at_ret rfl rfl (szO q) ⟨rfl, by rw [show q = c + (1 + szL l) by omega]⟩ ⟨rfl, trivial⟩
    dsimp only at g
    rw [hlen0] at g
    have hlt : i < l.length := by omega
    have hget := rowsT_get hlt
    have hmem := getD_mem hlt
    rw [drop_getD hlt] at a2
    generalize l.getD i .zero = u at hget hmem a2
    refine run 400 rfl ?_
    refine at_val (.rp (tr u) 0) (does_index ty_ok _ rfl rfl rfl (by omega) (show (rowsT l)[(i : Int).toNat]? = some (tr u) from hget) rfl) ?_
    refine run 400 rfl ?_
    rw [szL] at a2
    refine at_metF 0 (ih u hmem q (hL.2 u hmem) (by omega)) rfl rfl rfl ?_
    refine run 400 rfl ?_
    exact at_again (i + 1, q + szT u) ⟨by dsimp only; omega, by dsimp only; omega⟩ (by dsimp only; omega) ⟨SVle.refl _, SVle.refl _, SVle.refl _, SVle.refl _, SVle.of_eq (by show I ((i : Int) + 1) = I ((i + 1 : Nat) : Int); rw [Int.natCast_add]; rfl), trivial⟩ ⟨rfl, rfl, trivial⟩


set_option maxRecDepth 100000 in
theorem eachN_fn : ∀ (t : Tm) (c : List Int), Sm t → c.length + szT t ≤ 1000000 → Contract Try.prog 70 2 (nnO c) [t.sv, .clo 71 [.ptr 0 0]] fun s post => s = .tt ∧ post = nnP (c ++ nonT t) := by
  intro t
  induction t using Tm.ind with
  | h k n s l ih =>
    intro c hsm hc
    have hL := hsm.ks
    have hlen0 : ((rowsT l).length : Int) = l.length := by rw [rowsT_len]
    refine contract_of ty_ok [3, 4, 5, 6, 7] Try.func70 rfl (by decide) Try.ntmps70 rfl fun z => ?_
    refine run 400 rfl ?_
    rw [szT] at hc
    rw [nonT]
    refine at_growM 0 1 2 1 (non1_fn (.mk k n s l) c (by omega)) rfl rfl rfl rfl ?_
    refine run 400 rfl ?_
    refine at_loop (fun p : Nat × List Int => p.1 ≤ l.length ∧ p.2 ++ nonL (l.drop p.1) = c ++ ((if k = 2 then [n] else []) ++ nonL l) ∧ p.2.length + szL (l.drop p.1) ≤ 1000000) (fun p => [(1, .clo 71 [.ptr 0 0]), (2, .ptr 3 0), (12, .lst 4 (rowsT l)), (13, I (rowsT l).length), (14, I p.1)]) (fun p => (3, .cells 33 [I k, I n, .str s, .lst 4 (rowsT l)]) :: nnP p.2) (fun p => l.length - p.1) [4, 5, 6, 7]
      (0, c ++ (if k = 2 then [n] else [])) ⟨by dsimp only; omega, by dsimp only; rw [List.drop_zero, List.append_assoc], by dsimp only; rw [List.drop_zero, List.length_append]; split <;> simp <;> omega⟩ ⟨SVle.refl _, SVle.refl _, SVle.refl _, SVle.refl _, SVle.refl _, trivial⟩ ⟨rfl, rfl, rfl, trivial⟩ ?_
    rintro ⟨i, q⟩ ⟨a1, a2⟩
    dsimp only at a1 a2
    refine run 400 rfl ?_
    refine at_ifd rfl (fun g => ?_) (fun g => ?_)
    rotate_left
    · dsimp only at g
      rw [hlen0] at g
      have e : i = l.length := by omega
      subst e
      rw [List.drop_length] at a2
      rw [nonL, List.append_nil] at a2
      refine run 400 rfl ?_
      exact at_ret rfl rfl (nnP q) ⟨rfl, by rw [a2.1]⟩ ⟨rfl, rfl, trivial⟩
    dsimp only at g
    rw [hlen0] at g
    have hlt : i < l.length := by omega
    have hget := rowsT_get hlt
    have hmem := getD_mem hlt
    rw [drop_getD hlt] at a2
    generalize l.getD i .zero = u at hget hmem a2
    refine run 400 rfl ?_
    refine at_val (.rp (tr u) 0) (does_index ty_ok _ rfl rfl rfl (by omega) (show (rowsT l)[(i : Int).toNat]? = some (tr u) from hget) rfl) ?_
    refine run 400 rfl ?_
    rw [nonL, szL] at a2
    have hnl := nonT_len u
    refine at_growM 0 2 8 1 (ih u hmem q (hL.2 u hmem) (by omega)) rfl rfl rfl rfl ?_
    refine at_renameC 0 8 2 1 0 rfl rfl rfl rfl ?_
    refine run 400 rfl ?_
    exact at_again (i + 1, q ++ nonT u) ⟨by dsimp only; omega, by dsimp only; rw [← a2.1, List.append_assoc], by dsimp only; rw [List.length_append]; omega⟩ (by dsimp only; omega) ⟨SVle.refl _, SVle.refl _, SVle.refl _, SVle.refl _, SVle.of_eq (by show I ((i : Int) + 1) = I ((i + 1 : Nat) : Int); rw [Int.natCast_add]; rfl), trivial⟩ ⟨rfl, rfl, rfl, trivial⟩


set_option maxRecDepth 100000 in
theorem eachH_fn : ∀ (t : Tm) (x : Tm), Sm t →  Contract Try.prog 70 1 (hsO x) [t.sv, .clo 79 [.ptr 0 0]] fun s post => ∃ b : Bool, b = hasT x t ∧ s = cond b .ff .tt ∧ post = hsO x := by
  intro t
  induction t using Tm.ind with
  | h k n s l ih =>
    intro x hsm
    have hL := hsm.ks
    have hlen0 : ((rowsT l).length : Int) = l.length := by rw [rowsT_len]
    refine contract_of ty_ok [1, 2, 3, 4, 5, 6, 7] Try.func70 rfl (by decide) Try.ntmps70 rfl fun z => ?_
    refine run 400 rfl ?_
    rw [hasT]
    refine at_metF 0 (has1_fn (.mk k n s l) x hsm) rfl rfl rfl ?_
    refine run 400 rfl ?_
    refine at_if rfl (fun h => ?_) (fun h => ?_)
    · have h : same (.mk k n s l) x = true := by simpa using h
      refine run 400 rfl ?_
      exact at_ret rfl rfl (hsO x) ⟨true, by rw [h]; rfl, rfl, rfl⟩ ⟨rfl, trivial⟩
    have h : same (.mk k n s l) x = false := by simpa using h
    rw [h, Bool.false_or]
    refine run 400 rfl ?_
    refine at_loop (fun p : Nat × Unit => p.1 ≤ l.length ∧ hasL x (l.drop p.1) = hasL x l) (fun p => [(1, .clo 79 [.ptr 0 0]), (2, .ptr 1 0), (12, .lst 4 (rowsT l)), (13, I (rowsT l).length), (14, I p.1)]) (fun p => (1, .cells 33 [I k, I n, .str s, .lst 4 (rowsT l)]) :: hsO x) (fun p => l.length - p.1) [2, 3, 4, 5, 6, 7]
      (0, ()) ⟨by dsimp only; omega, rfl⟩ ⟨SVle.refl _, SVle.refl _, SVle.refl _, SVle.refl _, SVle.refl _, trivial⟩ ⟨rfl, rfl, trivial⟩ ?_
    rintro ⟨i, q⟩ ⟨a1, a2⟩
    dsimp only at a1 a2
    refine run 400 rfl ?_
    refine at_ifd rfl (fun g => ?_) (fun g => ?_)
    rotate_left
    · dsimp only at g
      rw [hlen0] at g
      have e : i = l.length := by omega
      subst e
      rw [List.drop_length] at a2
      rw [hasL] at a2
      refine run 400 rfl ?_
      exact at_ret rfl rfl (hsO x) ⟨false, a2, rfl, rfl⟩ ⟨rfl, trivial⟩
    dsimp only at g
    rw [hlen0] at g
    have hlt : i < l.length := by omega
    have hget := rowsT_get hlt
    have hmem := getD_mem hlt
    rw [drop_getD hlt] at a2
    generalize l.getD i .zero = u at hget hmem a2
    refine run 400 rfl ?_
    refine at_val (.rp (tr u) 0) (does_index ty_ok _ rfl rfl rfl (by omega) (show (rowsT l)[(i : Int).toNat]? = some (tr u) from hget) rfl) ?_
    refine run 400 rfl ?_
    rw [hasL] at a2
    refine at_met 0 (ih u hmem x (hL.2 u hmem)) rfl rfl (fun _ => rfl) ?_
    intro b hb
    cases b with
    | true =>
      refine run 400 rfl ?_
      exact at_ret rfl rfl (hsO x) ⟨true, by rw [← a2, ← hb]; rfl, rfl, rfl⟩ ⟨rfl, trivial⟩
    | false =>
      rw [← hb, Bool.false_or] at a2
      refine run 400 rfl ?_
      exact at_again (i + 1, ()) ⟨by dsimp only; omega, a2⟩ (by dsimp only; omega) ⟨SVle.refl _, SVle.refl _, SVle.refl _, SVle.refl _, SVle.of_eq (by show I ((i : Int) + 1) = I ((i + 1 : Nat) : Int); rw [Int.natCast_add]; rfl), trivial⟩ ⟨rfl, rfl, trivial⟩

end Go.Proofs.Ytmnmhehddbemkaa
/- The proof engine: a text's bytes behind a list of bytes; a call that uses up a token, in a plan. -/
namespace Go.Eng
open Go.Lib (strCells strCells_length strCells_oneCell run_firstCells_string run_append_grow_string)

/-- The bytes of a text. -/
def bytesI (s : ByteArray) : List Int := s.data.toList.map fun b => (b.toNat : Int)
theorem bytesI_len (s : ByteArray) : (bytesI s).length = s.size := by
  rw [bytesI, List.length_map, Array.length_toList]; rfl
theorem strCells_bytes (s : ByteArray) : strCells s = (bytesI s).map (Value.int .u8) := by
  simp [strCells, bytesI, Function.comp_def]
theorem flat_bytes_mk {H : Hp} : ∀ ns : List Int, DenF H 1 (bytesR ns) (ns.map (Value.int .u8))
  | [] => rfl
  | n :: ns => ⟨[.int .u8 n], _, rfl, ⟨rfl, trivial⟩, rfl, flat_bytes_mk ns⟩

theorem run_append_room_offS {P : Program} (w : World) (t u ty e : TypeId) (i : TypeInfo) (ht : P.underlying t = some (.slice e)) (hu : P.underlying u = some .string) (hi : P.info? e = some i) (hs1 : i.size = 1) (e' : TypeId)
    (g off sLen sCap : Nat) (cur : Array Value) (hg : w.heap[g]? = some (.cells cur e' (0, 0))) (s : ByteArray)
    (hroom : sLen + s.size ≤ sCap) (hfit : off + sLen + s.size ≤ cur.size) :
    (Builtin.append_ #[t, u] ty #[.slice (some ⟨g, off, none⟩) sLen sCap, .string s]).run P w =
      .ok (.slice (some ⟨g, off, none⟩) (sLen + s.size) sCap) (w.setRow g (splice (strCells s) (off + sLen) cur.toList).toArray) := by
  have hf := run_firstCells_string (P := P) w 1 s
  have hst := run_storeCells_at P g (off + sLen) e' (strCells s) 0 cur w hg (by simpa [strCells_length] using hfit) (strCells_oneCell s)
  simp only [Nat.add_zero, strCells_length] at hst
  simp [Builtin.append_, run_underlying ht, run_underlying hu, sizeOf, typeInfo, hi, hs1, Builtin.lenOf, hroom, hf, Addr.add_lit, hst, splice, strCells_length]

section
variable {P : Program} {env : List (Nat × SV)} {own : List (Nat × SO)}

theorem doesU_appendStr {T : Nat → TI} (hT : ∀ t, T t = tiOf P t) {o : Oper} {t u k : Nat} {x y : Operand} {xs : List Int} {str : ByteArray} {c : Call} (ho : o.op = .call c) (hcl : c.callee = .builtin .append) (ha : c.args = #[x, y]) (hat : c.argTypes = #[t, u]) (hx : ev env x = .gl k 1 (bytesR xs)) (hy : ev env y = .str str)
    (hu : (T u).kd = .str) (hkT : lstT T t 1 = true) (hl : ((xs.length + str.size : Nat) : Int) ≤ 9223372036854775807) (hb : (xs.length + str.size) * (T (T t).elem).bytes ≤ 140737488355328) : DoesU P o env own k 1 (bytesR (xs ++ bytesI str)) := by
  obtain ⟨hk, hz, hk2, hz2, hz0⟩ := lstT_spec hT hkT
  rw [hT (T t).elem, hT t] at hb
  rw [hT] at hu
  have hxl : (bytesR xs).length = xs.length := by simp
  have happ : bytesR (xs ++ bytesI str) = bytesR xs ++ bytesR (bytesI str) := by simp
  have hsl : (bytesR (bytesI str)).length = str.size := by rw [List.length_map, bytesI_len]
  rw [happ]
  generalize bytesR xs = X at hx hxl ⊢
  intro cx g H n own' own2 env' a w hd hd' htok hless
  obtain ⟨i1, h1⟩ := slice_ti hk
  obtain ⟨i2, d2, h2⟩ := ti_spec hk2
  have hus : P.underlying u = some .string := by
    obtain ⟨i, d, hs, e⟩ := und_kd (P := P) hu (by simp)
    cases d <;> simp [kdOf] at e
    exact hs.und
  obtain ⟨z, hz3, hz4⟩ := zero_spec h2 hz2
  have hzs : z.cells.size = 1 := by rw [← hz0, hz4, Array.length_toList]
  have hsz : 1 = i2.size := by rw [← hz, h2.size]
  rw [h2.bytes] at hb
  have ex := hd.ev x
  rw [hx] at ex
  obtain ⟨⟨ad, c1, e1, hc1, hn1, hp1⟩, eg⟩ := ex
  obtain ⟨ad', n', c', eg', ht1, ht2, ht3⟩ := hd'.ok k _ htok
  rw [← eg, e1] at eg'
  simp only [Value.slice.injEq] at eg'
  obtain ⟨rfl, rfl, rfl⟩ := eg'
  have e2 : a.eval y = .string str := by have := hd.ev y; rw [hy] at this; exact this
  have hf2 : DenF H 1 (bytesR (bytesI str)) (strCells str) := by rw [strCells_bytes]; exact flat_bytes_mk _
  have hrun : ∀ v w', (Builtin.append_ #[t, u] o.type #[a.eval x, a.eval y]).run P w = .ok v w' → (execOp a.eval o).run P w = .ok (.value v) w' := by
    intro v w' h
    simp only [execOp, ho, resolve, hcl, ha, hat]
    simp [invoke, builtin, h]
  have hd2 := hd'.lessO hless
  have hother : ∀ p, ad = some p → X.length < c1 → ∀ j o, ownq own' j = some o → j ≠ k → blkOf (g j) ≠ some p.block := by
    intro p hp hlt j o hj hne e
    refine hne (hd'.inj j k (by rw [hj]; rfl) (by rw [htok]; rfl) p.block e ?_)
    rw [← eg, e1, hp]
    simp [blkOf, Nat.blt_eq.mpr hlt]
  have hnl := strCells_length str
  cases had : ad with
  | none =>
    obtain ⟨e3, e4⟩ := hn1 had
    subst e3; subst e4
    have hx0 : xs.length = 0 := by rw [← hxl]; rfl
    by_cases h0 : str.size = 0
    · have hnil : bytesR (bytesI str) = [] := List.length_eq_zero_iff.1 (by rw [hsl, h0])
      refine ⟨.slice none 0 0, w, H, hrun _ _ ?_, ?_, hd2, ?_⟩
      · rw [e1, e2, had]
        simp [Builtin.append_, run_underlying h1.und, run_underlying hus, sizeOf, typeInfo, h2.info, Builtin.lenOf, Builtin.firstCells, h0]
      · rw [hnil]
        exact ⟨none, 0, rfl, Nat.le_refl _, fun _ => ⟨rfl, rfl⟩, fun p hp => by cases hp⟩
      · exact ⟨none, 0, 0, rfl, fun _ => ⟨rfl, rfl⟩, Nat.le_refl _, fun p hp => by cases hp⟩
    have hr := run_append_nil_string (P := P) w t u o.type _ i2 z h1.und hus h2.info hz3 str (by omega) (by omega) (by rw [hx0, Nat.zero_add] at hb; omega)
    have hcells : (str.data.map (fun b => Value.int .u8 b.toNat)) = (strCells str).toArray := by
      apply Array.ext'
      simp [strCells]
    rw [hcells] at hr
    obtain ⟨hd3, hv⟩ := laid_append hd2 (tiOf P t).elem (Builtin.zeroCells z.cells (grownCap w str.size 0 (tiOf P t).elem - str.size)) hf2 (grownCap w str.size 0 (tiOf P t).elem) (by rw [hsl]; exact grownCap_ge _ _ _ _)
    have hsp := (laid_spare (w := w) (tiOf P t).elem z.cells hzs hf2 (grownCap w str.size 0 (tiOf P t).elem) (by rw [hsl]; exact grownCap_ge _ _ _ _) (fun b => w.heap.size ≤ b) (Nat.le_refl _)).mono fun b hb => hd2.new_ok hb
    rw [hsl] at hsp hv
    refine ⟨_, _, _, hrun _ _ ?_, hv, hd3, hsp⟩
    rw [e1, e2, had]
    exact hr
  | some p =>
    obtain ⟨hp3, hp4⟩ := hp1 p had
    by_cases hroom : X.length + str.size ≤ c1
    · by_cases h00 : X.length < c1
      · obtain ⟨t1, t2, cs, ty, t3, t4, t5⟩ := ht3 p had h00
        obtain ⟨b, off, spot⟩ := p
        simp only at t1 t2 t3 t4 t5
        subst t1
        have hfit : off + X.length * 1 + (strCells str).length ≤ cs.size := by rw [hnl]; omega
        have hr := run_append_room_offS (P := P) w t u o.type _ i2 h1.und hus h2.info hsz.symm ty b off X.length c1 cs t3 str hroom (by rw [hnl] at hfit; omega)
        have hd3 := hd'.fill (q := off + X.length) (strCells str) hless (fun j o hj hne => hother _ had h00 j o hj hne) t2 t3 (fun j hj => t5 j (by omega)) (by omega)
        have hle := Hp.add_le (q := off + X.length) (fun j hj => t5 j (by omega)) (strCells str)
        have hlen : (X ++ bytesR (bytesI str)).length = X.length + str.size := by rw [List.length_append, hsl]
        refine ⟨_, _, _, hrun _ _ (by rw [e1, e2, had]; exact hr), ⟨some ⟨b, off, none⟩, c1, by rw [hlen], by rw [hlen]; exact hroom, fun e => (by cases e), fun p hp => ?_⟩, hd3,
          some ⟨b, off, none⟩, _, c1, rfl, fun e => (by cases e), hroom, fun p hp hlt => ?_⟩
        · simp only [Option.some.injEq] at hp
          subst hp
          refine ⟨.inr rfl, ?_⟩
          obtain ⟨ov, hf1, hc4⟩ := hp4.flat
          refine (hf1.append hf2 |>.mono hle).rs fun j v hj => ?_
          have hol := hf1.length
          by_cases hjl : j < ov.length
          · rw [List.getElem?_append_left hjl] at hj
            exact hle _ _ _ (hc4 j v hj)
          · rw [List.getElem?_append_right (by omega)] at hj
            have := Hp.add_at H b (off + X.length) (strCells str) hj
            rw [show off + X.length + (j - ov.length) = off + j from by omega] at this
            exact this
        · simp only [Option.some.injEq] at hp
          subst hp
          refine ⟨rfl, ⟨t2, fun j o hj => hother _ had h00 j o (hless j o hj).2 (hless j o hj).1⟩, _, ty, setRow_heap w b cs _ ty (0, 0) t3, ?_, fun j hj => ?_⟩
          · rw [List.size_toArray, splice_length (by simp only [Array.length_toList]; omega), Array.length_toList]
            exact t4
          · rw [Hp.add_out _ _ _ _ (.inr (by rw [hnl]; simp only at hj ⊢; omega))]
            exact t5 j (by simp only at hj ⊢; omega)
      · have h0 : str.size = 0 := by omega
        have hnil : bytesR (bytesI str) = [] := List.length_eq_zero_iff.1 (by rw [hsl, h0])
        have hcx : X.length = c1 := by omega
        refine ⟨.slice (some p) X.length c1, w, H, hrun _ _ ?_, ?_, hd2, ?_⟩
        · rw [e1, e2, had]
          simp [Builtin.append_, run_underlying h1.und, run_underlying hus, sizeOf, typeInfo, h2.info, Builtin.lenOf, Builtin.firstCells, h0, storeCells, hcx]
        · rw [hnil, List.append_nil]
          exact ⟨some p, c1, rfl, hc1, fun e => (by cases e), fun q hq => by
            simp only [Option.some.injEq] at hq; subst hq; exact ⟨hp3, hp4⟩⟩
        · exact ⟨some p, _, c1, rfl, fun e => (by cases e), hc1, fun q hq hlt => absurd hlt h00⟩
    · obtain ⟨ov, hf1, hc4⟩ := hp4.flat
      have hol := hf1.length
      have holds : ∀ (j : Nat) (v : Value), ov[j]? = some v → w.cell? (p.add j) = some v := by
        intro j v hj
        have hp3 : p.spot = none := hp3.resolve_left fun e => by subst e; rw [show ov = [] from hf1] at hj; simp at hj
        obtain ⟨b, off, spot⟩ := p
        simp only at hp3
        subst hp3
        rw [addr_add]
        exact hd.hp _ _ _ (hc4 j v hj)
      have hr := run_append_grow_string (P := P) w t u o.type _ i2 z h1.und hus h2.info hz3 p X.length c1 ov (by rw [hol, hsz]) holds str (by omega) (by rw [hxl]; exact hl) (growslice_fits (by omega) (by rw [hxl]; exact hb))
      have hlen : (X ++ bytesR (bytesI str)).length = X.length + str.size := by rw [List.length_append, hsl]
      obtain ⟨hd3, hv⟩ := laid_append hd2 (tiOf P t).elem (Builtin.zeroCells z.cells (grownCap w (X.length + str.size) c1 (tiOf P t).elem - (X.length + str.size))) (hf1.append hf2) (grownCap w (X.length + str.size) c1 (tiOf P t).elem) (by rw [hlen]; exact grownCap_ge _ _ _ _)
      have e5 : (ov ++ strCells str).toArray = ov.toArray ++ (strCells str).toArray := by simp
      have hsp := (laid_spare (w := w) (tiOf P t).elem z.cells hzs (hf1.append hf2) (grownCap w (X.length + str.size) c1 (tiOf P t).elem) (by rw [hlen]; exact grownCap_ge _ _ _ _) (fun b => w.heap.size ≤ b) (Nat.le_refl _)).mono fun b hb => hd2.new_ok hb
      rw [e5] at hd3 hsp
      rw [hlen] at hsp hv
      refine ⟨_, _, _, hrun _ _ ?_, hv, hd3, hsp⟩
      rw [e1, e2, had]
      exact hr

end
end Go.Eng
namespace Go.Proofs.Ytmnmhehddbemkaa
open Go Go.Eng
set_option maxRecDepth 100000

mutual
/-- The bytes of a term. -/
def encT : Tm → List Int
  | .mk k n s l => [k] ++ (if k = 1 then numB s.size 2 ++ bytesI s else if k = 2 then numB n 4 else []) ++ encL l
def encL : List Tm → List Int
  | [] => []
  | t :: l => encT t ++ encL l
end
theorem numB_len (v : Int) (n : Nat) : (numB v n).length = n := by simp [numB]
/-- What stands behind the kind. -/
def midT (k n : Int) (s : ByteArray) : List Int := if k = 1 then numB s.size 2 ++ bytesI s else if k = 2 then numB n 4 else []
theorem encT_eq (k n : Int) (s : ByteArray) (l : List Tm) : encT (.mk k n s l) = [k] ++ midT k n s ++ encL l := by rw [encT, midT]

theorem kidsF_k {k : Int} (h : 0 ≤ kidsF k) : 1 ≤ k ∧ k ≤ 7 := by
  unfold kidsF at h
  repeat (first | omega | (split at h))
theorem Gd.ks {k n : Int} {s : ByteArray} {l : List Tm} (h : Gd (.mk k n s l)) : (l.length : Int) = kidsF k ∧ ∀ t ∈ l, Gd t := by
  cases h with
  | mk h1 h2 => exact ⟨h1, h2⟩

theorem puts_fn : ∀ (t : Tm), Gd t → ∀ b : List Int, b.length + (encT t).length ≤ 1000000 → Contract Try.prog 104 1 [(0, .tok 1)] [.gl 0 1 (bytesR b), t.sv] fun s post => s = .gl 1 1 (bytesR (b ++ encT t)) ∧ post = [(1, .tok 1)] := by
  intro t
  induction t using Tm.ind with
  | h k n s l ih =>
    intro hsm b hb
    have hL := hsm.ks
    have hk := kidsF_k (k := k) (by omega)
    have hl1 : l.length ≤ 2 := by have := kidsF_le k; omega
    have hk' : 1 ≤ (Tm.mk k n s l).k ∧ (Tm.mk k n s l).k ≤ 7 := hk
    have hlen0 : ((rowsT l).length : Int) = l.length := by rw [rowsT_len]
    rw [encT_eq] at hb ⊢
    rw [List.length_append, List.length_append] at hb
    have hbl : (bytesR b).length = b.length := by simp
    refine contract_of ty_ok [3, 4, 5, 6, 7] Try.func104 rfl (by decide) Try.ntmps104 rfl fun z => ?_
    refine run 400 rfl ?_
    simp only [List.length_singleton] at hb
    refine at_gro (.tl 1 (bytesR [k])) (doesG_build ty_ok _ rfl ⟨⟨rfl, rfl, _, rfl, SVles.refl _⟩, trivial⟩ rfl rfl (by decide)) ?_
    refine at_grow 0 1 1 (bytesR b ++ bytesR [k]) rfl (doesU_append ty_ok rfl rfl rfl rfl rfl rfl rfl (by rw [hbl]; simp; omega) (by rw [hbl]; show _ * 1 ≤ _; simp; omega)) rfl ?_
    rw [show bytesR b ++ bytesR [k] = bytesR (b ++ [k]) by simp]
    have hb1 : (b ++ [k]).length = b.length + 1 := by simp
    generalize hB : b ++ [k] = B at hb1
    refine run 400 rfl ?_
    refine at_join (fun _ : Unit => True) (fun _ => [(0, .gl 1 1 (bytesR (B ++ midT k n s))), (3, .ptr 3 0)]) (fun _ => [(1, .tok 1), (3, .cells 33 [I k, I n, .str s, .lst 4 (rowsT l)])]) [4, 5, 6, 7] ?_ ?_
    · refine at_if rfl (fun q => ?_) (fun q => ?_)
      · have q : k = 1 := by simpa using q
        have hm : midT k n s = numB s.size 2 ++ bytesI s := by rw [midT, if_pos q]
        rw [hm] at hb ⊢
        rw [List.length_append, numB_len, bytesI_len] at hb
        refine run 400 rfl ?_
        refine at_drawn_st 7 [1] rfl rfl [(4, .eatc 1 1 (bytesR (B ++ numB s.size 2)) none)] [20, 21] rfl (doesC_call (number_fn B s.size 2 (by omega) (by omega)) rfl) ?_
        refine at_less [(21, .gl 20 1 (bytesR (B ++ numB s.size 2))), (23, .str s), (3, .ptr 3 0)] [(20, .tok 1), (3, .cells 33 [I k, I n, .str s, .lst 4 (rowsT l)])] [4, 5, 6, 7] ⟨SVle.refl _, SVle.refl _, SVle.refl _, trivial⟩ ⟨rfl, rfl, trivial⟩ ?_
        have hl2 : (B ++ numB s.size 2).length = B.length + 2 := by rw [List.length_append, numB_len]
        refine at_grow 20 1 1 (bytesR (B ++ numB s.size 2 ++ bytesI s)) rfl (doesU_appendStr ty_ok rfl rfl rfl rfl rfl rfl rfl rfl (by omega) (by show _ * 1 ≤ _; omega)) rfl ?_
        refine run 400 rfl ?_
        exact at_joined () trivial ⟨SVle.of_eq (by show SV.gl 1 1 _ = SV.gl 1 1 _; rw [List.append_assoc]), SVle.refl _, trivial⟩ ⟨rfl, rfl, trivial⟩
      · have q : ¬ k = 1 := by simpa using q
        refine run 400 rfl ?_
        refine at_if rfl (fun q2 => ?_) (fun q2 => ?_)
        · have q2 : k = 2 := by simpa using q2
          have hm : midT k n s = numB n 4 := by rw [midT, if_neg q, if_pos q2]
          rw [hm] at hb ⊢
          rw [numB_len] at hb
          refine run 400 rfl ?_
          refine at_growF 1 1 1 (number_fn B n 4 (by omega) (by omega)) rfl rfl rfl ?_
          refine run 400 rfl ?_
          exact at_joined () trivial ⟨SVle.refl _, SVle.refl _, trivial⟩ ⟨rfl, rfl, trivial⟩
        · have q2 : ¬ k = 2 := by simpa using q2
          have hm : midT k n s = [] := by rw [midT, if_neg q, if_neg q2]
          rw [hm]
          refine run 400 rfl ?_
          exact at_joined () trivial ⟨SVle.of_eq (by show SV.gl 1 1 (bytesR B) = SV.gl 1 1 (bytesR (B ++ [])); rw [List.append_nil]), SVle.refl _, trivial⟩ ⟨rfl, rfl, trivial⟩
    · intro _ _
      have hb2 : (B ++ midT k n s).length = b.length + 1 + (midT k n s).length := by rw [List.length_append, hb1]
      have hfin : b ++ ([k] ++ midT k n s ++ encL l) = (B ++ midT k n s) ++ encL l := by rw [← hB]; simp
      rw [hfin]
      generalize B ++ midT k n s = D at hb2
      refine run 400 rfl ?_
      refine at_loop (fun p : Nat × List Int => p.1 ≤ l.length ∧ p.2 ++ encL (l.drop p.1) = D ++ encL l ∧ p.2.length + (encL (l.drop p.1)).length ≤ 1000000) (fun p => [(0, .gl 1 1 (bytesR p.2)), (32, .lst 4 (rowsT l)), (33, I (rowsT l).length), (34, I p.1)]) (fun p => [(1, .tok 1)]) (fun p => l.length - p.1) [3, 4, 5, 6, 7]
        (0, D) ⟨by dsimp only; omega, by dsimp only; rw [List.drop_zero], by dsimp only; rw [List.drop_zero]; omega⟩ ⟨SVle.refl _, SVle.refl _, SVle.refl _, SVle.refl _, trivial⟩ ⟨rfl, trivial⟩ ?_
      rintro ⟨i, q⟩ ⟨a1, a2, a3⟩
      dsimp only at a1 a2 a3
      refine run 400 rfl ?_
      refine at_ifd rfl (fun g => ?_) (fun g => ?_)
      rotate_left
      · dsimp only at g
        rw [hlen0] at g
        have e : i = l.length := by omega
        subst e
        rw [List.drop_length, encL, List.append_nil] at a2
        refine run 400 rfl ?_
        exact at_ret rfl rfl [(1, .tok 1)] ⟨by rw [← a2], rfl⟩ ⟨rfl, trivial⟩
      dsimp only at g
      rw [hlen0] at g
      have hlt : i < l.length := by omega
      have hget := rowsT_get hlt
      have hmem := getD_mem hlt
      rw [drop_getD hlt, encL] at a2 a3
      generalize l.getD i .zero = u at hget hmem a2 a3
      rw [List.length_append] at a3
      refine run 400 rfl ?_
      refine at_val (.rp (tr u) 0) (does_index ty_ok _ rfl rfl rfl (by omega) (show (rowsT l)[(i : Int).toNat]? = some (tr u) from hget) rfl) ?_
      refine run 400 rfl ?_
      refine at_growF 1 1 1 (ih u hmem (hL.2 u hmem) q (by omega)) rfl rfl rfl ?_
      refine run 400 rfl ?_
      exact at_again (i + 1, q ++ encT u) ⟨by dsimp only; omega, by dsimp only; rw [← a2, List.append_assoc], by dsimp only; rw [List.length_append]; omega⟩ (by dsimp only; omega) ⟨SVle.refl _, SVle.refl _, SVle.refl _, SVle.of_eq (by show I ((i : Int) + 1) = I ((i + 1 : Nat) : Int); rw [Int.natCast_add]; rfl), trivial⟩ ⟨rfl, trivial⟩

/-- The bytes of a term, where it is handed none. -/
theorem putsN_fn : ∀ (t : Tm), Gd t → (encT t).length ≤ 1000000 → Gives Try.prog 104 [.tl 0 [], t.sv] (.lst 1 (bytesR (encT t))) := by
  intro t hsm hb
  obtain ⟨k, n, s, l⟩ := t
  have hL := hsm.ks
  have hk := kidsF_k (k := k) (by omega)
  have hl1 : l.length ≤ 2 := by have := kidsF_le k; omega
  have hk' : 1 ≤ (Tm.mk k n s l).k ∧ (Tm.mk k n s l).k ≤ 7 := hk
  have hlen0 : ((rowsT l).length : Int) = l.length := by rw [rowsT_len]
  rw [encT_eq] at hb ⊢
  rw [List.length_append, List.length_append] at hb
  simp only [List.length_singleton] at hb
  refine contract_of ty_ok [3, 4, 5, 6, 7] Try.func104 rfl (by decide) Try.ntmps104 rfl fun z => ?_
  refine run 400 rfl ?_
  refine at_gro (.tl 1 (bytesR [k])) (doesG_build ty_ok _ rfl ⟨⟨rfl, rfl, _, rfl, SVles.refl _⟩, trivial⟩ rfl rfl (by decide)) ?_
  refine at_name 7 0 1 rfl (.inr rfl) ?_
  refine at_grow 0 1 1 ([] ++ bytesR [k]) rfl (doesU_append ty_ok rfl rfl rfl rfl rfl rfl rfl (by simp) (by show _ * 1 ≤ _; simp)) rfl ?_
  refine run 400 rfl ?_
  refine at_join (fun _ : Unit => True) (fun _ => [(0, .gl 1 1 (bytesR ([k] ++ midT k n s))), (3, .ptr 3 0)]) (fun _ => [(1, .tok 1), (3, .cells 33 [I k, I n, .str s, .lst 4 (rowsT l)])]) [4, 5, 6, 7] ?_ ?_
  · refine at_if rfl (fun q => ?_) (fun q => ?_)
    · have q : k = 1 := by simpa using q
      have hm : midT k n s = numB s.size 2 ++ bytesI s := by rw [midT, if_pos q]
      rw [hm] at hb ⊢
      rw [List.length_append, numB_len, bytesI_len] at hb
      refine run 400 rfl ?_
      refine at_drawn_st 7 [1] rfl rfl [(4, .eatc 1 1 (bytesR ([k] ++ numB s.size 2)) none)] [20, 21] rfl (doesC_call (number_fn [k] s.size 2 (by omega) (by simp)) rfl) ?_
      refine at_less [(21, .gl 20 1 (bytesR ([k] ++ numB s.size 2))), (23, .str s), (3, .ptr 3 0)] [(20, .tok 1), (3, .cells 33 [I k, I n, .str s, .lst 4 (rowsT l)])] [4, 5, 6, 7] ⟨SVle.refl _, SVle.refl _, SVle.refl _, trivial⟩ ⟨rfl, rfl, trivial⟩ ?_
      have hl2 : ([k] ++ numB s.size 2).length = 1 + 2 := by rw [List.length_append, numB_len]; rfl
      refine at_grow 20 1 1 (bytesR ([k] ++ numB s.size 2 ++ bytesI s)) rfl (doesU_appendStr ty_ok rfl rfl rfl rfl rfl rfl rfl rfl (by omega) (by show _ * 1 ≤ _; omega)) rfl ?_
      refine run 400 rfl ?_
      exact at_joined () trivial ⟨SVle.of_eq (by show SV.gl 1 1 _ = SV.gl 1 1 _; rw [List.append_assoc]), SVle.refl _, trivial⟩ ⟨rfl, rfl, trivial⟩
    · have q : ¬ k = 1 := by simpa using q
      refine run 400 rfl ?_
      refine at_if rfl (fun q2 => ?_) (fun q2 => ?_)
      · have q2 : k = 2 := by simpa using q2
        have hm : midT k n s = numB n 4 := by rw [midT, if_neg q, if_pos q2]
        rw [hm] at hb ⊢
        rw [numB_len] at hb
        refine run 400 rfl ?_
        refine at_growF 1 1 1 (number_fn [k] n 4 (by omega) (by simp)) rfl rfl rfl ?_
        refine run 400 rfl ?_
        exact at_joined () trivial ⟨SVle.refl _, SVle.refl _, trivial⟩ ⟨rfl, rfl, trivial⟩
      · have q2 : ¬ k = 2 := by simpa using q2
        have hm : midT k n s = [] := by rw [midT, if_neg q, if_neg q2]
        rw [hm]
        refine run 400 rfl ?_
        exact at_joined () trivial ⟨SVle.refl _, SVle.refl _, trivial⟩ ⟨rfl, rfl, trivial⟩
  · intro _ _
    have hb2 : ([k] ++ midT k n s).length = 1 + (midT k n s).length := by rw [List.length_append]; rfl
    generalize [k] ++ midT k n s = D at hb2
    refine run 400 rfl ?_
    refine at_loop (fun p : Nat × List Int => p.1 ≤ l.length ∧ p.2 ++ encL (l.drop p.1) = D ++ encL l ∧ p.2.length + (encL (l.drop p.1)).length ≤ 1000000) (fun p => [(0, .gl 1 1 (bytesR p.2)), (32, .lst 4 (rowsT l)), (33, I (rowsT l).length), (34, I p.1)]) (fun p => [(1, .tok 1)]) (fun p => l.length - p.1) [3, 4, 5, 6, 7]
      (0, D) ⟨by dsimp only; omega, by dsimp only; rw [List.drop_zero], by dsimp only; rw [List.drop_zero]; omega⟩ ⟨SVle.refl _, SVle.refl _, SVle.refl _, SVle.refl _, trivial⟩ ⟨rfl, trivial⟩ ?_
    rintro ⟨i, q⟩ ⟨a1, a2, a3⟩
    dsimp only at a1 a2 a3
    refine run 400 rfl ?_
    refine at_ifd rfl (fun g => ?_) (fun g => ?_)
    rotate_left
    · dsimp only at g
      rw [hlen0] at g
      have e : i = l.length := by omega
      subst e
      rw [List.drop_length, encL, List.append_nil] at a2
      refine at_deg 1 ?_
      refine run 400 rfl ?_
      exact at_ret rfl rfl [] ⟨by rw [← a2], rfl, rfl⟩ trivial
    dsimp only at g
    rw [hlen0] at g
    have hlt : i < l.length := by omega
    have hget := rowsT_get hlt
    have hmem := getD_mem hlt
    rw [drop_getD hlt, encL] at a2 a3
    generalize l.getD i .zero = u at hget hmem a2 a3
    rw [List.length_append] at a3
    refine run 400 rfl ?_
    refine at_val (.rp (tr u) 0) (does_index ty_ok _ rfl rfl rfl (by omega) (show (rowsT l)[(i : Int).toNat]? = some (tr u) from hget) rfl) ?_
    refine run 400 rfl ?_
    refine at_growF 1 1 1 (puts_fn u (hL.2 u hmem) q (by omega)) rfl rfl rfl ?_
    refine run 400 rfl ?_
    exact at_again (i + 1, q ++ encT u) ⟨by dsimp only; omega, by dsimp only; rw [← a2, List.append_assoc], by dsimp only; rw [List.length_append]; omega⟩ (by dsimp only; omega) ⟨SVle.refl _, SVle.refl _, SVle.refl _, SVle.of_eq (by show I ((i : Int) + 1) = I ((i + 1 : Nat) : Int); rw [Int.natCast_add]; rfl), trivial⟩ ⟨rfl, trivial⟩

/-- The key of a term. -/
def keyT (t : Tm) : ByteArray := bytesS (encT t)
theorem put92_fn (t : Tm) (h : mayF t = true) (hb : (encT t).length ≤ 1000000) : Gives Try.prog 92 [t.sv] (.lst 1 (bytesR (encT t))) := by
  have hg := mayF_gd h
  have hm : Gives Try.prog 39 [t.sv] (.bl true) := by have := may_fn t; rw [h] at this; exact this
  refine contract_of ty_ok [0, 1, 2, 3, 4, 5, 6, 7] Try.func92 rfl (by decide) Try.ntmps92 rfl fun z => ?_
  refine run 400 rfl ?_
  refine at_fn hm rfl ?_
  refine run 400 rfl ?_
  refine at_if rfl (fun q => by cases q) (fun _ => ?_)
  refine run 400 rfl ?_
  refine at_fn (putsN_fn t hg hb) rfl ?_
  refine run 400 rfl ?_
  exact at_ret rfl rfl [] ⟨rfl, rfl, rfl⟩ trivial
theorem key66_fn (t : Tm) (h : mayF t = true) (hb : (encT t).length ≤ 1000000) : Gives Try.prog 66 [t.sv] (.str (keyT t)) := by
  refine contract_of ty_ok [0, 1, 2, 3, 4, 5, 6, 7] Try.func66 rfl (by decide) Try.ntmps66 rfl fun z => ?_
  refine run 400 rfl ?_
  refine at_fn (put92_fn t h hb) rfl ?_
  refine at_val (.str (bytesS (encT t))) (does_bytesStr ty_ok (ns := encT t) rfl rfl rfl rfl rfl) ?_
  refine run 400 rfl ?_
  exact at_ret rfl rfl [] ⟨rfl, rfl, rfl⟩ trivial
theorem key87_fn (t : Tm) (h : mayF t = true) (hb : (encT t).length ≤ 1000000) : Gives Try.prog 87 [t.sv] (.str (keyT t)) := by
  refine contract_of ty_ok [0, 1, 2, 3, 4, 5, 6, 7] Try.func87 rfl (by decide) Try.ntmps87 rfl fun z => ?_
  refine run 400 rfl ?_
  refine at_fn (put92_fn t h hb) rfl ?_
  refine at_val (.str (bytesS (encT t))) (does_bytesStr ty_ok (ns := encT t) rfl rfl rfl rfl rfl) ?_
  refine run 400 rfl ?_
  exact at_ret rfl rfl [] ⟨rfl, rfl, rfl⟩ trivial
end Go.Proofs.Ytmnmhehddbemkaa
namespace Go.Proofs.Ytmnmhehddbemkaa
open Go Go.Eng

mutual
/-- Each node by itself is right. -/
def allR : Tm → Bool
  | .mk k n s l => rightF (.mk k n s l) && allRL l
def allRL : List Tm → Bool
  | [] => true
  | t :: l => allR t && allRL l
end
mutual
def dpT : Tm → Nat
  | .mk _ _ _ l => dpL l + 1
def dpL : List Tm → Nat
  | [] => 0
  | t :: l => max (dpT t) (dpL l)
end
mutual
theorem may_yes : ∀ (t : Tm) (d c : Int), allR t = true → c + szT t ≤ 64 → d + dpT t ≤ 17 → mayT t d c = (true, c + szT t)
  | .mk k n s l, d, c, h, h1, h2 => by
    rw [allR, Bool.and_eq_true] at h
    rw [szT] at h1 ⊢
    rw [dpT] at h2
    rw [mayT, h.1, if_neg (by omega), if_neg (by omega), if_neg (by decide), may_yesL l (d + 1) (c + 1) h.2 (by omega) (by omega)]
    congr 1
    omega
theorem may_yesL : ∀ (l : List Tm) (d c : Int), allRL l = true → c + szL l ≤ 64 → d + dpL l ≤ 17 → mayL l d c = (true, c + szL l)
  | [], d, c, _, _, _ => by simp [mayL, szL]
  | t :: l, d, c, h, h1, h2 => by
    rw [allRL, Bool.and_eq_true] at h
    rw [szL] at h1 ⊢
    rw [dpL] at h2
    rw [mayL, may_yes t d c h.1 (by omega) (by omega)]
    show mayL l d (c + szT t) = _
    rw [may_yesL l d _ h.2 (by omega) (by omega)]
    congr 1
    omega
end
mutual
theorem may_of : ∀ (t : Tm) (d c : Int), (mayT t d c).1 = true → allR t = true ∧ c + szT t ≤ 64 ∧ d + dpT t ≤ 17 ∧ (mayT t d c).2 = c + szT t
  | .mk k n s l, d, c, h => by
    rw [mayT] at h ⊢
    rw [szT, dpT, allR]
    split at h
    · cases h
    split at h
    · cases h
    split at h
    · cases h
    rename_i q1 q2 q3
    rw [if_neg q1, if_neg q2, if_neg q3]
    obtain ⟨a1, a2, a3, a4⟩ := may_ofL l (d + 1) (c + 1) h (by omega) (by omega)
    have q3 : rightF (.mk k n s l) = true := by simpa using q3
    refine ⟨by rw [q3, a1]; rfl, by omega, by omega, by omega⟩
theorem may_ofL : ∀ (l : List Tm) (d c : Int), (mayL l d c).1 = true → c ≤ 64 → d ≤ 17 → allRL l = true ∧ c + szL l ≤ 64 ∧ d + dpL l ≤ 17 ∧ (mayL l d c).2 = c + szL l
  | [], d, c, h, h1, h2 => by simp [mayL, szL, dpL, allRL]; omega
  | t :: l, d, c, h, h1, h2 => by
    rw [mayL] at h ⊢
    rw [szL, dpL, allRL]
    rcases e : mayT t d c with ⟨b, c'⟩
    rw [e] at h
    cases b with
    | false => cases h
    | true =>
      have h : (mayL l d c').1 = true := h
      obtain ⟨b1, b2, b3, b4⟩ := may_of t d c (by rw [e])
      rw [e] at b4
      have b4 : c' = c + szT t := b4
      subst b4
      obtain ⟨a1, a2, a3, a4⟩ := may_ofL l d _ h (by omega) h2
      refine ⟨by rw [b1, a1]; rfl, by omega, by omega, ?_⟩
      show (mayL l d (c + szT t)).2 = _
      rw [a4]; omega
end
theorem mayF_iff (t : Tm) : mayF t = (allR t && decide (szT t ≤ 64 ∧ dpT t ≤ 16)) := by
  cases h : mayF t with
  | true =>
    obtain ⟨a1, a2, a3, _⟩ := may_of t 1 0 h
    rw [a1, decide_eq_true (by omega)]
    rfl
  | false =>
    cases h2 : allR t with
    | false => rfl
    | true =>
      rw [Bool.true_and]
      symm
      apply decide_eq_false
      intro h3
      have := may_yes t 1 0 h2 (by omega) (by omega)
      rw [mayF, this] at h
      cases h

theorem right_leafA (ns : List Int) (j : Int) : rightF (leafA ns j).1 = true := by
  have hx : ∀ b ∈ words, (b.size : Int) ≤ 1024 := by
    intro b hb
    simp only [words, List.mem_cons, List.not_mem_nil, or_false] at hb
    rcases hb with rfl | rfl | rfl | rfl | rfl | rfl | rfl | rfl | rfl <;> decide
  have hp : ((pickF ns j words).1.size : Int) ≤ 1024 := by
    unfold pickF
    rw [List.getD_eq_getElem?_getD]
    cases h : words[(nextF ns j words.length).1.toNat]? with
    | none => simp
    | some b => exact hx b (List.mem_of_getElem? h)
  unfold leafA rightF
  simp [kidsF, Tm.k, Tm.n, Tm.s, Tm.kids]
  exact .inr hp
theorem right_leafN (ns : List Int) (j : Int) : rightF (leafN ns j).1 = true := by
  have hx : ∀ n ∈ nums, n = 0 ∨ 0 < n ∧ n ≤ 1073741824 := by decide
  have hp : (nums.getD (nextF ns j 8).1.toNat 0) = 0 ∨ 0 < (nums.getD (nextF ns j 8).1.toNat 0) ∧ (nums.getD (nextF ns j 8).1.toNat 0) ≤ 1073741824 := by
    rw [List.getD_eq_getElem?_getD]
    cases h : nums[(nextF ns j 8).1.toNat]? with
    | none => simp
    | some b => exact hx b (List.mem_of_getElem? h)
  have e : seq ByteArray.empty .empty = true := seq_self _
  unfold leafN rightF
  simp [kidsF, Tm.k, Tm.n, Tm.s, Tm.kids, e]
  rcases hp with h | ⟨h1, h2⟩
  · exact .inl h
  · exact .inr ⟨h1, h2⟩
theorem right_k1 (k : Int) (t : Tm) (hk : k = 3 ∨ k = 4) : rightF (.mk k 0 .empty [t]) = true := by
  have e : seq ByteArray.empty .empty = true := seq_self _
  unfold rightF
  rcases hk with rfl | rfl <;> simp [kidsF, Tm.k, Tm.n, Tm.s, Tm.kids, e]
theorem right_k2 (k : Int) (t u : Tm) (hk : k = 5 ∨ k = 6 ∨ k = 7) : rightF (.mk k 0 .empty [t, u]) = true := by
  have e : seq ByteArray.empty .empty = true := seq_self _
  unfold rightF
  rcases hk with rfl | rfl | rfl <;> simp [kidsF, Tm.k, Tm.n, Tm.s, Tm.kids, e]
theorem genT_may (ns : List Int) : ∀ (d : Nat) (j : Int), 0 ≤ j ∧ j ≤ ns.length → allR (genT ns d j).1 = true ∧ dpT (genT ns d j).1 ≤ d + 1 := by
  have hA : ∀ j : Int, allR (leafA ns j).1 = true ∧ dpT (leafA ns j).1 = 1 := fun j => ⟨by
    have := right_leafA ns j
    unfold leafA at this ⊢
    simp only [allR, allRL, this]
    rfl, by simp [leafA, dpT, dpL]⟩
  have hN : ∀ j : Int, allR (leafN ns j).1 = true ∧ dpT (leafN ns j).1 = 1 := fun j => ⟨by
    have := right_leafN ns j
    unfold leafN at this ⊢
    simp only [allR, allRL, this]
    rfl, by simp [leafN, dpT, dpL]⟩
  intro d
  induction d with
  | zero =>
    intro j h
    simp only [genT]
    split
    · exact ⟨(hA _).1, by rw [(hA _).2]; decide⟩
    · exact ⟨(hN _).1, by rw [(hN _).2]; decide⟩
  | succ d ih =>
    intro j h
    have hx := nextF_le (l := ns) (j := j) (n := 10) h
    simp only [genT]
    split
    · exact ⟨(hA _).1, by rw [(hA _).2]; omega⟩
    · split
      · exact ⟨(hN _).1, by rw [(hN _).2]; omega⟩
      · obtain ⟨u1, u2⟩ := ih _ hx.2.2
        have hu3 := genT_le ns d _ hx.2.2
        split
        · refine ⟨?_, by simp only [dpT, dpL]; omega⟩
          simp only [allR, allRL, u1]
          rw [right_k1 _ _ (by omega)]
          rfl
        · obtain ⟨v1, v2⟩ := ih _ hu3
          refine ⟨?_, by simp only [dpT, dpL]; omega⟩
          simp only [allR, allRL, u1, v1]
          rw [right_k2 _ _ _ (by omega)]
          rfl
theorem gen4_may (ns : List Int) : mayF (genT ns 4 0).1 = true := by
  obtain ⟨h1, h2⟩ := genT_may ns 4 0 (by omega)
  have h3 := (genT_gd ns 4 0 (by omega)).2
  rw [mayF_iff, h1, decide_eq_true (by omega)]
  rfl
end Go.Proofs.Ytmnmhehddbemkaa
namespace Go.Proofs.Ytmnmhehddbemkaa
open Go Go.Eng

theorem wrap8 (x : Int) : IntKind.u8.wrap x = x % 256 := by
  simp [IntKind.wrap, IntKind.bits, IntKind.signed]
theorem fdivp (v : Int) (k : Nat) : v.fdiv (2 ^ k) = v / 2 ^ k := Int.fdiv_eq_ediv_of_nonneg _ (by exact_mod_cast Nat.zero_le (2 ^ k))
theorem numB2 (v : Int) : numB v 2 = [v / 256 % 256, v % 256] := by
  simp [numB, List.range, List.range.loop, wrap8, IntKind.bits, fdivp]
theorem numB4 (v : Int) : numB v 4 = [v / 16777216 % 256, v / 65536 % 256, v / 256 % 256, v % 256] := by
  simp [numB, List.range, List.range.loop, wrap8, IntKind.bits, fdivp]
theorem numB2_inj {v w : Int} (hv : 0 ≤ v ∧ v < 65536) (hw : 0 ≤ w ∧ w < 65536) (h : numB v 2 = numB w 2) : v = w := by
  rw [numB2, numB2] at h
  simp only [List.cons.injEq, and_true] at h
  omega
theorem numB4_inj {v w : Int} (hv : 0 ≤ v ∧ v < 4294967296) (hw : 0 ≤ w ∧ w < 4294967296) (h : numB v 4 = numB w 4) : v = w := by
  rw [numB4, numB4] at h
  simp only [List.cons.injEq, and_true] at h
  omega
theorem bytesI_inj {a b : ByteArray} (h : bytesI a = bytesI b) : a = b := by
  obtain ⟨⟨x⟩⟩ := a
  obtain ⟨⟨y⟩⟩ := b
  have h : x.map (fun b : UInt8 => (b.toNat : Int)) = y.map fun b => (b.toNat : Int) := h
  have : ∀ x y : List UInt8, x.map (fun b : UInt8 => (b.toNat : Int)) = y.map (fun b => (b.toNat : Int)) → x = y := by
    intro x
    induction x with
    | nil => intro y h; cases y with
      | nil => rfl
      | cons _ _ => simp at h
    | cons a x ih =>
      intro y h
      cases y with
      | nil => simp at h
      | cons b y =>
        simp only [List.map_cons, List.cons.injEq] at h
        rw [ih y h.2]
        congr 1
        exact UInt8.toNat_inj.1 (by omega)
  rw [this x y h]
theorem bytesI_rng (s : ByteArray) : ∀ n ∈ bytesI s, 0 ≤ n ∧ n < 256 := by
  intro n hn
  obtain ⟨b, _, rfl⟩ := List.mem_map.1 hn
  have := b.toNat_lt
  omega
theorem bytesI_S : ∀ ns : List Int, (∀ n ∈ ns, 0 ≤ n ∧ n < 256) → bytesI (bytesS ns) = ns := by
  have key : ∀ (ns : List Int) (r : ByteArray), (∀ n ∈ ns, 0 ≤ n ∧ n < 256) → bytesI (ns.foldl (fun r n => r.push (UInt8.ofNat n.toNat)) r) = bytesI r ++ ns := by
    intro ns
    induction ns with
    | nil => intro r _; simp
    | cons n ns ih =>
      intro r h
      rw [List.foldl_cons, ih _ fun m hm => h m (by simp [hm])]
      have hn := h n (by simp)
      have : bytesI (r.push (UInt8.ofNat n.toNat)) = bytesI r ++ [n] := by
        simp only [bytesI, ByteArray.data_push, Array.toList_push, List.map_append, List.map_cons, List.map_nil]
        congr 2
        rw [UInt8.toNat_ofNat']
        omega
      rw [this]
      simp
  intro ns h
  have := key ns .empty h
  simpa [bytesS, bytesI] using this
theorem bytesS_inj {a b : List Int} (ha : ∀ n ∈ a, 0 ≤ n ∧ n < 256) (hb : ∀ n ∈ b, 0 ≤ n ∧ n < 256) (h : bytesS a = bytesS b) : a = b := by
  rw [← bytesI_S a ha, h, bytesI_S b hb]

theorem right_spec {k n : Int} {s : ByteArray} {l : List Tm} (h : rightF (.mk k n s l) = true) : (l.length : Int) = kidsF k ∧ (s = .empty ∨ k = 1 ∧ s.size ≤ 1024) ∧ (n = 0 ∨ k = 2 ∧ 0 < n ∧ n ≤ 1073741824) := by
  unfold rightF at h
  simp only [Bool.and_eq_true, Bool.or_eq_true, beq_iff_eq, decide_eq_true_eq] at h
  obtain ⟨⟨h1, h2⟩, h3⟩ := h
  refine ⟨h1, ?_, ?_⟩
  · rcases h2 with h2 | h2
    · exact .inl (seq_eq h2)
    · exact .inr ⟨h2.1, by have := h2.2; simp only [Tm.s] at this; omega⟩
  · rcases h3 with h3 | h3
    · exact .inl h3
    · exact .inr ⟨h3.1.1, h3.1.2, h3.2⟩

mutual
theorem encT_rng : ∀ t : Tm, allR t = true → ∀ n ∈ encT t, 0 ≤ n ∧ n < 256
  | .mk k m s l, h => by
    rw [allR, Bool.and_eq_true] at h
    have hk := kidsF_k (k := k) (by have := (right_spec h.1).1; omega)
    intro n hn
    rw [encT_eq] at hn
    rcases List.mem_append.1 hn with hn | hn
    · rcases List.mem_append.1 hn with hn | hn
      · rw [List.mem_singleton] at hn; omega
      · unfold midT at hn
        split at hn
        · rcases List.mem_append.1 hn with hn | hn
          · rw [numB2] at hn
            simp only [List.mem_cons, List.not_mem_nil, or_false] at hn
            omega
          · exact bytesI_rng s n hn
        · split at hn
          · rw [numB4] at hn
            simp only [List.mem_cons, List.not_mem_nil, or_false] at hn
            omega
          · cases hn
    · exact encL_rng l h.2 n hn
theorem encL_rng : ∀ l : List Tm, allRL l = true → ∀ n ∈ encL l, 0 ≤ n ∧ n < 256
  | [], _, n, hn => by rw [encL] at hn; cases hn
  | t :: l, h, n, hn => by
    rw [allRL, Bool.and_eq_true] at h
    rw [encL] at hn
    rcases List.mem_append.1 hn with hn | hn
    · exact encT_rng t h.1 n hn
    · exact encL_rng l h.2 n hn
end

theorem mid_inj {k n n' : Int} {s s' : ByteArray} {l l' : List Tm} {r r' : List Int} (h : rightF (.mk k n s l) = true) (h' : rightF (.mk k n' s' l') = true) (he : midT k n s ++ r = midT k n' s' ++ r') : n = n' ∧ s = s' ∧ r = r' := by
  obtain ⟨_, a2, a3⟩ := right_spec h
  obtain ⟨_, b2, b3⟩ := right_spec h'
  unfold midT at he
  split at he
  · rename_i hk
    have e1 : n = 0 := by rcases a3 with h | h; exact h; omega
    have e2 : n' = 0 := by rcases b3 with h | h; exact h; omega
    have hs : s.size ≤ 1024 := by rcases a2 with h | h; rw [h]; decide; exact h.2
    have hs' : s'.size ≤ 1024 := by rcases b2 with h | h; rw [h]; decide; exact h.2
    rw [List.append_assoc, List.append_assoc] at he
    have hn := List.append_inj he (by rw [numB_len, numB_len])
    have hsz : (s.size : Int) = s'.size := numB2_inj (by omega) (by omega) hn.1
    have hm := List.append_inj hn.2 (by rw [bytesI_len, bytesI_len]; omega)
    exact ⟨by rw [e1, e2], bytesI_inj hm.1, hm.2⟩
  · rename_i hk
    have e1 : s = .empty := by rcases a2 with h | h; exact h; exact absurd h.1 hk
    have e2 : s' = .empty := by rcases b2 with h | h; exact h; exact absurd h.1 hk
    split at he
    · have hn := List.append_inj he (by rw [numB_len, numB_len])
      have hnn : n = n' := numB4_inj (by omega) (by omega) hn.1
      exact ⟨hnn, by rw [e1, e2], hn.2⟩
    · rename_i hk2
      have e3 : n = 0 := by rcases a3 with h | h; exact h; omega
      have e4 : n' = 0 := by rcases b3 with h | h; exact h; omega
      exact ⟨by rw [e3, e4], by rw [e1, e2], he⟩
mutual
theorem enc_inj : ∀ (t u : Tm) (r r' : List Int), allR t = true → allR u = true → encT t ++ r = encT u ++ r' → t = u ∧ r = r'
  | .mk k n s l, .mk k' n' s' l', r, r', h, h', he => by
    rw [allR, Bool.and_eq_true] at h h'
    rw [encT_eq, encT_eq] at he
    simp only [List.cons_append, List.cons.injEq, List.append_assoc] at he
    obtain ⟨hk, he⟩ := he
    subst hk
    obtain ⟨e1, e2, e3⟩ := mid_inj h.1 h'.1 he
    have hl : l.length = l'.length := by
      have := (right_spec h.1).1
      have := (right_spec h'.1).1
      omega
    obtain ⟨e4, e5⟩ := encL_inj l l' r r' hl h.2 h'.2 e3
    exact ⟨by rw [e1, e2, e4], e5⟩
theorem encL_inj : ∀ (l m : List Tm) (r r' : List Int), l.length = m.length → allRL l = true → allRL m = true → encL l ++ r = encL m ++ r' → l = m ∧ r = r'
  | [], [], r, r', _, _, _, he => by
    rw [encL] at he
    exact ⟨rfl, by simpa using he⟩
  | [], _ :: _, _, _, h, _, _, _ => by simp at h
  | _ :: _, [], _, _, h, _, _, _ => by simp at h
  | t :: l, u :: m, r, r', hl, h, h', he => by
    rw [allRL, Bool.and_eq_true] at h h'
    rw [encL, encL, List.append_assoc, List.append_assoc] at he
    obtain ⟨e1, e2⟩ := enc_inj t u _ _ h.1 h'.1 he
    obtain ⟨e3, e4⟩ := encL_inj l m r r' (by simpa using hl) h.2 h'.2 e2
    exact ⟨by rw [e1, e3], e4⟩
end
theorem keyT_inj {t u : Tm} (h : allR t = true) (h' : allR u = true) (he : keyT t = keyT u) : t = u := by
  have := bytesS_inj (encT_rng t h) (encT_rng u h') he
  exact (enc_inj t u [] [] h h' (by rw [this])).1
mutual
theorem enc_len : ∀ t : Tm, allR t = true → (encT t).length ≤ 1030 * szT t
  | .mk k n s l, h => by
    rw [allR, Bool.and_eq_true] at h
    have := encL_len l h.2
    obtain ⟨_, a2, _⟩ := right_spec h.1
    have hm : (midT k n s).length ≤ 1026 := by
      unfold midT
      split
      · rw [List.length_append, numB_len, bytesI_len]
        rcases a2 with h | h
        · rw [h]; decide
        · omega
      · split
        · rw [numB_len]; omega
        · simp
    rw [encT_eq, szT, List.length_append, List.length_append, List.length_singleton]
    omega
theorem encL_len : ∀ l : List Tm, allRL l = true → (encL l).length ≤ 1030 * szL l
  | [], _ => by simp [encL]
  | t :: l, h => by
    rw [allRL, Bool.and_eq_true] at h
    have := enc_len t h.1
    have := encL_len l h.2
    rw [encL, szL, List.length_append]
    omega
end
theorem may_enc {t : Tm} (h : mayF t = true) : (encT t).length ≤ 1000000 := by
  rw [mayF_iff, Bool.and_eq_true, decide_eq_true_eq] at h
  have := enc_len t h.1
  omega
theorem may_allR {t : Tm} (h : mayF t = true) : allR t = true := by
  rw [mayF_iff, Bool.and_eq_true] at h
  exact h.1
theorem szL_mem' {l : List Tm} {t : Tm} (h : t ∈ l) : szT t ≤ szL l ∧ dpT t ≤ dpL l ∧ (allRL l = true → allR t = true) := by
  induction l with
  | nil => cases h
  | cons u l ih =>
    rw [szL, dpL, allRL]
    rcases List.mem_cons.1 h with h | h
    · subst h
      exact ⟨by omega, by omega, fun q => by rw [Bool.and_eq_true] at q; exact q.1⟩
    · obtain ⟨a, b, c⟩ := ih h
      exact ⟨by omega, by omega, fun q => by rw [Bool.and_eq_true] at q; exact c q.2⟩
theorem may_kid {k n : Int} {s : ByteArray} {l : List Tm} (h : mayF (.mk k n s l) = true) {t : Tm} (ht : t ∈ l) : mayF t = true := by
  rw [mayF_iff, Bool.and_eq_true, decide_eq_true_eq] at h ⊢
  obtain ⟨a, b, c⟩ := szL_mem' ht
  rw [allR, Bool.and_eq_true, szT, dpT] at h
  exact ⟨c h.1.2, by omega, by omega⟩
end Go.Proofs.Ytmnmhehddbemkaa
namespace Go.Proofs.Ytmnmhehddbemkaa
open Go Go.Eng

/-- Whatever is compared with a. -/
def Anti {α : Type} (c : α → α → Int) (a : α) : Prop := ∀ b, c b a = - c a b
def Tr3 {α : Type} (c : α → α → Int) (a : α) : Prop := ∀ b d, c a b ≤ 0 → c b d ≤ 0 → c a d ≤ 0 ∧ (c a b < 0 ∨ c b d < 0 → c a d < 0)

theorem orI_neg (x y : Int) : orI (-x) (-y) = - orI x y := by
  unfold orI
  by_cases h : x = 0
  · simp [h]
  · rw [if_neg h, if_neg (by omega)]
theorem anti_or {α : Type} {c1 c2 : α → α → Int} {a : α} (h1 : Anti c1 a) (h2 : Anti c2 a) : Anti (fun x y => orI (c1 x y) (c2 x y)) a := by
  intro b
  show orI (c1 b a) (c2 b a) = - orI (c1 a b) (c2 a b)
  rw [h1 b, h2 b, orI_neg]
theorem orI_cases (x y : Int) : (x ≠ 0 ∧ orI x y = x) ∨ (x = 0 ∧ orI x y = y) := by
  by_cases h : x = 0
  · exact .inr ⟨h, if_pos h⟩
  · exact .inl ⟨h, if_neg h⟩
theorem tr_or {α : Type} {c1 c2 : α → α → Int} {a : α} (h1 : Tr3 c1 a) (h2 : Tr3 c2 a) : Tr3 (fun x y => orI (c1 x y) (c2 x y)) a := by
  intro b d
  show orI (c1 a b) (c2 a b) ≤ 0 → orI (c1 b d) (c2 b d) ≤ 0 → orI (c1 a d) (c2 a d) ≤ 0 ∧ (orI (c1 a b) (c2 a b) < 0 ∨ orI (c1 b d) (c2 b d) < 0 → orI (c1 a d) (c2 a d) < 0)
  intro g1 g2
  have k1 := h1 b d
  have k2 := h2 b d
  rcases orI_cases (c1 a b) (c2 a b) with ⟨e1, e2⟩ | ⟨e1, e2⟩ <;> rcases orI_cases (c1 b d) (c2 b d) with ⟨e3, e4⟩ | ⟨e3, e4⟩ <;> rcases orI_cases (c1 a d) (c2 a d) with ⟨e5, e6⟩ | ⟨e5, e6⟩ <;> rw [e2] at g1 <;> rw [e4] at g2 <;> rw [e2, e4, e6]
  · have := k1 g1 g2; omega
  · have := k1 g1 g2; omega
  · have := k1 g1 (by omega); omega
  · have := k1 g1 (by omega); omega
  · have := k1 (by omega) g2; omega
  · have := k1 (by omega) g2; omega
  · have := k1 (by omega) (by omega); omega
  · exact k2 g1 g2

theorem anti_sgI (a : Int) : Anti sgI a := by
  intro b
  unfold sgI
  repeat' split
  all_goals omega
theorem tr_sgI (a : Int) : Tr3 sgI a := by
  intro b d
  unfold sgI
  repeat' split
  all_goals omega
theorem anti_by {α β : Type} {c : β → β → Int} (f : α → β) {a : α} (h : Anti c (f a)) : Anti (fun x y => c (f x) (f y)) a := fun b => h (f b)
theorem tr_by {α β : Type} {c : β → β → Int} (f : α → β) {a : α} (h : Tr3 c (f a)) : Tr3 (fun x y => c (f x) (f y)) a := fun b d => h (f b) (f d)

/-- Lists, by their first difference; a front stands ahead. -/
def cLst {α : Type} (c : α → α → Int) : List α → List α → Int
  | [], [] => 0
  | [], _ :: _ => -1
  | _ :: _, [] => 1
  | x :: l, y :: m => orI (c x y) (cLst c l m)
theorem anti_lst {α : Type} {c : α → α → Int} : ∀ l : List α, (∀ x ∈ l, Anti c x) → Anti (cLst c) l
  | [], _, [] => rfl
  | [], _, _ :: _ => rfl
  | _ :: _, _, [] => rfl
  | x :: l, h, y :: m => by
    rw [cLst, cLst, h x (by simp) y, anti_lst l (fun z hz => h z (by simp [hz])) m, orI_neg]
theorem tr_lst {α : Type} {c : α → α → Int} : ∀ l : List α, (∀ x ∈ l, Tr3 c x) → Tr3 (cLst c) l
  | [], _, [], [] => by simp [cLst]
  | [], _, [], _ :: _ => by simp [cLst]
  | [], _, _ :: _, [] => by simp [cLst]
  | [], _, _ :: _, _ :: _ => by simp [cLst]
  | x :: l, _, [], d => by simp [cLst]
  | x :: l, _, y :: m, [] => by simp [cLst]
  | x :: l, h, y :: m, z :: d => by
    have h1 : Tr3 c x := h x (by simp)
    have h2 := tr_lst l fun z hz => h z (by simp [hz])
    have key : Tr3 (fun (p q : α × List α) => orI (c p.1 q.1) (cLst c p.2 q.2)) (x, l) := tr_or (c1 := fun (p q : α × List α) => c p.1 q.1) (c2 := fun (p q : α × List α) => cLst c p.2 q.2) (tr_by Prod.fst h1) (tr_by Prod.snd h2)
    exact key (y, m) (z, d)

theorem cmpB_lst : ∀ a b : List UInt8, Lib.compareBytes a b = cLst (fun x y => sgI (x.toNat : Int) y.toNat) a b
  | [], [] => rfl
  | [], _ :: _ => rfl
  | _ :: _, [] => rfl
  | x :: a, y :: b => by
    rw [Lib.compareBytes, cLst, cmpB_lst a b]
    show _ = orI (sgI _ _) _
    unfold sgI
    have e1 : (x < y) = ((x.toNat : Int) < y.toNat) := by rw [UInt8.lt_iff_toNat_lt]; simp
    have e2 : (y < x) = ((y.toNat : Int) < x.toNat) := by rw [UInt8.lt_iff_toNat_lt]; simp
    simp only [e1, e2]
    split
    · rfl
    · split
      · rfl
      · rfl
theorem sgS_lst (a b : ByteArray) : sgS a b = cLst (fun x y => sgI (x.toNat : Int) y.toNat) a.data.toList b.data.toList := by rw [← cmpB_sgS, cmpB_lst]
theorem anti_sgS (a : ByteArray) : Anti sgS a := by
  intro b
  rw [sgS_lst, sgS_lst]
  exact anti_lst _ (fun x _ => anti_by (fun x : UInt8 => (x.toNat : Int)) (anti_sgI _)) _
theorem tr_sgS (a : ByteArray) : Tr3 sgS a := by
  intro b d
  rw [sgS_lst, sgS_lst, sgS_lst]
  exact tr_lst _ (fun x _ => tr_by (fun x : UInt8 => (x.toNat : Int)) (tr_sgI _)) _ _

theorem sgI_succ (a b : Nat) : sgI ((a + 1 : Nat) : Int) ((b + 1 : Nat) : Int) = sgI a b := by
  unfold sgI
  repeat' split
  all_goals omega
theorem ordL_lst : ∀ l m : List Tm, orI (ordL l m) (sgI l.length m.length) = cLst ordT l m
  | [], [] => rfl
  | [], _ :: _ => by simp [ordL, cLst, orI, sgI] <;> omega
  | _ :: _, [] => by simp [ordL, cLst, orI, sgI] <;> omega
  | x :: l, y :: m => by
    rw [ordL, cLst, ← ordL_lst l m, orI_assoc]
    simp only [List.length_cons]
    rw [sgI_succ]
theorem ordT_lex (a b : Tm) : ordT a b = orI (sgI a.k b.k) (orI (sgI a.n b.n) (orI (sgS a.s b.s) (cLst ordT a.kids b.kids))) := by
  cases a; cases b
  rw [ordT, orI_assoc, orI_assoc, orI_assoc, ordL_lst]
theorem anti_ord (a : Tm) : Anti ordT a := by
  induction a using Tm.ind with
  | h k n s l ih =>
    intro b
    have h4 := anti_lst l ih
    have key := anti_or (c1 := fun x y : Tm => sgI x.k y.k) (anti_by (a := Tm.mk k n s l) Tm.k (anti_sgI k)) (anti_or (c1 := fun x y : Tm => sgI x.n y.n) (anti_by (a := Tm.mk k n s l) Tm.n (anti_sgI n)) (anti_or (c1 := fun x y : Tm => sgS x.s y.s) (anti_by (a := Tm.mk k n s l) Tm.s (anti_sgS s)) (anti_by (a := Tm.mk k n s l) Tm.kids h4))) b
    rw [ordT_lex, ordT_lex (.mk k n s l)]
    exact key
theorem tr_ord (a : Tm) : Tr3 ordT a := by
  induction a using Tm.ind with
  | h k n s l ih =>
    intro b d
    have h4 := tr_lst l ih
    have key := tr_or (c1 := fun x y : Tm => sgI x.k y.k) (tr_by (a := Tm.mk k n s l) Tm.k (tr_sgI k)) (tr_or (c1 := fun x y : Tm => sgI x.n y.n) (tr_by (a := Tm.mk k n s l) Tm.n (tr_sgI n)) (tr_or (c1 := fun x y : Tm => sgS x.s y.s) (tr_by (a := Tm.mk k n s l) Tm.s (tr_sgS s)) (tr_by (a := Tm.mk k n s l) Tm.kids h4))) b d
    rw [ordT_lex (.mk k n s l) b, ordT_lex b d, ordT_lex (.mk k n s l) d]
    exact key

theorem ord_anti (a b : Tm) : ordT b a = - ordT a b := anti_ord a b
theorem ord_trans {a b c : Tm} (h1 : ordT a b < 0) (h2 : ordT b c < 0) : ordT a c < 0 := (tr_ord a b c (by omega) (by omega)).2 (.inl h1)
theorem ord_irr (a : Tm) : ordT a a = 0 := ordT_self a
end Go.Proofs.Ytmnmhehddbemkaa
namespace Go.Proofs.Ytmnmhehddbemkaa
open Go Go.Eng
set_option maxRecDepth 100000

abbrev own33 (t : Tm) : SO := .cells 33 [I t.k, I t.n, .str t.s, .lst 4 (rowsT t.kids)]

theorem size_fn (t : Tm) (h : Sm t) (hs : szT t ≤ 1000000) : Gives Try.prog 43 [t.sv] (I (szT t)) := by
  refine contract_of ty_ok [0, 1, 2, 3, 4, 5, 6, 7] Try.func43 rfl (by decide) Try.ntmps43 rfl fun z => ?_
  refine run 400 rfl ?_
  refine at_metF 1 (eachZ_fn t 0 h (by omega)) rfl rfl rfl ?_
  refine run 400 rfl ?_
  exact at_ret rfl rfl [] ⟨by rw [Nat.zero_add], rfl, rfl⟩ trivial
theorem has_fn (t x : Tm) (h : Sm t) : Gives Try.prog 49 [t.sv, x.sv] (.bl (hasT x t)) := by
  cases hb : hasT x t with
  | true =>
    refine Gives.le (a := .tt) ?_ (SVle.tt rfl)
    refine contract_of ty_ok [0, 1, 2, 3, 4, 5, 6, 7] Try.func49 rfl (by decide) Try.ntmps49 rfl fun z => ?_
    refine run 400 rfl ?_
    refine at_met 1 (eachH_fn t x h) rfl rfl (fun _ => rfl) ?_
    intro b hb2
    rw [hb] at hb2
    subst hb2
    refine run 400 rfl ?_
    exact at_ret rfl rfl [] ⟨rfl, rfl, rfl⟩ trivial
  | false =>
    refine Gives.le (a := .ff) ?_ (SVle.ff rfl)
    refine contract_of ty_ok [0, 1, 2, 3, 4, 5, 6, 7] Try.func49 rfl (by decide) Try.ntmps49 rfl fun z => ?_
    refine run 400 rfl ?_
    refine at_met 1 (eachH_fn t x h) rfl rfl (fun _ => rfl) ?_
    intro b hb2
    rw [hb] at hb2
    subst hb2
    refine run 400 rfl ?_
    exact at_ret rfl rfl [] ⟨rfl, rfl, rfl⟩ trivial

theorem rsize_fn : ∀ (t : Tm), Sm t → szT t ≤ 1000000 → Gives Try.prog 44 [t.sv] (I (szT t)) := by
  intro t
  induction t using Tm.ind with
  | h k n s l ih =>
    intro hsm hc
    have hL := hsm.ks
    have hlen0 : ((rowsT l).length : Int) = l.length := by rw [rowsT_len]
    refine contract_of ty_ok [0, 1, 2, 3, 4, 5, 6, 7] Try.func44 rfl (by decide) Try.ntmps44 rfl fun z => ?_
    refine run 400 rfl ?_
    rw [szT] at hc ⊢
    refine at_loop (fun p : Nat × Nat => p.1 ≤ l.length ∧ p.2 + szL (l.drop p.1) = 1 + szL l) (fun p => [(1, .ptr 0 0), (3, I p.2), (4, I p.1)]) (fun _ => [(0, own33 (.mk k n s l))]) (fun p => l.length - p.1) [1, 2, 3, 4, 5, 6, 7]
      (0, 1) ⟨by dsimp only; omega, by dsimp only; rw [List.drop_zero]⟩ ⟨SVle.refl _, SVle.refl _, SVle.refl _, trivial⟩ ⟨rfl, trivial⟩ ?_
    rintro ⟨i, q⟩ ⟨a1, a2⟩
    dsimp only at a1 a2
    refine run 400 rfl ?_
    refine at_ifd rfl (fun g => ?_) (fun g => ?_)
    rotate_left
    · dsimp only at g
      rw [hlen0] at g
      have e : i = l.length := by omega
      subst e
      rw [List.drop_length, szL] at a2
      refine run 400 rfl ?_
      exact at_ret rfl rfl [] ⟨by rw [show q = 1 + szL l by omega], rfl, rfl⟩ trivial
    dsimp only at g
    rw [hlen0] at g
    have hlt : i < l.length := by omega
    have hget := rowsT_get hlt
    have hmem := getD_mem hlt
    rw [drop_getD hlt, szL] at a2
    generalize l.getD i .zero = u at hget hmem a2
    refine run 400 rfl ?_
    refine at_val (.rp (tr u) 0) (does_index ty_ok _ rfl rfl rfl (by omega) (show (rowsT l)[(i : Int).toNat]? = some (tr u) from hget) rfl) ?_
    refine run 400 rfl ?_
    refine at_fn (ih u hmem (hL.2 u hmem) (by omega)) rfl ?_
    refine run 400 rfl ?_
    exact at_again (i + 1, q + szT u) ⟨by dsimp only; omega, by dsimp only; omega⟩ (by dsimp only; omega) ⟨SVle.refl _, SVle.of_eq (by show I ((q : Int) + (szT u : Int)) = I ((q + szT u : Nat) : Int); rw [Int.natCast_add]), SVle.of_eq (by show I ((i : Int) + 1) = I ((i + 1 : Nat) : Int); rw [Int.natCast_add]; rfl), trivial⟩ ⟨rfl, trivial⟩

theorem rhas_fn (x : Tm) : ∀ (t : Tm), Sm t → Gives Try.prog 34 [t.sv, x.sv] (.bl (hasT x t)) := by
  intro t
  induction t using Tm.ind with
  | h k n s l ih =>
    intro hsm
    have hL := hsm.ks
    have hlen0 : ((rowsT l).length : Int) = l.length := by rw [rowsT_len]
    have hS := same_fn (.mk k n s l) x hsm
    rw [hasT]
    cases hb : same (.mk k n s l) x with
    | true =>
      rw [hb] at hS
      rw [Bool.true_or]
      refine Gives.le (a := .tt) ?_ (SVle.tt rfl)
      refine contract_of ty_ok [0, 1, 2, 3, 4, 5, 6, 7] Try.func34 rfl (by decide) Try.ntmps34 rfl fun z => ?_
      refine run 400 rfl ?_
      refine at_fn hS rfl ?_
      refine run 400 rfl ?_
      refine at_if rfl (fun _ => ?_) (fun q => by cases q)
      refine run 400 rfl ?_
      exact at_ret rfl rfl [] ⟨rfl, rfl, rfl⟩ trivial
    | false =>
      rw [hb] at hS
      rw [Bool.false_or]
      have key : ∀ b : Bool, hasL x l = b → Gives Try.prog 34 [(Tm.mk k n s l).sv, x.sv] (cond b .tt .ff) := by
        intro b hbb
        refine contract_of ty_ok [0, 1, 2, 3, 4, 5, 6, 7] Try.func34 rfl (by decide) Try.ntmps34 rfl fun z => ?_
        refine run 400 rfl ?_
        refine at_fn hS rfl ?_
        refine run 400 rfl ?_
        refine at_if rfl (fun q => by cases q) (fun _ => ?_)
        refine run 400 rfl ?_
        refine at_loop (fun i : Nat => i ≤ l.length ∧ hasL x (l.drop i) = b) (fun i => [(2, .ptr 0 0), (3, .ptr 1 0), (5, I i)]) (fun _ => [(0, own33 (.mk k n s l)), (1, own33 x)]) (fun i => l.length - i) [2, 3, 4, 5, 6, 7]
          0 ⟨by omega, by rw [List.drop_zero]; exact hbb⟩ ⟨SVle.refl _, SVle.refl _, SVle.refl _, trivial⟩ ⟨rfl, rfl, trivial⟩ ?_
        rintro i ⟨a1, a2⟩
        refine run 400 rfl ?_
        refine at_ifd rfl (fun g => ?_) (fun g => ?_)
        rotate_left
        · rw [hlen0] at g
          have e : i = l.length := by omega
          subst e
          rw [List.drop_length, hasL] at a2
          subst a2
          refine run 400 rfl ?_
          exact at_ret rfl rfl [] ⟨rfl, rfl, rfl⟩ trivial
        rw [hlen0] at g
        have hlt : i < l.length := by omega
        have hget := rowsT_get hlt
        have hmem := getD_mem hlt
        rw [drop_getD hlt, hasL] at a2
        generalize l.getD i .zero = u at hget hmem a2
        refine run 400 rfl ?_
        refine at_drawn 7 rfl rfl [(3, .val (.rp (tr u) 0)), (6, .sv (.bl (hasT x u)))] [20, 21, 22] rfl ⟨ih u hmem (hL.2 u hmem), does_index ty_ok _ rfl rfl rfl (by omega) (show (rowsT l)[(i : Int).toNat]? = some (tr u) from hget) rfl⟩ ?_
        refine run 400 rfl ?_
        refine at_if rfl (fun q => ?_) (fun q => ?_)
        · rw [q, Bool.true_or] at a2
          subst a2
          refine run 400 rfl ?_
          exact at_ret rfl rfl [] ⟨rfl, rfl, rfl⟩ trivial
        · rw [q, Bool.false_or] at a2
          refine run 400 rfl ?_
          exact at_again (i + 1) ⟨by omega, a2⟩ (by omega) ⟨SVle.refl _, SVle.refl _, SVle.of_eq (by show I ((i : Int) + 1) = I ((i + 1 : Nat) : Int); rw [Int.natCast_add]; rfl), trivial⟩ ⟨rfl, rfl, trivial⟩
      cases hbb : hasL x l with
      | true => exact (key true hbb).le (SVle.tt rfl)
      | false => exact (key false hbb).le (SVle.ff rfl)

/-- Terms in order, by the document. -/
def rsortF (l : List Tm) : List Tm := l.foldl addF []
theorem addF_len (L : List Tm) (t : Tm) : (addF L t).length ≤ L.length + 1 := by
  rcases (addF_P L t).2 with ⟨e, _⟩ | e
  · rw [e]; omega
  · omega
theorem addF_mem {L : List Tm} {t x : Tm} : x ∈ addF L t ↔ x ∈ L ∨ x = t := (addF_P L t).1 x
theorem rsort_fn (l : List Tm) (h : ∀ x ∈ l, Sm x) (hl : l.length ≤ 1000000) : Gives Try.prog 51 [.lst 4 (rowsT l)] (.lst 4 (rowsT (rsortF l))) := by
  have hlen : ((rowsT l).length : Int) = l.length := by rw [rowsT_len]
  refine contract_of ty_ok [0, 1, 2, 3, 4, 5, 6, 7] Try.func51 rfl (by decide) Try.ntmps51 rfl fun z => ?_
  refine run 400 rfl ?_
  refine at_loop (fun p : Nat × List Tm => p.1 ≤ l.length ∧ p.2.length ≤ p.1 ∧ (∀ x ∈ p.2, x ∈ l) ∧ (l.drop p.1).foldl addF p.2 = rsortF l) (fun p => [(0, .lst 4 (rowsT l)), (3, .lst 4 (rowsT p.2)), (4, I p.1)]) (fun _ => []) (fun p => l.length - p.1) [0, 1, 2, 3, 4, 5, 6, 7]
    (0, []) ⟨by dsimp only; omega, by simp, by simp, by rfl⟩ ⟨SVle.refl _, SVle.nils, SVle.refl _, trivial⟩ trivial ?_
  rintro ⟨i, q⟩ ⟨a1, a2, a3, a4⟩
  dsimp only at a1 a2 a3 a4
  refine run 400 rfl ?_
  refine at_ifd rfl (fun g => ?_) (fun g => ?_)
  rotate_left
  · dsimp only at g
    rw [hlen] at g
    have e : i = l.length := by omega
    subst e
    rw [List.drop_length] at a4
    have a4 : q = rsortF l := a4
    refine run 400 rfl ?_
    exact at_ret rfl rfl [] ⟨by rw [a4], rfl, rfl⟩ trivial
  dsimp only at g
  rw [hlen] at g
  have hlt : i < l.length := by omega
  have hget := rowsT_get hlt
  have hmem := getD_mem hlt
  rw [drop_getD hlt, List.foldl_cons] at a4
  generalize l.getD i .zero = u at hget hmem a4
  refine run 400 rfl ?_
  refine at_val (.rp (tr u) 0) (does_index ty_ok _ rfl rfl rfl (by omega) (show (rowsT l)[(i : Int).toNat]? = some (tr u) from hget) rfl) ?_
  refine run 400 rfl ?_
  refine at_fn (add_fn q u (fun x hx => h x (a3 x hx)) (by omega)) rfl ?_
  refine run 400 rfl ?_
  have hal := addF_len q u
  exact at_again (i + 1, addF q u) ⟨by dsimp only; omega, by dsimp only; omega, by
    intro x hx
    rcases addF_mem.1 hx with hx | hx
    · exact a3 x hx
    · subst hx; exact hmem, a4⟩ (by dsimp only; omega) ⟨SVle.refl _, SVle.refl _, SVle.of_eq (by show I ((i : Int) + 1) = I ((i + 1 : Nat) : Int); rw [Int.natCast_add]; rfl), trivial⟩ trivial
end Go.Proofs.Ytmnmhehddbemkaa
