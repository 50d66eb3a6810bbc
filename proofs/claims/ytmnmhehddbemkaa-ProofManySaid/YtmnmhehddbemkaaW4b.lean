import Derived.Test.YtmnmhehddbemkaaW4a
namespace Go.Proofs.Ytmnmhehddbemkaa
open Go Go.Eng

/-- Whether a node by itself is as it must be. -/
def rightF (t : Tm) : Bool := ((t.kids.length : Int) == kidsF t.k) && (seq t.s .empty || (t.k == 1 && decide ((t.s.size : Int) ≤ 1024))) && (t.n == 0 || (t.k == 2 && decide (0 < t.n) && decide (t.n ≤ 1073741824)))

set_option maxRecDepth 100000 in
theorem right_c1 (t : Tm) (hA : (((rowsT t.kids).length : Int) == kidsF t.k) = false) : Gives Try.prog 68 [t.sv] (.ff) := by
  refine contract_of ty_ok [0, 1, 2, 3, 4, 5, 6, 7] Try.func68 rfl (by decide) Try.ntmps68 rfl fun z => ?_
  refine run 400 rfl ?_
  refine at_drawn 7 rfl rfl [] [20, 21, 22] rfl trivial ?_
  refine run 400 rfl ?_
  refine at_drawn 39 rfl rfl [(5, .sv (I (kidsF t.k))), (7, .no)] [20, 21, 22] rfl ⟨hA, kids93_fn _⟩ ?_
  refine run 400 rfl ?_
  exact at_ret rfl rfl [] ⟨rfl, rfl, rfl⟩ trivial

set_option maxRecDepth 100000 in
theorem right_c2 (t : Tm) (hA : (((rowsT t.kids).length : Int) == kidsF t.k) = true) (hS : seq t.s .empty = false) (hK : (t.k == 1) = false) : Gives Try.prog 68 [t.sv] (.ff) := by
  refine contract_of ty_ok [0, 1, 2, 3, 4, 5, 6, 7] Try.func68 rfl (by decide) Try.ntmps68 rfl fun z => ?_
  refine run 400 rfl ?_
  refine at_drawn 7 rfl rfl [] [20, 21, 22] rfl trivial ?_
  refine run 400 rfl ?_
  refine at_drawn 39 rfl rfl [(5, .sv (I (kidsF t.k))), (7, .yes), (11, .no), (13, .no)] [20, 21, 22] rfl ⟨hK, hS, hA, kids93_fn _⟩ ?_
  refine run 400 rfl ?_
  exact at_ret rfl rfl [] ⟨rfl, rfl, rfl⟩ trivial

set_option maxRecDepth 100000 in
theorem right_c3 (t : Tm) (hA : (((rowsT t.kids).length : Int) == kidsF t.k) = true) (hS : seq t.s .empty = false) (hK : (t.k == 1) = true) (hB : decide ((t.s.size : Int) ≤ 1024) = false) : Gives Try.prog 68 [t.sv] (.ff) := by
  refine contract_of ty_ok [0, 1, 2, 3, 4, 5, 6, 7] Try.func68 rfl (by decide) Try.ntmps68 rfl fun z => ?_
  refine run 400 rfl ?_
  refine at_drawn 7 rfl rfl [] [20, 21, 22] rfl trivial ?_
  refine run 400 rfl ?_
  refine at_drawn 39 rfl rfl [(5, .sv (I (kidsF t.k))), (7, .yes), (11, .no), (13, .yes), (21, .no)] [20, 21, 22] rfl ⟨hB, hK, hS, hA, kids93_fn _⟩ ?_
  refine run 400 rfl ?_
  exact at_ret rfl rfl [] ⟨rfl, rfl, rfl⟩ trivial

set_option maxRecDepth 100000 in
theorem right_d1 (t : Tm) (hA : (((rowsT t.kids).length : Int) == kidsF t.k) = true) (hS : seq t.s .empty = true) (hN0 : (t.n == 0) = true) : Gives Try.prog 68 [t.sv] (.tt) := by
  refine contract_of ty_ok [0, 1, 2, 3, 4, 5, 6, 7] Try.func68 rfl (by decide) Try.ntmps68 rfl fun z => ?_
  refine run 400 rfl ?_
  refine at_drawn 7 rfl rfl [] [20, 21, 22] rfl trivial ?_
  refine run 400 rfl ?_
  refine at_drawn 39 rfl rfl [(5, .sv (I (kidsF t.k))), (7, .yes), (11, .yes), (25, .yes)] [20, 21, 22] rfl ⟨hN0, hS, hA, kids93_fn _⟩ ?_
  refine run 400 rfl ?_
  exact at_ret rfl rfl [] ⟨rfl, rfl, rfl⟩ trivial

set_option maxRecDepth 100000 in
theorem right_d2 (t : Tm) (hA : (((rowsT t.kids).length : Int) == kidsF t.k) = true) (hS : seq t.s .empty = true) (hN0 : (t.n == 0) = false) (hNO : (t.k == 2) = false) : Gives Try.prog 68 [t.sv] (.ff) := by
  refine contract_of ty_ok [0, 1, 2, 3, 4, 5, 6, 7] Try.func68 rfl (by decide) Try.ntmps68 rfl fun z => ?_
  refine run 400 rfl ?_
  refine at_drawn 7 rfl rfl [] [20, 21, 22] rfl trivial ?_
  refine run 400 rfl ?_
  refine at_drawn 39 rfl rfl [(5, .sv (I (kidsF t.k))), (7, .yes), (11, .yes), (25, .no), (27, .no)] [20, 21, 22] rfl ⟨hNO, hN0, hS, hA, kids93_fn _⟩ ?_
  refine run 400 rfl ?_
  exact at_ret rfl rfl [] ⟨rfl, rfl, rfl⟩ trivial

set_option maxRecDepth 100000 in
theorem right_d3 (t : Tm) (hA : (((rowsT t.kids).length : Int) == kidsF t.k) = true) (hS : seq t.s .empty = true) (hN0 : (t.n == 0) = false) (hNO : (t.k == 2) = true) (hPO : decide (0 < t.n) = false) : Gives Try.prog 68 [t.sv] (.ff) := by
  refine contract_of ty_ok [0, 1, 2, 3, 4, 5, 6, 7] Try.func68 rfl (by decide) Try.ntmps68 rfl fun z => ?_
  refine run 400 rfl ?_
  refine at_drawn 7 rfl rfl [] [20, 21, 22] rfl trivial ?_
  refine run 400 rfl ?_
  refine at_drawn 39 rfl rfl [(5, .sv (I (kidsF t.k))), (7, .yes), (11, .yes), (25, .no), (27, .yes), (32, .no)] [20, 21, 22] rfl ⟨hPO, hNO, hN0, hS, hA, kids93_fn _⟩ ?_
  refine run 400 rfl ?_
  exact at_ret rfl rfl [] ⟨rfl, rfl, rfl⟩ trivial

set_option maxRecDepth 100000 in
theorem right_d4 (t : Tm) (hA : (((rowsT t.kids).length : Int) == kidsF t.k) = true) (hS : seq t.s .empty = true) (hN0 : (t.n == 0) = false) (hNO : (t.k == 2) = true) (hPO : decide (0 < t.n) = true) : Gives Try.prog 68 [t.sv] (.bl (decide (t.n ≤ 1073741824))) := by
  refine contract_of ty_ok [0, 1, 2, 3, 4, 5, 6, 7] Try.func68 rfl (by decide) Try.ntmps68 rfl fun z => ?_
  refine run 400 rfl ?_
  refine at_drawn 7 rfl rfl [] [20, 21, 22] rfl trivial ?_
  refine run 400 rfl ?_
  refine at_drawn 39 rfl rfl [(5, .sv (I (kidsF t.k))), (7, .yes), (11, .yes), (25, .no), (27, .yes), (32, .yes)] [20, 21, 22] rfl ⟨hPO, hNO, hN0, hS, hA, kids93_fn _⟩ ?_
  refine run 400 rfl ?_
  exact at_ret rfl rfl [] ⟨rfl, rfl, rfl⟩ trivial

set_option maxRecDepth 100000 in
theorem right_e1 (t : Tm) (hA : (((rowsT t.kids).length : Int) == kidsF t.k) = true) (hS : seq t.s .empty = false) (hK : (t.k == 1) = true) (hB : decide ((t.s.size : Int) ≤ 1024) = true) (hN0 : (t.n == 0) = true) : Gives Try.prog 68 [t.sv] (.tt) := by
  refine contract_of ty_ok [0, 1, 2, 3, 4, 5, 6, 7] Try.func68 rfl (by decide) Try.ntmps68 rfl fun z => ?_
  refine run 400 rfl ?_
  refine at_drawn 7 rfl rfl [] [20, 21, 22] rfl trivial ?_
  refine run 400 rfl ?_
  refine at_drawn 39 rfl rfl [(5, .sv (I (kidsF t.k))), (7, .yes), (11, .no), (13, .yes), (21, .yes), (25, .yes)] [20, 21, 22] rfl ⟨hN0, hB, hK, hS, hA, kids93_fn _⟩ ?_
  refine run 400 rfl ?_
  exact at_ret rfl rfl [] ⟨rfl, rfl, rfl⟩ trivial

set_option maxRecDepth 100000 in
theorem right_e2 (t : Tm) (hA : (((rowsT t.kids).length : Int) == kidsF t.k) = true) (hS : seq t.s .empty = false) (hK : (t.k == 1) = true) (hB : decide ((t.s.size : Int) ≤ 1024) = true) (hN0 : (t.n == 0) = false) (hNO : (t.k == 2) = false) : Gives Try.prog 68 [t.sv] (.ff) := by
  refine contract_of ty_ok [0, 1, 2, 3, 4, 5, 6, 7] Try.func68 rfl (by decide) Try.ntmps68 rfl fun z => ?_
  refine run 400 rfl ?_
  refine at_drawn 7 rfl rfl [] [20, 21, 22] rfl trivial ?_
  refine run 400 rfl ?_
  refine at_drawn 39 rfl rfl [(5, .sv (I (kidsF t.k))), (7, .yes), (11, .no), (13, .yes), (21, .yes), (25, .no), (27, .no)] [20, 21, 22] rfl ⟨hNO, hN0, hB, hK, hS, hA, kids93_fn _⟩ ?_
  refine run 400 rfl ?_
  exact at_ret rfl rfl [] ⟨rfl, rfl, rfl⟩ trivial

set_option maxRecDepth 100000 in
theorem right_e3 (t : Tm) (hA : (((rowsT t.kids).length : Int) == kidsF t.k) = true) (hS : seq t.s .empty = false) (hK : (t.k == 1) = true) (hB : decide ((t.s.size : Int) ≤ 1024) = true) (hN0 : (t.n == 0) = false) (hNO : (t.k == 2) = true) (hPO : decide (0 < t.n) = false) : Gives Try.prog 68 [t.sv] (.ff) := by
  refine contract_of ty_ok [0, 1, 2, 3, 4, 5, 6, 7] Try.func68 rfl (by decide) Try.ntmps68 rfl fun z => ?_
  refine run 400 rfl ?_
  refine at_drawn 7 rfl rfl [] [20, 21, 22] rfl trivial ?_
  refine run 400 rfl ?_
  refine at_drawn 39 rfl rfl [(5, .sv (I (kidsF t.k))), (7, .yes), (11, .no), (13, .yes), (21, .yes), (25, .no), (27, .yes), (32, .no)] [20, 21, 22] rfl ⟨hPO, hNO, hN0, hB, hK, hS, hA, kids93_fn _⟩ ?_
  refine run 400 rfl ?_
  exact at_ret rfl rfl [] ⟨rfl, rfl, rfl⟩ trivial

set_option maxRecDepth 100000 in
theorem right_e4 (t : Tm) (hA : (((rowsT t.kids).length : Int) == kidsF t.k) = true) (hS : seq t.s .empty = false) (hK : (t.k == 1) = true) (hB : decide ((t.s.size : Int) ≤ 1024) = true) (hN0 : (t.n == 0) = false) (hNO : (t.k == 2) = true) (hPO : decide (0 < t.n) = true) : Gives Try.prog 68 [t.sv] (.bl (decide (t.n ≤ 1073741824))) := by
  refine contract_of ty_ok [0, 1, 2, 3, 4, 5, 6, 7] Try.func68 rfl (by decide) Try.ntmps68 rfl fun z => ?_
  refine run 400 rfl ?_
  refine at_drawn 7 rfl rfl [] [20, 21, 22] rfl trivial ?_
  refine run 400 rfl ?_
  refine at_drawn 39 rfl rfl [(5, .sv (I (kidsF t.k))), (7, .yes), (11, .no), (13, .yes), (21, .yes), (25, .no), (27, .yes), (32, .yes)] [20, 21, 22] rfl ⟨hPO, hNO, hN0, hB, hK, hS, hA, kids93_fn _⟩ ?_
  refine run 400 rfl ?_
  exact at_ret rfl rfl [] ⟨rfl, rfl, rfl⟩ trivial

theorem right_fn (t : Tm) : Gives Try.prog 68 [t.sv] (.bl (rightF t)) := by
  have e0 : ((t.kids.length : Int) == kidsF t.k) = (((rowsT t.kids).length : Int) == kidsF t.k) := by rw [rowsT_len]
  unfold rightF
  rw [e0]
  cases hA : (((rowsT t.kids).length : Int) == kidsF t.k) with
  | false => exact (right_c1 t hA).le (SVle.ff (by simp))
  | true =>
    cases hS : seq t.s .empty with
    | true =>
      cases hN0 : (t.n == 0) with
      | true => exact (right_d1 t hA hS hN0).le (SVle.tt (by simp))
      | false =>
        cases hNO : (t.k == 2) with
        | false => exact (right_d2 t hA hS hN0 hNO).le (SVle.ff (by simp))
        | true =>
          cases hPO : decide (0 < t.n) with
          | false => exact (right_d3 t hA hS hN0 hNO hPO).le (SVle.ff (by simp))
          | true => exact (right_d4 t hA hS hN0 hNO hPO).le (SVle.of_eq (by simp))
    | false =>
      cases hK : (t.k == 1) with
      | false => exact (right_c2 t hA hS hK).le (SVle.ff (by simp))
      | true =>
        cases hB : decide ((t.s.size : Int) ≤ 1024) with
        | false => exact (right_c3 t hA hS hK hB).le (SVle.ff (by simp))
        | true =>
          cases hN0 : (t.n == 0) with
          | true => exact (right_e1 t hA hS hK hB hN0).le (SVle.tt (by simp))
          | false =>
            cases hNO : (t.k == 2) with
            | false => exact (right_e2 t hA hS hK hB hN0 hNO).le (SVle.ff (by simp))
            | true =>
              cases hPO : decide (0 < t.n) with
              | false => exact (right_e3 t hA hS hK hB hN0 hNO hPO).le (SVle.ff (by simp))
              | true => exact (right_e4 t hA hS hK hB hN0 hNO hPO).le (SVle.of_eq (by simp))

end Go.Proofs.Ytmnmhehddbemkaa
