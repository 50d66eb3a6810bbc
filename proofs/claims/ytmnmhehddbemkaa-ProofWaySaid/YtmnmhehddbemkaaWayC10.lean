/- The texts W4z, W5a, R1, R2, W6h, W6i, W6j, W7d, W8b, W8c, one behind the other: an executor over the translated code, contracts of functions, and their laws. -/

import Derived.Test.YtmnmhehddbemkaaWayC9
namespace Go.Proofs.Ytmnmhehddbemkaa
open Go Go.Eng
set_option maxRecDepth 100000

theorem one_bad (l res : List Tm) (c r : Nat) (m : Mv) (h : m.k < 1 ∨ 10 < m.k) : Contract Try.prog 60 2 (rsO l res c r) [.ptr 0 0, m.sv] fun s post => s = .tup [zSV, I 2] ∧ post = rsO l res c r := by
  refine contract_of ty_ok [3, 4, 5, 6, 7] Try.func60 rfl (by decide) Try.ntmps60 rfl fun z => ?_
  refine run 400 rfl ?_
  refine at_split 15 rfl (fun q => ?_) (fun q => ?_)
  · refine run 400 rfl ?_
    exact at_ret rfl rfl (rsO l res c r) ⟨rfl, rfl⟩ ⟨rfl, rfl, trivial⟩
  · refine run 400 rfl ?_
    refine at_ifd rfl (fun q2 => ?_) (fun q2 => ?_)
    · refine run 400 rfl ?_
      exact at_ret rfl rfl (rsO l res c r) ⟨rfl, rfl⟩ ⟨rfl, rfl, trivial⟩
    · exfalso
      simp at q
      omega
theorem one_known (l res : List Tm) (c r : Nat) (m : Mv) (hk : m.k = 1) (h : inF m.a l.length = true) : Contract Try.prog 60 2 (rsO l res c r) [.ptr 0 0, m.sv] fun s post => s = .tup [(l.getD m.a.toNat .zero).sv, I 0] ∧ post = rsO l res c r := by
  have hl := rowsT_len l
  have hn := inF_lt h
  have hget := rowsT_get (l := l) (n := m.a.toNat) (by omega)
  generalize l.getD m.a.toNat .zero = u at hget
  refine contract_of ty_ok [3, 4, 5, 6, 7] Try.func60 rfl (by decide) Try.ntmps60 rfl fun z => ?_
  refine run 400 rfl ?_
  refine at_false 15 rfl (by rw [hk]; rfl) ?_
  refine run 400 rfl ?_
  refine at_ifd rfl (fun q2 => by omega) (fun _ => ?_)
  refine run 400 rfl ?_
  refine at_drawn 19 rfl rfl [(2, .yes), (6, .no)] [20, 21, 22] rfl ⟨by simp; omega, by rw [hk]; rfl⟩ ?_
  refine run 400 rfl ?_
  refine at_ifd rfl (fun q2 => by omega) (fun _ => ?_)
  refine run 400 rfl ?_
  refine at_if rfl (fun _ => ?_) (fun q2 => by rw [hk] at q2; cases q2)
  refine run 400 rfl ?_
  refine at_drawn 8 rfl rfl [(6, .val (.rp (tr u) 0))] [20, 21, 22] rfl (by exact does_index ty_ok _ rfl rfl rfl (by omega) (show (rowsT l)[m.a.toNat]? = some (tr u) from hget) rfl) ?_
  refine run 400 rfl ?_
  exact at_ret rfl rfl (rsO l res c r) ⟨rfl, rfl⟩ ⟨rfl, rfl, trivial⟩
theorem one_known_no (l res : List Tm) (c r : Nat) (m : Mv) (hk : m.k = 1) (h : inF m.a l.length = false) : Contract Try.prog 60 2 (rsO l res c r) [.ptr 0 0, m.sv] fun s post => s = .tup [zSV, I 8] ∧ post = rsO l res c r := by
  have hl := rowsT_len l
  have hn : m.a < 0 ∨ (l.length : Int) ≤ m.a := by
    simp [inF] at h
    omega
  by_cases h0 : m.a < 0
  · refine contract_of ty_ok [3, 4, 5, 6, 7] Try.func60 rfl (by decide) Try.ntmps60 rfl fun z => ?_
    refine run 400 rfl ?_
    refine at_false 15 rfl (by rw [hk]; rfl) ?_
    refine run 400 rfl ?_
    refine at_ifd rfl (fun q2 => by omega) (fun _ => ?_)
    refine run 400 rfl ?_
    refine at_drawn 19 rfl rfl [(2, .yes), (6, .yes)] [20, 21, 22] rfl ⟨by simp; omega, by rw [hk]; rfl⟩ ?_
    refine run 400 rfl ?_
    exact at_ret rfl rfl (rsO l res c r) ⟨rfl, rfl⟩ ⟨rfl, rfl, trivial⟩
  · refine contract_of ty_ok [3, 4, 5, 6, 7] Try.func60 rfl (by decide) Try.ntmps60 rfl fun z => ?_
    refine run 400 rfl ?_
    refine at_false 15 rfl (by rw [hk]; rfl) ?_
    refine run 400 rfl ?_
    refine at_ifd rfl (fun q2 => by omega) (fun _ => ?_)
    refine run 400 rfl ?_
    refine at_drawn 19 rfl rfl [(2, .yes), (6, .no)] [20, 21, 22] rfl ⟨by simp; omega, by rw [hk]; rfl⟩ ?_
    refine run 400 rfl ?_
    refine at_ifd rfl (fun q2 => ?_) (fun _ => by omega)
    refine run 400 rfl ?_
    exact at_ret rfl rfl (rsO l res c r) ⟨rfl, rfl⟩ ⟨rfl, rfl, trivial⟩
theorem one_atom (l res : List Tm) (c r : Nat) (m : Mv) (hk : m.k = 2) : Contract Try.prog 60 2 (rsO l res c r) [.ptr 0 0, m.sv] fun s post => s = .tup [(Tm.mk 1 0 m.s []).sv, I 0] ∧ post = rsO l res c r := by
  refine contract_of ty_ok [3, 4, 5, 6, 7] Try.func60 rfl (by decide) Try.ntmps60 rfl fun z => ?_
  refine run 400 rfl ?_
  refine at_false 15 rfl (by rw [hk]; rfl) ?_
  refine run 400 rfl ?_
  refine at_ifd rfl (fun q2 => by omega) (fun _ => ?_)
  refine run 400 rfl ?_
  refine at_drawn 19 rfl rfl [(2, .no)] [20, 21, 22] rfl (by rw [hk]; rfl) ?_
  refine run 400 rfl ?_
  refine at_if rfl (fun q2 => by rw [hk] at q2; cases q2) (fun _ => ?_)
  refine run 400 rfl ?_
  refine at_if rfl (fun _ => ?_) (fun q2 => by rw [hk] at q2; cases q2)
  refine run 400 rfl ?_
  refine at_fn (A_fn m.s) rfl ?_
  refine run 400 rfl ?_
  exact at_ret rfl rfl (rsO l res c r) ⟨rfl, rfl⟩ ⟨rfl, rfl, trivial⟩
theorem one_left_no (l res : List Tm) (c r : Nat) (m : Mv) (hk : m.k = 3) (h : inF m.a res.length = false) : Contract Try.prog 60 2 (rsO l res c r) [.ptr 0 0, m.sv] fun s post => s = .tup [zSV, I 8] ∧ post = rsO l res c r := by
  have ha := at_no_fn l res c r m.a h
  by_cases hb : inF m.b res.length = true
  · refine contract_of ty_ok [3, 4, 5, 6, 7] Try.func60 rfl (by decide) Try.ntmps60 rfl fun z => ?_
    refine run 400 rfl ?_
    refine at_false 15 rfl (by rw [hk]; rfl) ?_
    refine run 400 rfl ?_
    refine at_ifd rfl (fun q2 => by omega) (fun _ => ?_)
    refine run 400 rfl ?_
    refine at_drawn 19 rfl rfl [(2, .no)] [20, 21, 22] rfl (by rw [hk]; rfl) ?_
    refine run 400 rfl ?_
    refine at_if rfl (fun q2 => by rw [hk] at q2; cases q2) (fun _ => ?_)
    refine run 400 rfl ?_
    refine at_if rfl (fun q2 => by rw [hk] at q2; cases q2) (fun _ => ?_)
    refine run 400 rfl ?_
    refine at_callF [0, 1] (ha) rfl ⟨rfl, rfl, trivial⟩ rfl rfl rfl ?_
    refine run 400 rfl ?_
    refine at_callF [0, 1] (at_yes_fn l res c r m.b hb) rfl ⟨rfl, rfl, trivial⟩ rfl rfl rfl ?_
    refine run 400 rfl ?_
    refine at_false 77 rfl (by rw [hk]; rfl) ?_
    refine run 400 rfl ?_
    refine at_false 82 rfl (by rw [hk]; rfl) ?_
    refine run 400 rfl ?_
    refine at_false 10 rfl (by rw [hk]; rfl) ?_
    refine run 400 rfl ?_
    exact at_ret rfl rfl (rsO l res c r) ⟨rfl, rfl⟩ ⟨rfl, rfl, trivial⟩
  · refine contract_of ty_ok [3, 4, 5, 6, 7] Try.func60 rfl (by decide) Try.ntmps60 rfl fun z => ?_
    refine run 400 rfl ?_
    refine at_false 15 rfl (by rw [hk]; rfl) ?_
    refine run 400 rfl ?_
    refine at_ifd rfl (fun q2 => by omega) (fun _ => ?_)
    refine run 400 rfl ?_
    refine at_drawn 19 rfl rfl [(2, .no)] [20, 21, 22] rfl (by rw [hk]; rfl) ?_
    refine run 400 rfl ?_
    refine at_if rfl (fun q2 => by rw [hk] at q2; cases q2) (fun _ => ?_)
    refine run 400 rfl ?_
    refine at_if rfl (fun q2 => by rw [hk] at q2; cases q2) (fun _ => ?_)
    refine run 400 rfl ?_
    refine at_callF [0, 1] (ha) rfl ⟨rfl, rfl, trivial⟩ rfl rfl rfl ?_
    refine run 400 rfl ?_
    refine at_callF [0, 1] (at_no_fn l res c r m.b (by simpa using hb)) rfl ⟨rfl, rfl, trivial⟩ rfl rfl rfl ?_
    refine run 400 rfl ?_
    refine at_false 77 rfl (by rw [hk]; rfl) ?_
    refine run 400 rfl ?_
    refine at_false 82 rfl (by rw [hk]; rfl) ?_
    refine run 400 rfl ?_
    refine at_false 10 rfl (by rw [hk]; rfl) ?_
    refine run 400 rfl ?_
    exact at_ret rfl rfl (rsO l res c r) ⟨rfl, rfl⟩ ⟨rfl, rfl, trivial⟩
theorem one_right_no (l res : List Tm) (c r : Nat) (m : Mv) (hk : m.k = 4) (h : inF m.a res.length = false) : Contract Try.prog 60 2 (rsO l res c r) [.ptr 0 0, m.sv] fun s post => s = .tup [zSV, I 8] ∧ post = rsO l res c r := by
  have ha := at_no_fn l res c r m.a h
  by_cases hb : inF m.b res.length = true
  · refine contract_of ty_ok [3, 4, 5, 6, 7] Try.func60 rfl (by decide) Try.ntmps60 rfl fun z => ?_
    refine run 400 rfl ?_
    refine at_false 15 rfl (by rw [hk]; rfl) ?_
    refine run 400 rfl ?_
    refine at_ifd rfl (fun q2 => by omega) (fun _ => ?_)
    refine run 400 rfl ?_
    refine at_drawn 19 rfl rfl [(2, .no)] [20, 21, 22] rfl (by rw [hk]; rfl) ?_
    refine run 400 rfl ?_
    refine at_if rfl (fun q2 => by rw [hk] at q2; cases q2) (fun _ => ?_)
    refine run 400 rfl ?_
    refine at_if rfl (fun q2 => by rw [hk] at q2; cases q2) (fun _ => ?_)
    refine run 400 rfl ?_
    refine at_callF [0, 1] (ha) rfl ⟨rfl, rfl, trivial⟩ rfl rfl rfl ?_
    refine run 400 rfl ?_
    refine at_callF [0, 1] (at_yes_fn l res c r m.b hb) rfl ⟨rfl, rfl, trivial⟩ rfl rfl rfl ?_
    refine run 400 rfl ?_
    refine at_false 77 rfl (by rw [hk]; rfl) ?_
    refine run 400 rfl ?_
    refine at_false 82 rfl (by rw [hk]; rfl) ?_
    refine run 400 rfl ?_
    refine at_false 10 rfl (by rw [hk]; rfl) ?_
    refine run 400 rfl ?_
    exact at_ret rfl rfl (rsO l res c r) ⟨rfl, rfl⟩ ⟨rfl, rfl, trivial⟩
  · refine contract_of ty_ok [3, 4, 5, 6, 7] Try.func60 rfl (by decide) Try.ntmps60 rfl fun z => ?_
    refine run 400 rfl ?_
    refine at_false 15 rfl (by rw [hk]; rfl) ?_
    refine run 400 rfl ?_
    refine at_ifd rfl (fun q2 => by omega) (fun _ => ?_)
    refine run 400 rfl ?_
    refine at_drawn 19 rfl rfl [(2, .no)] [20, 21, 22] rfl (by rw [hk]; rfl) ?_
    refine run 400 rfl ?_
    refine at_if rfl (fun q2 => by rw [hk] at q2; cases q2) (fun _ => ?_)
    refine run 400 rfl ?_
    refine at_if rfl (fun q2 => by rw [hk] at q2; cases q2) (fun _ => ?_)
    refine run 400 rfl ?_
    refine at_callF [0, 1] (ha) rfl ⟨rfl, rfl, trivial⟩ rfl rfl rfl ?_
    refine run 400 rfl ?_
    refine at_callF [0, 1] (at_no_fn l res c r m.b (by simpa using hb)) rfl ⟨rfl, rfl, trivial⟩ rfl rfl rfl ?_
    refine run 400 rfl ?_
    refine at_false 77 rfl (by rw [hk]; rfl) ?_
    refine run 400 rfl ?_
    refine at_false 82 rfl (by rw [hk]; rfl) ?_
    refine run 400 rfl ?_
    refine at_false 10 rfl (by rw [hk]; rfl) ?_
    refine run 400 rfl ?_
    exact at_ret rfl rfl (rsO l res c r) ⟨rfl, rfl⟩ ⟨rfl, rfl, trivial⟩
theorem one_open_no (l res : List Tm) (c r : Nat) (m : Mv) (hk : m.k = 5) (h : inF m.a res.length = false) : Contract Try.prog 60 2 (rsO l res c r) [.ptr 0 0, m.sv] fun s post => s = .tup [zSV, I 8] ∧ post = rsO l res c r := by
  have ha := at_no_fn l res c r m.a h
  by_cases hb : inF m.b res.length = true
  · refine contract_of ty_ok [3, 4, 5, 6, 7] Try.func60 rfl (by decide) Try.ntmps60 rfl fun z => ?_
    refine run 400 rfl ?_
    refine at_false 15 rfl (by rw [hk]; rfl) ?_
    refine run 400 rfl ?_
    refine at_ifd rfl (fun q2 => by omega) (fun _ => ?_)
    refine run 400 rfl ?_
    refine at_drawn 19 rfl rfl [(2, .no)] [20, 21, 22] rfl (by rw [hk]; rfl) ?_
    refine run 400 rfl ?_
    refine at_if rfl (fun q2 => by rw [hk] at q2; cases q2) (fun _ => ?_)
    refine run 400 rfl ?_
    refine at_if rfl (fun q2 => by rw [hk] at q2; cases q2) (fun _ => ?_)
    refine run 400 rfl ?_
    refine at_callF [0, 1] (ha) rfl ⟨rfl, rfl, trivial⟩ rfl rfl rfl ?_
    refine run 400 rfl ?_
    refine at_callF [0, 1] (at_yes_fn l res c r m.b hb) rfl ⟨rfl, rfl, trivial⟩ rfl rfl rfl ?_
    refine run 400 rfl ?_
    refine at_false 77 rfl (by rw [hk]; rfl) ?_
    refine run 400 rfl ?_
    refine at_false 82 rfl (by rw [hk]; rfl) ?_
    refine run 400 rfl ?_
    refine at_false 10 rfl (by rw [hk]; rfl) ?_
    refine run 400 rfl ?_
    exact at_ret rfl rfl (rsO l res c r) ⟨rfl, rfl⟩ ⟨rfl, rfl, trivial⟩
  · refine contract_of ty_ok [3, 4, 5, 6, 7] Try.func60 rfl (by decide) Try.ntmps60 rfl fun z => ?_
    refine run 400 rfl ?_
    refine at_false 15 rfl (by rw [hk]; rfl) ?_
    refine run 400 rfl ?_
    refine at_ifd rfl (fun q2 => by omega) (fun _ => ?_)
    refine run 400 rfl ?_
    refine at_drawn 19 rfl rfl [(2, .no)] [20, 21, 22] rfl (by rw [hk]; rfl) ?_
    refine run 400 rfl ?_
    refine at_if rfl (fun q2 => by rw [hk] at q2; cases q2) (fun _ => ?_)
    refine run 400 rfl ?_
    refine at_if rfl (fun q2 => by rw [hk] at q2; cases q2) (fun _ => ?_)
    refine run 400 rfl ?_
    refine at_callF [0, 1] (ha) rfl ⟨rfl, rfl, trivial⟩ rfl rfl rfl ?_
    refine run 400 rfl ?_
    refine at_callF [0, 1] (at_no_fn l res c r m.b (by simpa using hb)) rfl ⟨rfl, rfl, trivial⟩ rfl rfl rfl ?_
    refine run 400 rfl ?_
    refine at_false 77 rfl (by rw [hk]; rfl) ?_
    refine run 400 rfl ?_
    refine at_false 82 rfl (by rw [hk]; rfl) ?_
    refine run 400 rfl ?_
    refine at_false 10 rfl (by rw [hk]; rfl) ?_
    refine run 400 rfl ?_
    exact at_ret rfl rfl (rsO l res c r) ⟨rfl, rfl⟩ ⟨rfl, rfl, trivial⟩
theorem one_hash_no (l res : List Tm) (c r : Nat) (m : Mv) (hk : m.k = 6) (h : inF m.a res.length = false) : Contract Try.prog 60 2 (rsO l res c r) [.ptr 0 0, m.sv] fun s post => s = .tup [zSV, I 8] ∧ post = rsO l res c r := by
  have ha := at_no_fn l res c r m.a h
  by_cases hb : inF m.b res.length = true
  · refine contract_of ty_ok [3, 4, 5, 6, 7] Try.func60 rfl (by decide) Try.ntmps60 rfl fun z => ?_
    refine run 400 rfl ?_
    refine at_false 15 rfl (by rw [hk]; rfl) ?_
    refine run 400 rfl ?_
    refine at_ifd rfl (fun q2 => by omega) (fun _ => ?_)
    refine run 400 rfl ?_
    refine at_drawn 19 rfl rfl [(2, .no)] [20, 21, 22] rfl (by rw [hk]; rfl) ?_
    refine run 400 rfl ?_
    refine at_if rfl (fun q2 => by rw [hk] at q2; cases q2) (fun _ => ?_)
    refine run 400 rfl ?_
    refine at_if rfl (fun q2 => by rw [hk] at q2; cases q2) (fun _ => ?_)
    refine run 400 rfl ?_
    refine at_callF [0, 1] (ha) rfl ⟨rfl, rfl, trivial⟩ rfl rfl rfl ?_
    refine run 400 rfl ?_
    refine at_callF [0, 1] (at_yes_fn l res c r m.b hb) rfl ⟨rfl, rfl, trivial⟩ rfl rfl rfl ?_
    refine run 400 rfl ?_
    refine at_false 77 rfl (by rw [hk]; rfl) ?_
    refine run 400 rfl ?_
    refine at_false 82 rfl (by rw [hk]; rfl) ?_
    refine run 400 rfl ?_
    refine at_false 10 rfl (by rw [hk]; rfl) ?_
    refine run 400 rfl ?_
    exact at_ret rfl rfl (rsO l res c r) ⟨rfl, rfl⟩ ⟨rfl, rfl, trivial⟩
  · refine contract_of ty_ok [3, 4, 5, 6, 7] Try.func60 rfl (by decide) Try.ntmps60 rfl fun z => ?_
    refine run 400 rfl ?_
    refine at_false 15 rfl (by rw [hk]; rfl) ?_
    refine run 400 rfl ?_
    refine at_ifd rfl (fun q2 => by omega) (fun _ => ?_)
    refine run 400 rfl ?_
    refine at_drawn 19 rfl rfl [(2, .no)] [20, 21, 22] rfl (by rw [hk]; rfl) ?_
    refine run 400 rfl ?_
    refine at_if rfl (fun q2 => by rw [hk] at q2; cases q2) (fun _ => ?_)
    refine run 400 rfl ?_
    refine at_if rfl (fun q2 => by rw [hk] at q2; cases q2) (fun _ => ?_)
    refine run 400 rfl ?_
    refine at_callF [0, 1] (ha) rfl ⟨rfl, rfl, trivial⟩ rfl rfl rfl ?_
    refine run 400 rfl ?_
    refine at_callF [0, 1] (at_no_fn l res c r m.b (by simpa using hb)) rfl ⟨rfl, rfl, trivial⟩ rfl rfl rfl ?_
    refine run 400 rfl ?_
    refine at_false 77 rfl (by rw [hk]; rfl) ?_
    refine run 400 rfl ?_
    refine at_false 82 rfl (by rw [hk]; rfl) ?_
    refine run 400 rfl ?_
    refine at_false 10 rfl (by rw [hk]; rfl) ?_
    refine run 400 rfl ?_
    exact at_ret rfl rfl (rsO l res c r) ⟨rfl, rfl⟩ ⟨rfl, rfl, trivial⟩
theorem one_pub_no (l res : List Tm) (c r : Nat) (m : Mv) (hk : m.k = 7) (h : inF m.a res.length = false) : Contract Try.prog 60 2 (rsO l res c r) [.ptr 0 0, m.sv] fun s post => s = .tup [zSV, I 8] ∧ post = rsO l res c r := by
  have ha := at_no_fn l res c r m.a h
  by_cases hb : inF m.b res.length = true
  · refine contract_of ty_ok [3, 4, 5, 6, 7] Try.func60 rfl (by decide) Try.ntmps60 rfl fun z => ?_
    refine run 400 rfl ?_
    refine at_false 15 rfl (by rw [hk]; rfl) ?_
    refine run 400 rfl ?_
    refine at_ifd rfl (fun q2 => by omega) (fun _ => ?_)
    refine run 400 rfl ?_
    refine at_drawn 19 rfl rfl [(2, .no)] [20, 21, 22] rfl (by rw [hk]; rfl) ?_
    refine run 400 rfl ?_
    refine at_if rfl (fun q2 => by rw [hk] at q2; cases q2) (fun _ => ?_)
    refine run 400 rfl ?_
    refine at_if rfl (fun q2 => by rw [hk] at q2; cases q2) (fun _ => ?_)
    refine run 400 rfl ?_
    refine at_callF [0, 1] (ha) rfl ⟨rfl, rfl, trivial⟩ rfl rfl rfl ?_
    refine run 400 rfl ?_
    refine at_callF [0, 1] (at_yes_fn l res c r m.b hb) rfl ⟨rfl, rfl, trivial⟩ rfl rfl rfl ?_
    refine run 400 rfl ?_
    refine at_false 77 rfl (by rw [hk]; rfl) ?_
    refine run 400 rfl ?_
    refine at_false 82 rfl (by rw [hk]; rfl) ?_
    refine run 400 rfl ?_
    refine at_false 10 rfl (by rw [hk]; rfl) ?_
    refine run 400 rfl ?_
    exact at_ret rfl rfl (rsO l res c r) ⟨rfl, rfl⟩ ⟨rfl, rfl, trivial⟩
  · refine contract_of ty_ok [3, 4, 5, 6, 7] Try.func60 rfl (by decide) Try.ntmps60 rfl fun z => ?_
    refine run 400 rfl ?_
    refine at_false 15 rfl (by rw [hk]; rfl) ?_
    refine run 400 rfl ?_
    refine at_ifd rfl (fun q2 => by omega) (fun _ => ?_)
    refine run 400 rfl ?_
    refine at_drawn 19 rfl rfl [(2, .no)] [20, 21, 22] rfl (by rw [hk]; rfl) ?_
    refine run 400 rfl ?_
    refine at_if rfl (fun q2 => by rw [hk] at q2; cases q2) (fun _ => ?_)
    refine run 400 rfl ?_
    refine at_if rfl (fun q2 => by rw [hk] at q2; cases q2) (fun _ => ?_)
    refine run 400 rfl ?_
    refine at_callF [0, 1] (ha) rfl ⟨rfl, rfl, trivial⟩ rfl rfl rfl ?_
    refine run 400 rfl ?_
    refine at_callF [0, 1] (at_no_fn l res c r m.b (by simpa using hb)) rfl ⟨rfl, rfl, trivial⟩ rfl rfl rfl ?_
    refine run 400 rfl ?_
    refine at_false 77 rfl (by rw [hk]; rfl) ?_
    refine run 400 rfl ?_
    refine at_false 82 rfl (by rw [hk]; rfl) ?_
    refine run 400 rfl ?_
    refine at_false 10 rfl (by rw [hk]; rfl) ?_
    refine run 400 rfl ?_
    exact at_ret rfl rfl (rsO l res c r) ⟨rfl, rfl⟩ ⟨rfl, rfl, trivial⟩
theorem T1_fn (k : Int) (u : Tm) : Gives Try.prog 35 [I k, .tl 4 [tr u]] (Tm.mk k 0 .empty [u]).sv := (T_fn k [u]).weak ⟨SVle.refl _, by rw [rowsT_cons, rowsT_nil]; exact SVle.tl _ _, trivial⟩
theorem T2_fn (k : Int) (u v : Tm) : Gives Try.prog 35 [I k, .tl 4 [tr u, tr v]] (Tm.mk k 0 .empty [u, v]).sv := (T_fn k [u, v]).weak ⟨SVle.refl _, by rw [rowsT_cons, rowsT_cons, rowsT_nil]; exact SVle.tl _ _, trivial⟩
theorem one_left_form (l res : List Tm) (c r : Nat) (m : Mv) (hk : m.k = 3) (h : inF m.a res.length = true) (hq : (res.getD m.a.toNat .zero).k ≠ 7) : Contract Try.prog 60 2 (rsO l res c r) [.ptr 0 0, m.sv] fun s post => s = .tup [zSV, I 3] ∧ post = rsO l res c r := by
  have ha := at_yes_fn l res c r m.a h
  generalize res.getD m.a.toNat .zero = u at ha hq
  by_cases hb : inF m.b res.length = true
  · refine contract_of ty_ok [3, 4, 5, 6, 7] Try.func60 rfl (by decide) Try.ntmps60 rfl fun z => ?_
    refine run 400 rfl ?_
    refine at_false 15 rfl (by rw [hk]; rfl) ?_
    refine run 400 rfl ?_
    refine at_ifd rfl (fun q2 => by omega) (fun _ => ?_)
    refine run 400 rfl ?_
    refine at_drawn 19 rfl rfl [(2, .no)] [20, 21, 22] rfl (by rw [hk]; rfl) ?_
    refine run 400 rfl ?_
    refine at_if rfl (fun q2 => by rw [hk] at q2; cases q2) (fun _ => ?_)
    refine run 400 rfl ?_
    refine at_if rfl (fun q2 => by rw [hk] at q2; cases q2) (fun _ => ?_)
    refine run 400 rfl ?_
    refine at_callF [0, 1] (ha) rfl ⟨rfl, rfl, trivial⟩ rfl rfl rfl ?_
    refine run 400 rfl ?_
    refine at_callF [0, 1] (at_yes_fn l res c r m.b hb) rfl ⟨rfl, rfl, trivial⟩ rfl rfl rfl ?_
    refine run 400 rfl ?_
    refine at_false 77 rfl (by rw [hk]; rfl) ?_
    refine run 400 rfl ?_
    refine at_false 82 rfl (by rw [hk]; rfl) ?_
    refine run 400 rfl ?_
    refine at_false 91 rfl (by rw [hk]; rfl) ?_
    refine run 400 rfl ?_
    refine at_if rfl (fun _ => ?_) (fun q2 => by rw [hk] at q2; cases q2)
    refine run 400 rfl ?_
    refine at_if rfl (fun _ => ?_) (fun q2 => by rw [hk] at q2; cases q2)
    refine run 400 rfl ?_
    refine at_if rfl (fun _ => ?_) (fun q2 => absurd (by simpa using q2) hq)
    refine run 400 rfl ?_
    exact at_ret rfl rfl (rsO l res c r) ⟨rfl, rfl⟩ ⟨rfl, rfl, trivial⟩
  · refine contract_of ty_ok [3, 4, 5, 6, 7] Try.func60 rfl (by decide) Try.ntmps60 rfl fun z => ?_
    refine run 400 rfl ?_
    refine at_false 15 rfl (by rw [hk]; rfl) ?_
    refine run 400 rfl ?_
    refine at_ifd rfl (fun q2 => by omega) (fun _ => ?_)
    refine run 400 rfl ?_
    refine at_drawn 19 rfl rfl [(2, .no)] [20, 21, 22] rfl (by rw [hk]; rfl) ?_
    refine run 400 rfl ?_
    refine at_if rfl (fun q2 => by rw [hk] at q2; cases q2) (fun _ => ?_)
    refine run 400 rfl ?_
    refine at_if rfl (fun q2 => by rw [hk] at q2; cases q2) (fun _ => ?_)
    refine run 400 rfl ?_
    refine at_callF [0, 1] (ha) rfl ⟨rfl, rfl, trivial⟩ rfl rfl rfl ?_
    refine run 400 rfl ?_
    refine at_callF [0, 1] (at_no_fn l res c r m.b (by simpa using hb)) rfl ⟨rfl, rfl, trivial⟩ rfl rfl rfl ?_
    refine run 400 rfl ?_
    refine at_false 77 rfl (by rw [hk]; rfl) ?_
    refine run 400 rfl ?_
    refine at_false 82 rfl (by rw [hk]; rfl) ?_
    refine run 400 rfl ?_
    refine at_false 91 rfl (by rw [hk]; rfl) ?_
    refine run 400 rfl ?_
    refine at_if rfl (fun _ => ?_) (fun q2 => by rw [hk] at q2; cases q2)
    refine run 400 rfl ?_
    refine at_if rfl (fun _ => ?_) (fun q2 => by rw [hk] at q2; cases q2)
    refine run 400 rfl ?_
    refine at_if rfl (fun _ => ?_) (fun q2 => absurd (by simpa using q2) hq)
    refine run 400 rfl ?_
    exact at_ret rfl rfl (rsO l res c r) ⟨rfl, rfl⟩ ⟨rfl, rfl, trivial⟩
theorem one_left (l res : List Tm) (c r : Nat) (m : Mv) (hk : m.k = 3) (h : inF m.a res.length = true) (hq : (res.getD m.a.toNat .zero).k = 7) (hn : 0 < (res.getD m.a.toNat .zero).kids.length) : Contract Try.prog 60 2 (rsO l res c r) [.ptr 0 0, m.sv] fun s post => s = .tup [((res.getD m.a.toNat .zero).kids.getD 0 .zero).sv, I 0] ∧ post = rsO l res c r := by
  have ha := at_yes_fn l res c r m.a h
  generalize res.getD m.a.toNat .zero = u at ha hq hn
  have hget := rowsT_get hn
  generalize u.kids.getD 0 .zero = v at hget
  by_cases hb : inF m.b res.length = true
  · refine contract_of ty_ok [3, 4, 5, 6, 7] Try.func60 rfl (by decide) Try.ntmps60 rfl fun z => ?_
    refine run 400 rfl ?_
    refine at_false 15 rfl (by rw [hk]; rfl) ?_
    refine run 400 rfl ?_
    refine at_ifd rfl (fun q2 => by omega) (fun _ => ?_)
    refine run 400 rfl ?_
    refine at_drawn 19 rfl rfl [(2, .no)] [20, 21, 22] rfl (by rw [hk]; rfl) ?_
    refine run 400 rfl ?_
    refine at_if rfl (fun q2 => by rw [hk] at q2; cases q2) (fun _ => ?_)
    refine run 400 rfl ?_
    refine at_if rfl (fun q2 => by rw [hk] at q2; cases q2) (fun _ => ?_)
    refine run 400 rfl ?_
    refine at_callF [0, 1] (ha) rfl ⟨rfl, rfl, trivial⟩ rfl rfl rfl ?_
    refine run 400 rfl ?_
    refine at_callF [0, 1] (at_yes_fn l res c r m.b hb) rfl ⟨rfl, rfl, trivial⟩ rfl rfl rfl ?_
    refine run 400 rfl ?_
    refine at_false 77 rfl (by rw [hk]; rfl) ?_
    refine run 400 rfl ?_
    refine at_false 82 rfl (by rw [hk]; rfl) ?_
    refine run 400 rfl ?_
    refine at_false 91 rfl (by rw [hk]; rfl) ?_
    refine run 400 rfl ?_
    refine at_if rfl (fun _ => ?_) (fun q2 => by rw [hk] at q2; cases q2)
    refine run 400 rfl ?_
    refine at_if rfl (fun _ => ?_) (fun q2 => by rw [hk] at q2; cases q2)
    refine run 400 rfl ?_
    refine at_if rfl (fun q2 => absurd hq (by simpa using q2)) (fun _ => ?_)
    refine run 400 rfl ?_
    refine at_val (.rp (tr v) 0) (does_index ty_ok _ rfl rfl rfl (by omega) (show (rowsT u.kids)[(m.k - 3).toNat]? = some (tr v) from by rw [hk]; exact hget) rfl) ?_
    refine run 400 rfl ?_
    exact at_ret rfl rfl (rsO l res c r) ⟨rfl, rfl⟩ ⟨rfl, rfl, trivial⟩
  · refine contract_of ty_ok [3, 4, 5, 6, 7] Try.func60 rfl (by decide) Try.ntmps60 rfl fun z => ?_
    refine run 400 rfl ?_
    refine at_false 15 rfl (by rw [hk]; rfl) ?_
    refine run 400 rfl ?_
    refine at_ifd rfl (fun q2 => by omega) (fun _ => ?_)
    refine run 400 rfl ?_
    refine at_drawn 19 rfl rfl [(2, .no)] [20, 21, 22] rfl (by rw [hk]; rfl) ?_
    refine run 400 rfl ?_
    refine at_if rfl (fun q2 => by rw [hk] at q2; cases q2) (fun _ => ?_)
    refine run 400 rfl ?_
    refine at_if rfl (fun q2 => by rw [hk] at q2; cases q2) (fun _ => ?_)
    refine run 400 rfl ?_
    refine at_callF [0, 1] (ha) rfl ⟨rfl, rfl, trivial⟩ rfl rfl rfl ?_
    refine run 400 rfl ?_
    refine at_callF [0, 1] (at_no_fn l res c r m.b (by simpa using hb)) rfl ⟨rfl, rfl, trivial⟩ rfl rfl rfl ?_
    refine run 400 rfl ?_
    refine at_false 77 rfl (by rw [hk]; rfl) ?_
    refine run 400 rfl ?_
    refine at_false 82 rfl (by rw [hk]; rfl) ?_
    refine run 400 rfl ?_
    refine at_false 91 rfl (by rw [hk]; rfl) ?_
    refine run 400 rfl ?_
    refine at_if rfl (fun _ => ?_) (fun q2 => by rw [hk] at q2; cases q2)
    refine run 400 rfl ?_
    refine at_if rfl (fun _ => ?_) (fun q2 => by rw [hk] at q2; cases q2)
    refine run 400 rfl ?_
    refine at_if rfl (fun q2 => absurd hq (by simpa using q2)) (fun _ => ?_)
    refine run 400 rfl ?_
    refine at_val (.rp (tr v) 0) (does_index ty_ok _ rfl rfl rfl (by omega) (show (rowsT u.kids)[(m.k - 3).toNat]? = some (tr v) from by rw [hk]; exact hget) rfl) ?_
    refine run 400 rfl ?_
    exact at_ret rfl rfl (rsO l res c r) ⟨rfl, rfl⟩ ⟨rfl, rfl, trivial⟩
theorem one_right_form (l res : List Tm) (c r : Nat) (m : Mv) (hk : m.k = 4) (h : inF m.a res.length = true) (hq : (res.getD m.a.toNat .zero).k ≠ 7) : Contract Try.prog 60 2 (rsO l res c r) [.ptr 0 0, m.sv] fun s post => s = .tup [zSV, I 3] ∧ post = rsO l res c r := by
  have ha := at_yes_fn l res c r m.a h
  generalize res.getD m.a.toNat .zero = u at ha hq
  by_cases hb : inF m.b res.length = true
  · refine contract_of ty_ok [3, 4, 5, 6, 7] Try.func60 rfl (by decide) Try.ntmps60 rfl fun z => ?_
    refine run 400 rfl ?_
    refine at_false 15 rfl (by rw [hk]; rfl) ?_
    refine run 400 rfl ?_
    refine at_ifd rfl (fun q2 => by omega) (fun _ => ?_)
    refine run 400 rfl ?_
    refine at_drawn 19 rfl rfl [(2, .no)] [20, 21, 22] rfl (by rw [hk]; rfl) ?_
    refine run 400 rfl ?_
    refine at_if rfl (fun q2 => by rw [hk] at q2; cases q2) (fun _ => ?_)
    refine run 400 rfl ?_
    refine at_if rfl (fun q2 => by rw [hk] at q2; cases q2) (fun _ => ?_)
    refine run 400 rfl ?_
    refine at_callF [0, 1] (ha) rfl ⟨rfl, rfl, trivial⟩ rfl rfl rfl ?_
    refine run 400 rfl ?_
    refine at_callF [0, 1] (at_yes_fn l res c r m.b hb) rfl ⟨rfl, rfl, trivial⟩ rfl rfl rfl ?_
    refine run 400 rfl ?_
    refine at_false 77 rfl (by rw [hk]; rfl) ?_
    refine run 400 rfl ?_
    refine at_false 82 rfl (by rw [hk]; rfl) ?_
    refine run 400 rfl ?_
    refine at_false 91 rfl (by rw [hk]; rfl) ?_
    refine run 400 rfl ?_
    refine at_if rfl (fun q2 => by rw [hk] at q2; cases q2) (fun _ => ?_)
    refine run 400 rfl ?_
    refine at_if rfl (fun _ => ?_) (fun q2 => by rw [hk] at q2; cases q2)
    refine run 400 rfl ?_
    refine at_if rfl (fun _ => ?_) (fun q2 => absurd (by simpa using q2) hq)
    refine run 400 rfl ?_
    exact at_ret rfl rfl (rsO l res c r) ⟨rfl, rfl⟩ ⟨rfl, rfl, trivial⟩
  · refine contract_of ty_ok [3, 4, 5, 6, 7] Try.func60 rfl (by decide) Try.ntmps60 rfl fun z => ?_
    refine run 400 rfl ?_
    refine at_false 15 rfl (by rw [hk]; rfl) ?_
    refine run 400 rfl ?_
    refine at_ifd rfl (fun q2 => by omega) (fun _ => ?_)
    refine run 400 rfl ?_
    refine at_drawn 19 rfl rfl [(2, .no)] [20, 21, 22] rfl (by rw [hk]; rfl) ?_
    refine run 400 rfl ?_
    refine at_if rfl (fun q2 => by rw [hk] at q2; cases q2) (fun _ => ?_)
    refine run 400 rfl ?_
    refine at_if rfl (fun q2 => by rw [hk] at q2; cases q2) (fun _ => ?_)
    refine run 400 rfl ?_
    refine at_callF [0, 1] (ha) rfl ⟨rfl, rfl, trivial⟩ rfl rfl rfl ?_
    refine run 400 rfl ?_
    refine at_callF [0, 1] (at_no_fn l res c r m.b (by simpa using hb)) rfl ⟨rfl, rfl, trivial⟩ rfl rfl rfl ?_
    refine run 400 rfl ?_
    refine at_false 77 rfl (by rw [hk]; rfl) ?_
    refine run 400 rfl ?_
    refine at_false 82 rfl (by rw [hk]; rfl) ?_
    refine run 400 rfl ?_
    refine at_false 91 rfl (by rw [hk]; rfl) ?_
    refine run 400 rfl ?_
    refine at_if rfl (fun q2 => by rw [hk] at q2; cases q2) (fun _ => ?_)
    refine run 400 rfl ?_
    refine at_if rfl (fun _ => ?_) (fun q2 => by rw [hk] at q2; cases q2)
    refine run 400 rfl ?_
    refine at_if rfl (fun _ => ?_) (fun q2 => absurd (by simpa using q2) hq)
    refine run 400 rfl ?_
    exact at_ret rfl rfl (rsO l res c r) ⟨rfl, rfl⟩ ⟨rfl, rfl, trivial⟩
theorem one_right (l res : List Tm) (c r : Nat) (m : Mv) (hk : m.k = 4) (h : inF m.a res.length = true) (hq : (res.getD m.a.toNat .zero).k = 7) (hn : 1 < (res.getD m.a.toNat .zero).kids.length) : Contract Try.prog 60 2 (rsO l res c r) [.ptr 0 0, m.sv] fun s post => s = .tup [((res.getD m.a.toNat .zero).kids.getD 1 .zero).sv, I 0] ∧ post = rsO l res c r := by
  have ha := at_yes_fn l res c r m.a h
  generalize res.getD m.a.toNat .zero = u at ha hq hn
  have hget := rowsT_get hn
  generalize u.kids.getD 1 .zero = v at hget
  by_cases hb : inF m.b res.length = true
  · refine contract_of ty_ok [3, 4, 5, 6, 7] Try.func60 rfl (by decide) Try.ntmps60 rfl fun z => ?_
    refine run 400 rfl ?_
    refine at_false 15 rfl (by rw [hk]; rfl) ?_
    refine run 400 rfl ?_
    refine at_ifd rfl (fun q2 => by omega) (fun _ => ?_)
    refine run 400 rfl ?_
    refine at_drawn 19 rfl rfl [(2, .no)] [20, 21, 22] rfl (by rw [hk]; rfl) ?_
    refine run 400 rfl ?_
    refine at_if rfl (fun q2 => by rw [hk] at q2; cases q2) (fun _ => ?_)
    refine run 400 rfl ?_
    refine at_if rfl (fun q2 => by rw [hk] at q2; cases q2) (fun _ => ?_)
    refine run 400 rfl ?_
    refine at_callF [0, 1] (ha) rfl ⟨rfl, rfl, trivial⟩ rfl rfl rfl ?_
    refine run 400 rfl ?_
    refine at_callF [0, 1] (at_yes_fn l res c r m.b hb) rfl ⟨rfl, rfl, trivial⟩ rfl rfl rfl ?_
    refine run 400 rfl ?_
    refine at_false 77 rfl (by rw [hk]; rfl) ?_
    refine run 400 rfl ?_
    refine at_false 82 rfl (by rw [hk]; rfl) ?_
    refine run 400 rfl ?_
    refine at_false 91 rfl (by rw [hk]; rfl) ?_
    refine run 400 rfl ?_
    refine at_if rfl (fun q2 => by rw [hk] at q2; cases q2) (fun _ => ?_)
    refine run 400 rfl ?_
    refine at_if rfl (fun _ => ?_) (fun q2 => by rw [hk] at q2; cases q2)
    refine run 400 rfl ?_
    refine at_if rfl (fun q2 => absurd hq (by simpa using q2)) (fun _ => ?_)
    refine run 400 rfl ?_
    refine at_val (.rp (tr v) 0) (does_index ty_ok _ rfl rfl rfl (by omega) (show (rowsT u.kids)[(m.k - 3).toNat]? = some (tr v) from by rw [hk]; exact hget) rfl) ?_
    refine run 400 rfl ?_
    exact at_ret rfl rfl (rsO l res c r) ⟨rfl, rfl⟩ ⟨rfl, rfl, trivial⟩
  · refine contract_of ty_ok [3, 4, 5, 6, 7] Try.func60 rfl (by decide) Try.ntmps60 rfl fun z => ?_
    refine run 400 rfl ?_
    refine at_false 15 rfl (by rw [hk]; rfl) ?_
    refine run 400 rfl ?_
    refine at_ifd rfl (fun q2 => by omega) (fun _ => ?_)
    refine run 400 rfl ?_
    refine at_drawn 19 rfl rfl [(2, .no)] [20, 21, 22] rfl (by rw [hk]; rfl) ?_
    refine run 400 rfl ?_
    refine at_if rfl (fun q2 => by rw [hk] at q2; cases q2) (fun _ => ?_)
    refine run 400 rfl ?_
    refine at_if rfl (fun q2 => by rw [hk] at q2; cases q2) (fun _ => ?_)
    refine run 400 rfl ?_
    refine at_callF [0, 1] (ha) rfl ⟨rfl, rfl, trivial⟩ rfl rfl rfl ?_
    refine run 400 rfl ?_
    refine at_callF [0, 1] (at_no_fn l res c r m.b (by simpa using hb)) rfl ⟨rfl, rfl, trivial⟩ rfl rfl rfl ?_
    refine run 400 rfl ?_
    refine at_false 77 rfl (by rw [hk]; rfl) ?_
    refine run 400 rfl ?_
    refine at_false 82 rfl (by rw [hk]; rfl) ?_
    refine run 400 rfl ?_
    refine at_false 91 rfl (by rw [hk]; rfl) ?_
    refine run 400 rfl ?_
    refine at_if rfl (fun q2 => by rw [hk] at q2; cases q2) (fun _ => ?_)
    refine run 400 rfl ?_
    refine at_if rfl (fun _ => ?_) (fun q2 => by rw [hk] at q2; cases q2)
    refine run 400 rfl ?_
    refine at_if rfl (fun q2 => absurd hq (by simpa using q2)) (fun _ => ?_)
    refine run 400 rfl ?_
    refine at_val (.rp (tr v) 0) (does_index ty_ok _ rfl rfl rfl (by omega) (show (rowsT u.kids)[(m.k - 3).toNat]? = some (tr v) from by rw [hk]; exact hget) rfl) ?_
    refine run 400 rfl ?_
    exact at_ret rfl rfl (rsO l res c r) ⟨rfl, rfl⟩ ⟨rfl, rfl, trivial⟩
theorem one_open_form (l res : List Tm) (c r : Nat) (m : Mv) (hk : m.k = 5) (h : inF m.a res.length = true) (hq : (res.getD m.a.toNat .zero).k ≠ 6) : Contract Try.prog 60 2 (rsO l res c r) [.ptr 0 0, m.sv] fun s post => s = .tup [zSV, I 3] ∧ post = rsO l res c r := by
  have ha := at_yes_fn l res c r m.a h
  generalize res.getD m.a.toNat .zero = u at ha hq
  by_cases hb : inF m.b res.length = true
  · refine contract_of ty_ok [3, 4, 5, 6, 7] Try.func60 rfl (by decide) Try.ntmps60 rfl fun z => ?_
    refine run 400 rfl ?_
    refine at_false 15 rfl (by rw [hk]; rfl) ?_
    refine run 400 rfl ?_
    refine at_ifd rfl (fun q2 => by omega) (fun _ => ?_)
    refine run 400 rfl ?_
    refine at_drawn 19 rfl rfl [(2, .no)] [20, 21, 22] rfl (by rw [hk]; rfl) ?_
    refine run 400 rfl ?_
    refine at_if rfl (fun q2 => by rw [hk] at q2; cases q2) (fun _ => ?_)
    refine run 400 rfl ?_
    refine at_if rfl (fun q2 => by rw [hk] at q2; cases q2) (fun _ => ?_)
    refine run 400 rfl ?_
    refine at_callF [0, 1] (ha) rfl ⟨rfl, rfl, trivial⟩ rfl rfl rfl ?_
    refine run 400 rfl ?_
    refine at_callF [0, 1] (at_yes_fn l res c r m.b hb) rfl ⟨rfl, rfl, trivial⟩ rfl rfl rfl ?_
    refine run 400 rfl ?_
    refine at_false 77 rfl (by rw [hk]; rfl) ?_
    refine run 400 rfl ?_
    refine at_false 82 rfl (by rw [hk]; rfl) ?_
    refine run 400 rfl ?_
    refine at_false 91 rfl (by rw [hk]; rfl) ?_
    refine run 400 rfl ?_
    refine at_if rfl (fun q2 => by rw [hk] at q2; cases q2) (fun _ => ?_)
    refine run 400 rfl ?_
    refine at_if rfl (fun q2 => by rw [hk] at q2; cases q2) (fun _ => ?_)
    refine run 400 rfl ?_
    refine at_if rfl (fun _ => ?_) (fun q2 => by rw [hk] at q2; cases q2)
    refine run 400 rfl ?_
    refine at_if rfl (fun _ => ?_) (fun q2 => absurd (by simpa using q2) hq)
    refine run 400 rfl ?_
    exact at_ret rfl rfl (rsO l res c r) ⟨rfl, rfl⟩ ⟨rfl, rfl, trivial⟩
  · refine contract_of ty_ok [3, 4, 5, 6, 7] Try.func60 rfl (by decide) Try.ntmps60 rfl fun z => ?_
    refine run 400 rfl ?_
    refine at_false 15 rfl (by rw [hk]; rfl) ?_
    refine run 400 rfl ?_
    refine at_ifd rfl (fun q2 => by omega) (fun _ => ?_)
    refine run 400 rfl ?_
    refine at_drawn 19 rfl rfl [(2, .no)] [20, 21, 22] rfl (by rw [hk]; rfl) ?_
    refine run 400 rfl ?_
    refine at_if rfl (fun q2 => by rw [hk] at q2; cases q2) (fun _ => ?_)
    refine run 400 rfl ?_
    refine at_if rfl (fun q2 => by rw [hk] at q2; cases q2) (fun _ => ?_)
    refine run 400 rfl ?_
    refine at_callF [0, 1] (ha) rfl ⟨rfl, rfl, trivial⟩ rfl rfl rfl ?_
    refine run 400 rfl ?_
    refine at_callF [0, 1] (at_no_fn l res c r m.b (by simpa using hb)) rfl ⟨rfl, rfl, trivial⟩ rfl rfl rfl ?_
    refine run 400 rfl ?_
    refine at_false 77 rfl (by rw [hk]; rfl) ?_
    refine run 400 rfl ?_
    refine at_false 82 rfl (by rw [hk]; rfl) ?_
    refine run 400 rfl ?_
    refine at_false 91 rfl (by rw [hk]; rfl) ?_
    refine run 400 rfl ?_
    refine at_if rfl (fun q2 => by rw [hk] at q2; cases q2) (fun _ => ?_)
    refine run 400 rfl ?_
    refine at_if rfl (fun q2 => by rw [hk] at q2; cases q2) (fun _ => ?_)
    refine run 400 rfl ?_
    refine at_if rfl (fun _ => ?_) (fun q2 => by rw [hk] at q2; cases q2)
    refine run 400 rfl ?_
    refine at_if rfl (fun _ => ?_) (fun q2 => absurd (by simpa using q2) hq)
    refine run 400 rfl ?_
    exact at_ret rfl rfl (rsO l res c r) ⟨rfl, rfl⟩ ⟨rfl, rfl, trivial⟩
theorem one_open (l res : List Tm) (c r : Nat) (m : Mv) (hk : m.k = 5) (h : inF m.a res.length = true) (hq : (res.getD m.a.toNat .zero).k = 6) (hn : 1 < (res.getD m.a.toNat .zero).kids.length) : Contract Try.prog 60 2 (rsO l res c r) [.ptr 0 0, m.sv] fun s post => s = .tup [((res.getD m.a.toNat .zero).kids.getD 1 .zero).sv, I 0] ∧ post = rsO l res c r := by
  have ha := at_yes_fn l res c r m.a h
  generalize res.getD m.a.toNat .zero = u at ha hq hn
  have hget := rowsT_get hn
  generalize u.kids.getD 1 .zero = v at hget
  by_cases hb : inF m.b res.length = true
  · refine contract_of ty_ok [3, 4, 5, 6, 7] Try.func60 rfl (by decide) Try.ntmps60 rfl fun z => ?_
    refine run 400 rfl ?_
    refine at_false 15 rfl (by rw [hk]; rfl) ?_
    refine run 400 rfl ?_
    refine at_ifd rfl (fun q2 => by omega) (fun _ => ?_)
    refine run 400 rfl ?_
    refine at_drawn 19 rfl rfl [(2, .no)] [20, 21, 22] rfl (by rw [hk]; rfl) ?_
    refine run 400 rfl ?_
    refine at_if rfl (fun q2 => by rw [hk] at q2; cases q2) (fun _ => ?_)
    refine run 400 rfl ?_
    refine at_if rfl (fun q2 => by rw [hk] at q2; cases q2) (fun _ => ?_)
    refine run 400 rfl ?_
    refine at_callF [0, 1] (ha) rfl ⟨rfl, rfl, trivial⟩ rfl rfl rfl ?_
    refine run 400 rfl ?_
    refine at_callF [0, 1] (at_yes_fn l res c r m.b hb) rfl ⟨rfl, rfl, trivial⟩ rfl rfl rfl ?_
    refine run 400 rfl ?_
    refine at_false 77 rfl (by rw [hk]; rfl) ?_
    refine run 400 rfl ?_
    refine at_false 82 rfl (by rw [hk]; rfl) ?_
    refine run 400 rfl ?_
    refine at_false 91 rfl (by rw [hk]; rfl) ?_
    refine run 400 rfl ?_
    refine at_if rfl (fun q2 => by rw [hk] at q2; cases q2) (fun _ => ?_)
    refine run 400 rfl ?_
    refine at_if rfl (fun q2 => by rw [hk] at q2; cases q2) (fun _ => ?_)
    refine run 400 rfl ?_
    refine at_if rfl (fun _ => ?_) (fun q2 => by rw [hk] at q2; cases q2)
    refine run 400 rfl ?_
    refine at_if rfl (fun q2 => absurd hq (by simpa using q2)) (fun _ => ?_)
    refine run 400 rfl ?_
    refine at_val (.rp (tr v) 0) (does_index ty_ok _ rfl rfl rfl (by omega) (show (rowsT u.kids)[(1 : Int).toNat]? = some (tr v) from hget) rfl) ?_
    refine run 400 rfl ?_
    exact at_ret rfl rfl (rsO l res c r) ⟨rfl, rfl⟩ ⟨rfl, rfl, trivial⟩
  · refine contract_of ty_ok [3, 4, 5, 6, 7] Try.func60 rfl (by decide) Try.ntmps60 rfl fun z => ?_
    refine run 400 rfl ?_
    refine at_false 15 rfl (by rw [hk]; rfl) ?_
    refine run 400 rfl ?_
    refine at_ifd rfl (fun q2 => by omega) (fun _ => ?_)
    refine run 400 rfl ?_
    refine at_drawn 19 rfl rfl [(2, .no)] [20, 21, 22] rfl (by rw [hk]; rfl) ?_
    refine run 400 rfl ?_
    refine at_if rfl (fun q2 => by rw [hk] at q2; cases q2) (fun _ => ?_)
    refine run 400 rfl ?_
    refine at_if rfl (fun q2 => by rw [hk] at q2; cases q2) (fun _ => ?_)
    refine run 400 rfl ?_
    refine at_callF [0, 1] (ha) rfl ⟨rfl, rfl, trivial⟩ rfl rfl rfl ?_
    refine run 400 rfl ?_
    refine at_callF [0, 1] (at_no_fn l res c r m.b (by simpa using hb)) rfl ⟨rfl, rfl, trivial⟩ rfl rfl rfl ?_
    refine run 400 rfl ?_
    refine at_false 77 rfl (by rw [hk]; rfl) ?_
    refine run 400 rfl ?_
    refine at_false 82 rfl (by rw [hk]; rfl) ?_
    refine run 400 rfl ?_
    refine at_false 91 rfl (by rw [hk]; rfl) ?_
    refine run 400 rfl ?_
    refine at_if rfl (fun q2 => by rw [hk] at q2; cases q2) (fun _ => ?_)
    refine run 400 rfl ?_
    refine at_if rfl (fun q2 => by rw [hk] at q2; cases q2) (fun _ => ?_)
    refine run 400 rfl ?_
    refine at_if rfl (fun _ => ?_) (fun q2 => by rw [hk] at q2; cases q2)
    refine run 400 rfl ?_
    refine at_if rfl (fun q2 => absurd hq (by simpa using q2)) (fun _ => ?_)
    refine run 400 rfl ?_
    refine at_val (.rp (tr v) 0) (does_index ty_ok _ rfl rfl rfl (by omega) (show (rowsT u.kids)[(1 : Int).toNat]? = some (tr v) from hget) rfl) ?_
    refine run 400 rfl ?_
    exact at_ret rfl rfl (rsO l res c r) ⟨rfl, rfl⟩ ⟨rfl, rfl, trivial⟩
theorem one_hash (l res : List Tm) (c r : Nat) (m : Mv) (hk : m.k = 6) (h : inF m.a res.length = true) : Contract Try.prog 60 2 (rsO l res c r) [.ptr 0 0, m.sv] fun s post => s = .tup [(Tm.mk 3 0 .empty [res.getD m.a.toNat .zero]).sv, I 0] ∧ post = rsO l res c r := by
  have ha := at_yes_fn l res c r m.a h
  generalize res.getD m.a.toNat .zero = u at ha
  by_cases hb : inF m.b res.length = true
  · refine contract_of ty_ok [3, 4, 5, 6, 7] Try.func60 rfl (by decide) Try.ntmps60 rfl fun z => ?_
    refine run 400 rfl ?_
    refine at_false 15 rfl (by rw [hk]; rfl) ?_
    refine run 400 rfl ?_
    refine at_ifd rfl (fun q2 => by omega) (fun _ => ?_)
    refine run 400 rfl ?_
    refine at_drawn 19 rfl rfl [(2, .no)] [20, 21, 22] rfl (by rw [hk]; rfl) ?_
    refine run 400 rfl ?_
    refine at_if rfl (fun q2 => by rw [hk] at q2; cases q2) (fun _ => ?_)
    refine run 400 rfl ?_
    refine at_if rfl (fun q2 => by rw [hk] at q2; cases q2) (fun _ => ?_)
    refine run 400 rfl ?_
    refine at_callF [0, 1] (ha) rfl ⟨rfl, rfl, trivial⟩ rfl rfl rfl ?_
    refine run 400 rfl ?_
    refine at_callF [0, 1] (at_yes_fn l res c r m.b hb) rfl ⟨rfl, rfl, trivial⟩ rfl rfl rfl ?_
    refine run 400 rfl ?_
    refine at_false 77 rfl (by rw [hk]; rfl) ?_
    refine run 400 rfl ?_
    refine at_false 82 rfl (by rw [hk]; rfl) ?_
    refine run 400 rfl ?_
    refine at_false 91 rfl (by rw [hk]; rfl) ?_
    refine run 400 rfl ?_
    refine at_if rfl (fun q2 => by rw [hk] at q2; cases q2) (fun _ => ?_)
    refine run 400 rfl ?_
    refine at_if rfl (fun q2 => by rw [hk] at q2; cases q2) (fun _ => ?_)
    refine run 400 rfl ?_
    refine at_if rfl (fun q2 => by rw [hk] at q2; cases q2) (fun _ => ?_)
    refine run 400 rfl ?_
    refine at_if rfl (fun _ => ?_) (fun q2 => by rw [hk] at q2; cases q2)
    refine run 400 rfl ?_
    refine at_gro (.tl 4 [tr u]) (doesG_build ty_ok _ rfl ⟨⟨rfl, rfl, _, rfl, SVles.refl _⟩, trivial⟩ rfl rfl (by decide)) ?_
    refine run 400 rfl ?_
    refine at_fn (T1_fn 3 u) rfl ?_
    refine run 400 rfl ?_
    exact at_ret rfl rfl (rsO l res c r) ⟨rfl, rfl⟩ ⟨rfl, rfl, trivial⟩
  · refine contract_of ty_ok [3, 4, 5, 6, 7] Try.func60 rfl (by decide) Try.ntmps60 rfl fun z => ?_
    refine run 400 rfl ?_
    refine at_false 15 rfl (by rw [hk]; rfl) ?_
    refine run 400 rfl ?_
    refine at_ifd rfl (fun q2 => by omega) (fun _ => ?_)
    refine run 400 rfl ?_
    refine at_drawn 19 rfl rfl [(2, .no)] [20, 21, 22] rfl (by rw [hk]; rfl) ?_
    refine run 400 rfl ?_
    refine at_if rfl (fun q2 => by rw [hk] at q2; cases q2) (fun _ => ?_)
    refine run 400 rfl ?_
    refine at_if rfl (fun q2 => by rw [hk] at q2; cases q2) (fun _ => ?_)
    refine run 400 rfl ?_
    refine at_callF [0, 1] (ha) rfl ⟨rfl, rfl, trivial⟩ rfl rfl rfl ?_
    refine run 400 rfl ?_
    refine at_callF [0, 1] (at_no_fn l res c r m.b (by simpa using hb)) rfl ⟨rfl, rfl, trivial⟩ rfl rfl rfl ?_
    refine run 400 rfl ?_
    refine at_false 77 rfl (by rw [hk]; rfl) ?_
    refine run 400 rfl ?_
    refine at_false 82 rfl (by rw [hk]; rfl) ?_
    refine run 400 rfl ?_
    refine at_false 91 rfl (by rw [hk]; rfl) ?_
    refine run 400 rfl ?_
    refine at_if rfl (fun q2 => by rw [hk] at q2; cases q2) (fun _ => ?_)
    refine run 400 rfl ?_
    refine at_if rfl (fun q2 => by rw [hk] at q2; cases q2) (fun _ => ?_)
    refine run 400 rfl ?_
    refine at_if rfl (fun q2 => by rw [hk] at q2; cases q2) (fun _ => ?_)
    refine run 400 rfl ?_
    refine at_if rfl (fun _ => ?_) (fun q2 => by rw [hk] at q2; cases q2)
    refine run 400 rfl ?_
    refine at_gro (.tl 4 [tr u]) (doesG_build ty_ok _ rfl ⟨⟨rfl, rfl, _, rfl, SVles.refl _⟩, trivial⟩ rfl rfl (by decide)) ?_
    refine run 400 rfl ?_
    refine at_fn (T1_fn 3 u) rfl ?_
    refine run 400 rfl ?_
    exact at_ret rfl rfl (rsO l res c r) ⟨rfl, rfl⟩ ⟨rfl, rfl, trivial⟩
theorem one_pub (l res : List Tm) (c r : Nat) (m : Mv) (hk : m.k = 7) (h : inF m.a res.length = true) : Contract Try.prog 60 2 (rsO l res c r) [.ptr 0 0, m.sv] fun s post => s = .tup [(Tm.mk 4 0 .empty [res.getD m.a.toNat .zero]).sv, I 0] ∧ post = rsO l res c r := by
  have ha := at_yes_fn l res c r m.a h
  generalize res.getD m.a.toNat .zero = u at ha
  by_cases hb : inF m.b res.length = true
  · refine contract_of ty_ok [3, 4, 5, 6, 7] Try.func60 rfl (by decide) Try.ntmps60 rfl fun z => ?_
    refine run 400 rfl ?_
    refine at_false 15 rfl (by rw [hk]; rfl) ?_
    refine run 400 rfl ?_
    refine at_ifd rfl (fun q2 => by omega) (fun _ => ?_)
    refine run 400 rfl ?_
    refine at_drawn 19 rfl rfl [(2, .no)] [20, 21, 22] rfl (by rw [hk]; rfl) ?_
    refine run 400 rfl ?_
    refine at_if rfl (fun q2 => by rw [hk] at q2; cases q2) (fun _ => ?_)
    refine run 400 rfl ?_
    refine at_if rfl (fun q2 => by rw [hk] at q2; cases q2) (fun _ => ?_)
    refine run 400 rfl ?_
    refine at_callF [0, 1] (ha) rfl ⟨rfl, rfl, trivial⟩ rfl rfl rfl ?_
    refine run 400 rfl ?_
    refine at_callF [0, 1] (at_yes_fn l res c r m.b hb) rfl ⟨rfl, rfl, trivial⟩ rfl rfl rfl ?_
    refine run 400 rfl ?_
    refine at_false 77 rfl (by rw [hk]; rfl) ?_
    refine run 400 rfl ?_
    refine at_false 82 rfl (by rw [hk]; rfl) ?_
    refine run 400 rfl ?_
    refine at_false 91 rfl (by rw [hk]; rfl) ?_
    refine run 400 rfl ?_
    refine at_if rfl (fun q2 => by rw [hk] at q2; cases q2) (fun _ => ?_)
    refine run 400 rfl ?_
    refine at_if rfl (fun q2 => by rw [hk] at q2; cases q2) (fun _ => ?_)
    refine run 400 rfl ?_
    refine at_if rfl (fun q2 => by rw [hk] at q2; cases q2) (fun _ => ?_)
    refine run 400 rfl ?_
    refine at_if rfl (fun q2 => by rw [hk] at q2; cases q2) (fun _ => ?_)
    refine run 400 rfl ?_
    refine at_if rfl (fun _ => ?_) (fun q2 => by rw [hk] at q2; cases q2)
    refine run 400 rfl ?_
    refine at_gro (.tl 4 [tr u]) (doesG_build ty_ok _ rfl ⟨⟨rfl, rfl, _, rfl, SVles.refl _⟩, trivial⟩ rfl rfl (by decide)) ?_
    refine run 400 rfl ?_
    refine at_fn (T1_fn 4 u) rfl ?_
    refine run 400 rfl ?_
    exact at_ret rfl rfl (rsO l res c r) ⟨rfl, rfl⟩ ⟨rfl, rfl, trivial⟩
  · refine contract_of ty_ok [3, 4, 5, 6, 7] Try.func60 rfl (by decide) Try.ntmps60 rfl fun z => ?_
    refine run 400 rfl ?_
    refine at_false 15 rfl (by rw [hk]; rfl) ?_
    refine run 400 rfl ?_
    refine at_ifd rfl (fun q2 => by omega) (fun _ => ?_)
    refine run 400 rfl ?_
    refine at_drawn 19 rfl rfl [(2, .no)] [20, 21, 22] rfl (by rw [hk]; rfl) ?_
    refine run 400 rfl ?_
    refine at_if rfl (fun q2 => by rw [hk] at q2; cases q2) (fun _ => ?_)
    refine run 400 rfl ?_
    refine at_if rfl (fun q2 => by rw [hk] at q2; cases q2) (fun _ => ?_)
    refine run 400 rfl ?_
    refine at_callF [0, 1] (ha) rfl ⟨rfl, rfl, trivial⟩ rfl rfl rfl ?_
    refine run 400 rfl ?_
    refine at_callF [0, 1] (at_no_fn l res c r m.b (by simpa using hb)) rfl ⟨rfl, rfl, trivial⟩ rfl rfl rfl ?_
    refine run 400 rfl ?_
    refine at_false 77 rfl (by rw [hk]; rfl) ?_
    refine run 400 rfl ?_
    refine at_false 82 rfl (by rw [hk]; rfl) ?_
    refine run 400 rfl ?_
    refine at_false 91 rfl (by rw [hk]; rfl) ?_
    refine run 400 rfl ?_
    refine at_if rfl (fun q2 => by rw [hk] at q2; cases q2) (fun _ => ?_)
    refine run 400 rfl ?_
    refine at_if rfl (fun q2 => by rw [hk] at q2; cases q2) (fun _ => ?_)
    refine run 400 rfl ?_
    refine at_if rfl (fun q2 => by rw [hk] at q2; cases q2) (fun _ => ?_)
    refine run 400 rfl ?_
    refine at_if rfl (fun q2 => by rw [hk] at q2; cases q2) (fun _ => ?_)
    refine run 400 rfl ?_
    refine at_if rfl (fun _ => ?_) (fun q2 => by rw [hk] at q2; cases q2)
    refine run 400 rfl ?_
    refine at_gro (.tl 4 [tr u]) (doesG_build ty_ok _ rfl ⟨⟨rfl, rfl, _, rfl, SVles.refl _⟩, trivial⟩ rfl rfl (by decide)) ?_
    refine run 400 rfl ?_
    refine at_fn (T1_fn 4 u) rfl ?_
    refine run 400 rfl ?_
    exact at_ret rfl rfl (rsO l res c r) ⟨rfl, rfl⟩ ⟨rfl, rfl, trivial⟩
theorem one_mac (l res : List Tm) (c r : Nat) (m : Mv) (hk : m.k = 8) (h : inF m.a res.length = true) (hb : inF m.b res.length = true) : Contract Try.prog 60 2 (rsO l res c r) [.ptr 0 0, m.sv] fun s post => s = .tup [(Tm.mk 5 0 .empty [res.getD m.a.toNat .zero, res.getD m.b.toNat .zero]).sv, I 0] ∧ post = rsO l res c r := by
  have ha := at_yes_fn l res c r m.a h
  have hc := at_yes_fn l res c r m.b hb
  generalize res.getD m.a.toNat .zero = u at ha
  generalize res.getD m.b.toNat .zero = v at hc
  refine contract_of ty_ok [3, 4, 5, 6, 7] Try.func60 rfl (by decide) Try.ntmps60 rfl fun z => ?_
  refine run 400 rfl ?_
  refine at_false 15 rfl (by rw [hk]; rfl) ?_
  refine run 400 rfl ?_
  refine at_ifd rfl (fun q2 => by omega) (fun _ => ?_)
  refine run 400 rfl ?_
  refine at_drawn 19 rfl rfl [(2, .no)] [20, 21, 22] rfl (by rw [hk]; rfl) ?_
  refine run 400 rfl ?_
  refine at_if rfl (fun q2 => by rw [hk] at q2; cases q2) (fun _ => ?_)
  refine run 400 rfl ?_
  refine at_if rfl (fun q2 => by rw [hk] at q2; cases q2) (fun _ => ?_)
  refine run 400 rfl ?_
  refine at_callF [0, 1] (ha) rfl ⟨rfl, rfl, trivial⟩ rfl rfl rfl ?_
  refine run 400 rfl ?_
  refine at_callF [0, 1] (hc) rfl ⟨rfl, rfl, trivial⟩ rfl rfl rfl ?_
  refine run 400 rfl ?_
  refine at_true 77 rfl (by rw [hk]; rfl) ?_
  refine run 400 rfl ?_
  refine at_if rfl (fun q2 => by rw [hk] at q2; cases q2) (fun _ => ?_)
  refine run 400 rfl ?_
  refine at_if rfl (fun q2 => by rw [hk] at q2; cases q2) (fun _ => ?_)
  refine run 400 rfl ?_
  refine at_if rfl (fun q2 => by rw [hk] at q2; cases q2) (fun _ => ?_)
  refine run 400 rfl ?_
  refine at_if rfl (fun q2 => by rw [hk] at q2; cases q2) (fun _ => ?_)
  refine run 400 rfl ?_
  refine at_if rfl (fun q2 => by rw [hk] at q2; cases q2) (fun _ => ?_)
  refine run 400 rfl ?_
  refine at_if rfl (fun _ => ?_) (fun q2 => by rw [hk] at q2; cases q2)
  refine run 400 rfl ?_
  refine at_gro (.tl 4 [tr u, tr v]) (doesG_build ty_ok _ rfl ⟨⟨rfl, rfl, _, rfl, SVles.refl _⟩, ⟨rfl, rfl, _, rfl, SVles.refl _⟩, trivial⟩ rfl rfl (by decide)) ?_
  refine run 400 rfl ?_
  refine at_fn (T2_fn 5 u v) rfl ?_
  refine run 400 rfl ?_
  exact at_ret rfl rfl (rsO l res c r) ⟨rfl, rfl⟩ ⟨rfl, rfl, trivial⟩
theorem one_mac_no (l res : List Tm) (c r : Nat) (m : Mv) (hk : m.k = 8) (h : inF m.a res.length = false) : Contract Try.prog 60 2 (rsO l res c r) [.ptr 0 0, m.sv] fun s post => s = .tup [zSV, I 8] ∧ post = rsO l res c r := by
  have ha := at_no_fn l res c r m.a h
  by_cases hb : inF m.b res.length = true
  · refine contract_of ty_ok [3, 4, 5, 6, 7] Try.func60 rfl (by decide) Try.ntmps60 rfl fun z => ?_
    refine run 400 rfl ?_
    refine at_false 15 rfl (by rw [hk]; rfl) ?_
    refine run 400 rfl ?_
    refine at_ifd rfl (fun q2 => by omega) (fun _ => ?_)
    refine run 400 rfl ?_
    refine at_drawn 19 rfl rfl [(2, .no)] [20, 21, 22] rfl (by rw [hk]; rfl) ?_
    refine run 400 rfl ?_
    refine at_if rfl (fun q2 => by rw [hk] at q2; cases q2) (fun _ => ?_)
    refine run 400 rfl ?_
    refine at_if rfl (fun q2 => by rw [hk] at q2; cases q2) (fun _ => ?_)
    refine run 400 rfl ?_
    refine at_callF [0, 1] (ha) rfl ⟨rfl, rfl, trivial⟩ rfl rfl rfl ?_
    refine run 400 rfl ?_
    refine at_callF [0, 1] (at_yes_fn l res c r m.b hb) rfl ⟨rfl, rfl, trivial⟩ rfl rfl rfl ?_
    refine run 400 rfl ?_
    refine at_true 77 rfl (by rw [hk]; rfl) ?_
    refine run 400 rfl ?_
    exact at_ret rfl rfl (rsO l res c r) ⟨rfl, rfl⟩ ⟨rfl, rfl, trivial⟩
  · refine contract_of ty_ok [3, 4, 5, 6, 7] Try.func60 rfl (by decide) Try.ntmps60 rfl fun z => ?_
    refine run 400 rfl ?_
    refine at_false 15 rfl (by rw [hk]; rfl) ?_
    refine run 400 rfl ?_
    refine at_ifd rfl (fun q2 => by omega) (fun _ => ?_)
    refine run 400 rfl ?_
    refine at_drawn 19 rfl rfl [(2, .no)] [20, 21, 22] rfl (by rw [hk]; rfl) ?_
    refine run 400 rfl ?_
    refine at_if rfl (fun q2 => by rw [hk] at q2; cases q2) (fun _ => ?_)
    refine run 400 rfl ?_
    refine at_if rfl (fun q2 => by rw [hk] at q2; cases q2) (fun _ => ?_)
    refine run 400 rfl ?_
    refine at_callF [0, 1] (ha) rfl ⟨rfl, rfl, trivial⟩ rfl rfl rfl ?_
    refine run 400 rfl ?_
    refine at_callF [0, 1] (at_no_fn l res c r m.b (by simpa using hb)) rfl ⟨rfl, rfl, trivial⟩ rfl rfl rfl ?_
    refine run 400 rfl ?_
    refine at_true 77 rfl (by rw [hk]; rfl) ?_
    refine run 400 rfl ?_
    exact at_ret rfl rfl (rsO l res c r) ⟨rfl, rfl⟩ ⟨rfl, rfl, trivial⟩
theorem one_mac_no2 (l res : List Tm) (c r : Nat) (m : Mv) (hk : m.k = 8) (h : inF m.a res.length = true) (hb : inF m.b res.length = false) : Contract Try.prog 60 2 (rsO l res c r) [.ptr 0 0, m.sv] fun s post => s = .tup [zSV, I 8] ∧ post = rsO l res c r := by
  have ha := at_yes_fn l res c r m.a h
  have hc := at_no_fn l res c r m.b hb
  generalize res.getD m.a.toNat .zero = u at ha
  refine contract_of ty_ok [3, 4, 5, 6, 7] Try.func60 rfl (by decide) Try.ntmps60 rfl fun z => ?_
  refine run 400 rfl ?_
  refine at_false 15 rfl (by rw [hk]; rfl) ?_
  refine run 400 rfl ?_
  refine at_ifd rfl (fun q2 => by omega) (fun _ => ?_)
  refine run 400 rfl ?_
  refine at_drawn 19 rfl rfl [(2, .no)] [20, 21, 22] rfl (by rw [hk]; rfl) ?_
  refine run 400 rfl ?_
  refine at_if rfl (fun q2 => by rw [hk] at q2; cases q2) (fun _ => ?_)
  refine run 400 rfl ?_
  refine at_if rfl (fun q2 => by rw [hk] at q2; cases q2) (fun _ => ?_)
  refine run 400 rfl ?_
  refine at_callF [0, 1] (ha) rfl ⟨rfl, rfl, trivial⟩ rfl rfl rfl ?_
  refine run 400 rfl ?_
  refine at_callF [0, 1] (hc) rfl ⟨rfl, rfl, trivial⟩ rfl rfl rfl ?_
  refine run 400 rfl ?_
  refine at_true 77 rfl (by rw [hk]; rfl) ?_
  refine run 400 rfl ?_
  exact at_ret rfl rfl (rsO l res c r) ⟨rfl, rfl⟩ ⟨rfl, rfl, trivial⟩
theorem one_sig (l res : List Tm) (c r : Nat) (m : Mv) (hk : m.k = 9) (h : inF m.a res.length = true) (hb : inF m.b res.length = true) : Contract Try.prog 60 2 (rsO l res c r) [.ptr 0 0, m.sv] fun s post => s = .tup [(Tm.mk 6 0 .empty [res.getD m.a.toNat .zero, res.getD m.b.toNat .zero]).sv, I 0] ∧ post = rsO l res c r := by
  have ha := at_yes_fn l res c r m.a h
  have hc := at_yes_fn l res c r m.b hb
  generalize res.getD m.a.toNat .zero = u at ha
  generalize res.getD m.b.toNat .zero = v at hc
  refine contract_of ty_ok [3, 4, 5, 6, 7] Try.func60 rfl (by decide) Try.ntmps60 rfl fun z => ?_
  refine run 400 rfl ?_
  refine at_false 15 rfl (by rw [hk]; rfl) ?_
  refine run 400 rfl ?_
  refine at_ifd rfl (fun q2 => by omega) (fun _ => ?_)
  refine run 400 rfl ?_
  refine at_drawn 19 rfl rfl [(2, .no)] [20, 21, 22] rfl (by rw [hk]; rfl) ?_
  refine run 400 rfl ?_
  refine at_if rfl (fun q2 => by rw [hk] at q2; cases q2) (fun _ => ?_)
  refine run 400 rfl ?_
  refine at_if rfl (fun q2 => by rw [hk] at q2; cases q2) (fun _ => ?_)
  refine run 400 rfl ?_
  refine at_callF [0, 1] (ha) rfl ⟨rfl, rfl, trivial⟩ rfl rfl rfl ?_
  refine run 400 rfl ?_
  refine at_callF [0, 1] (hc) rfl ⟨rfl, rfl, trivial⟩ rfl rfl rfl ?_
  refine run 400 rfl ?_
  refine at_false 77 rfl (by rw [hk]; rfl) ?_
  refine run 400 rfl ?_
  refine at_true 82 rfl (by rw [hk]; rfl) ?_
  refine run 400 rfl ?_
  refine at_if rfl (fun q2 => by rw [hk] at q2; cases q2) (fun _ => ?_)
  refine run 400 rfl ?_
  refine at_if rfl (fun q2 => by rw [hk] at q2; cases q2) (fun _ => ?_)
  refine run 400 rfl ?_
  refine at_if rfl (fun q2 => by rw [hk] at q2; cases q2) (fun _ => ?_)
  refine run 400 rfl ?_
  refine at_if rfl (fun q2 => by rw [hk] at q2; cases q2) (fun _ => ?_)
  refine run 400 rfl ?_
  refine at_if rfl (fun q2 => by rw [hk] at q2; cases q2) (fun _ => ?_)
  refine run 400 rfl ?_
  refine at_if rfl (fun q2 => by rw [hk] at q2; cases q2) (fun _ => ?_)
  refine run 400 rfl ?_
  refine at_if rfl (fun _ => ?_) (fun q2 => by rw [hk] at q2; cases q2)
  refine run 400 rfl ?_
  refine at_gro (.tl 4 [tr u, tr v]) (doesG_build ty_ok _ rfl ⟨⟨rfl, rfl, _, rfl, SVles.refl _⟩, ⟨rfl, rfl, _, rfl, SVles.refl _⟩, trivial⟩ rfl rfl (by decide)) ?_
  refine run 400 rfl ?_
  refine at_fn (T2_fn 6 u v) rfl ?_
  refine run 400 rfl ?_
  exact at_ret rfl rfl (rsO l res c r) ⟨rfl, rfl⟩ ⟨rfl, rfl, trivial⟩
theorem one_sig_no (l res : List Tm) (c r : Nat) (m : Mv) (hk : m.k = 9) (h : inF m.a res.length = false) : Contract Try.prog 60 2 (rsO l res c r) [.ptr 0 0, m.sv] fun s post => s = .tup [zSV, I 8] ∧ post = rsO l res c r := by
  have ha := at_no_fn l res c r m.a h
  by_cases hb : inF m.b res.length = true
  · refine contract_of ty_ok [3, 4, 5, 6, 7] Try.func60 rfl (by decide) Try.ntmps60 rfl fun z => ?_
    refine run 400 rfl ?_
    refine at_false 15 rfl (by rw [hk]; rfl) ?_
    refine run 400 rfl ?_
    refine at_ifd rfl (fun q2 => by omega) (fun _ => ?_)
    refine run 400 rfl ?_
    refine at_drawn 19 rfl rfl [(2, .no)] [20, 21, 22] rfl (by rw [hk]; rfl) ?_
    refine run 400 rfl ?_
    refine at_if rfl (fun q2 => by rw [hk] at q2; cases q2) (fun _ => ?_)
    refine run 400 rfl ?_
    refine at_if rfl (fun q2 => by rw [hk] at q2; cases q2) (fun _ => ?_)
    refine run 400 rfl ?_
    refine at_callF [0, 1] (ha) rfl ⟨rfl, rfl, trivial⟩ rfl rfl rfl ?_
    refine run 400 rfl ?_
    refine at_callF [0, 1] (at_yes_fn l res c r m.b hb) rfl ⟨rfl, rfl, trivial⟩ rfl rfl rfl ?_
    refine run 400 rfl ?_
    refine at_false 77 rfl (by rw [hk]; rfl) ?_
    refine run 400 rfl ?_
    refine at_true 82 rfl (by rw [hk]; rfl) ?_
    refine run 400 rfl ?_
    exact at_ret rfl rfl (rsO l res c r) ⟨rfl, rfl⟩ ⟨rfl, rfl, trivial⟩
  · refine contract_of ty_ok [3, 4, 5, 6, 7] Try.func60 rfl (by decide) Try.ntmps60 rfl fun z => ?_
    refine run 400 rfl ?_
    refine at_false 15 rfl (by rw [hk]; rfl) ?_
    refine run 400 rfl ?_
    refine at_ifd rfl (fun q2 => by omega) (fun _ => ?_)
    refine run 400 rfl ?_
    refine at_drawn 19 rfl rfl [(2, .no)] [20, 21, 22] rfl (by rw [hk]; rfl) ?_
    refine run 400 rfl ?_
    refine at_if rfl (fun q2 => by rw [hk] at q2; cases q2) (fun _ => ?_)
    refine run 400 rfl ?_
    refine at_if rfl (fun q2 => by rw [hk] at q2; cases q2) (fun _ => ?_)
    refine run 400 rfl ?_
    refine at_callF [0, 1] (ha) rfl ⟨rfl, rfl, trivial⟩ rfl rfl rfl ?_
    refine run 400 rfl ?_
    refine at_callF [0, 1] (at_no_fn l res c r m.b (by simpa using hb)) rfl ⟨rfl, rfl, trivial⟩ rfl rfl rfl ?_
    refine run 400 rfl ?_
    refine at_false 77 rfl (by rw [hk]; rfl) ?_
    refine run 400 rfl ?_
    refine at_true 82 rfl (by rw [hk]; rfl) ?_
    refine run 400 rfl ?_
    exact at_ret rfl rfl (rsO l res c r) ⟨rfl, rfl⟩ ⟨rfl, rfl, trivial⟩
theorem one_sig_no2 (l res : List Tm) (c r : Nat) (m : Mv) (hk : m.k = 9) (h : inF m.a res.length = true) (hb : inF m.b res.length = false) : Contract Try.prog 60 2 (rsO l res c r) [.ptr 0 0, m.sv] fun s post => s = .tup [zSV, I 8] ∧ post = rsO l res c r := by
  have ha := at_yes_fn l res c r m.a h
  have hc := at_no_fn l res c r m.b hb
  generalize res.getD m.a.toNat .zero = u at ha
  refine contract_of ty_ok [3, 4, 5, 6, 7] Try.func60 rfl (by decide) Try.ntmps60 rfl fun z => ?_
  refine run 400 rfl ?_
  refine at_false 15 rfl (by rw [hk]; rfl) ?_
  refine run 400 rfl ?_
  refine at_ifd rfl (fun q2 => by omega) (fun _ => ?_)
  refine run 400 rfl ?_
  refine at_drawn 19 rfl rfl [(2, .no)] [20, 21, 22] rfl (by rw [hk]; rfl) ?_
  refine run 400 rfl ?_
  refine at_if rfl (fun q2 => by rw [hk] at q2; cases q2) (fun _ => ?_)
  refine run 400 rfl ?_
  refine at_if rfl (fun q2 => by rw [hk] at q2; cases q2) (fun _ => ?_)
  refine run 400 rfl ?_
  refine at_callF [0, 1] (ha) rfl ⟨rfl, rfl, trivial⟩ rfl rfl rfl ?_
  refine run 400 rfl ?_
  refine at_callF [0, 1] (hc) rfl ⟨rfl, rfl, trivial⟩ rfl rfl rfl ?_
  refine run 400 rfl ?_
  refine at_false 77 rfl (by rw [hk]; rfl) ?_
  refine run 400 rfl ?_
  refine at_true 82 rfl (by rw [hk]; rfl) ?_
  refine run 400 rfl ?_
  exact at_ret rfl rfl (rsO l res c r) ⟨rfl, rfl⟩ ⟨rfl, rfl, trivial⟩
theorem one_pair (l res : List Tm) (c r : Nat) (m : Mv) (hk : m.k = 10) (h : inF m.a res.length = true) (hb : inF m.b res.length = true) : Contract Try.prog 60 2 (rsO l res c r) [.ptr 0 0, m.sv] fun s post => s = .tup [(Tm.mk 7 0 .empty [res.getD m.a.toNat .zero, res.getD m.b.toNat .zero]).sv, I 0] ∧ post = rsO l res c r := by
  have ha := at_yes_fn l res c r m.a h
  have hc := at_yes_fn l res c r m.b hb
  generalize res.getD m.a.toNat .zero = u at ha
  generalize res.getD m.b.toNat .zero = v at hc
  refine contract_of ty_ok [3, 4, 5, 6, 7] Try.func60 rfl (by decide) Try.ntmps60 rfl fun z => ?_
  refine run 400 rfl ?_
  refine at_false 15 rfl (by rw [hk]; rfl) ?_
  refine run 400 rfl ?_
  refine at_ifd rfl (fun q2 => by omega) (fun _ => ?_)
  refine run 400 rfl ?_
  refine at_drawn 19 rfl rfl [(2, .no)] [20, 21, 22] rfl (by rw [hk]; rfl) ?_
  refine run 400 rfl ?_
  refine at_if rfl (fun q2 => by rw [hk] at q2; cases q2) (fun _ => ?_)
  refine run 400 rfl ?_
  refine at_if rfl (fun q2 => by rw [hk] at q2; cases q2) (fun _ => ?_)
  refine run 400 rfl ?_
  refine at_callF [0, 1] (ha) rfl ⟨rfl, rfl, trivial⟩ rfl rfl rfl ?_
  refine run 400 rfl ?_
  refine at_callF [0, 1] (hc) rfl ⟨rfl, rfl, trivial⟩ rfl rfl rfl ?_
  refine run 400 rfl ?_
  refine at_false 77 rfl (by rw [hk]; rfl) ?_
  refine run 400 rfl ?_
  refine at_false 82 rfl (by rw [hk]; rfl) ?_
  refine run 400 rfl ?_
  refine at_true 91 rfl (by rw [hk]; rfl) ?_
  refine run 400 rfl ?_
  refine at_if rfl (fun q2 => by rw [hk] at q2; cases q2) (fun _ => ?_)
  refine run 400 rfl ?_
  refine at_if rfl (fun q2 => by rw [hk] at q2; cases q2) (fun _ => ?_)
  refine run 400 rfl ?_
  refine at_if rfl (fun q2 => by rw [hk] at q2; cases q2) (fun _ => ?_)
  refine run 400 rfl ?_
  refine at_if rfl (fun q2 => by rw [hk] at q2; cases q2) (fun _ => ?_)
  refine run 400 rfl ?_
  refine at_if rfl (fun q2 => by rw [hk] at q2; cases q2) (fun _ => ?_)
  refine run 400 rfl ?_
  refine at_if rfl (fun q2 => by rw [hk] at q2; cases q2) (fun _ => ?_)
  refine run 400 rfl ?_
  refine at_if rfl (fun q2 => by rw [hk] at q2; cases q2) (fun _ => ?_)
  refine run 400 rfl ?_
  refine at_gro (.tl 4 [tr u, tr v]) (doesG_build ty_ok _ rfl ⟨⟨rfl, rfl, _, rfl, SVles.refl _⟩, ⟨rfl, rfl, _, rfl, SVles.refl _⟩, trivial⟩ rfl rfl (by decide)) ?_
  refine run 400 rfl ?_
  refine at_fn (T2_fn 7 u v) rfl ?_
  refine run 400 rfl ?_
  exact at_ret rfl rfl (rsO l res c r) ⟨rfl, rfl⟩ ⟨rfl, rfl, trivial⟩
theorem one_pair_no (l res : List Tm) (c r : Nat) (m : Mv) (hk : m.k = 10) (h : inF m.a res.length = false) : Contract Try.prog 60 2 (rsO l res c r) [.ptr 0 0, m.sv] fun s post => s = .tup [zSV, I 8] ∧ post = rsO l res c r := by
  have ha := at_no_fn l res c r m.a h
  by_cases hb : inF m.b res.length = true
  · refine contract_of ty_ok [3, 4, 5, 6, 7] Try.func60 rfl (by decide) Try.ntmps60 rfl fun z => ?_
    refine run 400 rfl ?_
    refine at_false 15 rfl (by rw [hk]; rfl) ?_
    refine run 400 rfl ?_
    refine at_ifd rfl (fun q2 => by omega) (fun _ => ?_)
    refine run 400 rfl ?_
    refine at_drawn 19 rfl rfl [(2, .no)] [20, 21, 22] rfl (by rw [hk]; rfl) ?_
    refine run 400 rfl ?_
    refine at_if rfl (fun q2 => by rw [hk] at q2; cases q2) (fun _ => ?_)
    refine run 400 rfl ?_
    refine at_if rfl (fun q2 => by rw [hk] at q2; cases q2) (fun _ => ?_)
    refine run 400 rfl ?_
    refine at_callF [0, 1] (ha) rfl ⟨rfl, rfl, trivial⟩ rfl rfl rfl ?_
    refine run 400 rfl ?_
    refine at_callF [0, 1] (at_yes_fn l res c r m.b hb) rfl ⟨rfl, rfl, trivial⟩ rfl rfl rfl ?_
    refine run 400 rfl ?_
    refine at_false 77 rfl (by rw [hk]; rfl) ?_
    refine run 400 rfl ?_
    refine at_false 82 rfl (by rw [hk]; rfl) ?_
    refine run 400 rfl ?_
    refine at_true 10 rfl (by rw [hk]; rfl) ?_
    refine run 400 rfl ?_
    exact at_ret rfl rfl (rsO l res c r) ⟨rfl, rfl⟩ ⟨rfl, rfl, trivial⟩
  · refine contract_of ty_ok [3, 4, 5, 6, 7] Try.func60 rfl (by decide) Try.ntmps60 rfl fun z => ?_
    refine run 400 rfl ?_
    refine at_false 15 rfl (by rw [hk]; rfl) ?_
    refine run 400 rfl ?_
    refine at_ifd rfl (fun q2 => by omega) (fun _ => ?_)
    refine run 400 rfl ?_
    refine at_drawn 19 rfl rfl [(2, .no)] [20, 21, 22] rfl (by rw [hk]; rfl) ?_
    refine run 400 rfl ?_
    refine at_if rfl (fun q2 => by rw [hk] at q2; cases q2) (fun _ => ?_)
    refine run 400 rfl ?_
    refine at_if rfl (fun q2 => by rw [hk] at q2; cases q2) (fun _ => ?_)
    refine run 400 rfl ?_
    refine at_callF [0, 1] (ha) rfl ⟨rfl, rfl, trivial⟩ rfl rfl rfl ?_
    refine run 400 rfl ?_
    refine at_callF [0, 1] (at_no_fn l res c r m.b (by simpa using hb)) rfl ⟨rfl, rfl, trivial⟩ rfl rfl rfl ?_
    refine run 400 rfl ?_
    refine at_false 77 rfl (by rw [hk]; rfl) ?_
    refine run 400 rfl ?_
    refine at_false 82 rfl (by rw [hk]; rfl) ?_
    refine run 400 rfl ?_
    refine at_true 10 rfl (by rw [hk]; rfl) ?_
    refine run 400 rfl ?_
    exact at_ret rfl rfl (rsO l res c r) ⟨rfl, rfl⟩ ⟨rfl, rfl, trivial⟩
theorem one_pair_no2 (l res : List Tm) (c r : Nat) (m : Mv) (hk : m.k = 10) (h : inF m.a res.length = true) (hb : inF m.b res.length = false) : Contract Try.prog 60 2 (rsO l res c r) [.ptr 0 0, m.sv] fun s post => s = .tup [zSV, I 8] ∧ post = rsO l res c r := by
  have ha := at_yes_fn l res c r m.a h
  have hc := at_no_fn l res c r m.b hb
  generalize res.getD m.a.toNat .zero = u at ha
  refine contract_of ty_ok [3, 4, 5, 6, 7] Try.func60 rfl (by decide) Try.ntmps60 rfl fun z => ?_
  refine run 400 rfl ?_
  refine at_false 15 rfl (by rw [hk]; rfl) ?_
  refine run 400 rfl ?_
  refine at_ifd rfl (fun q2 => by omega) (fun _ => ?_)
  refine run 400 rfl ?_
  refine at_drawn 19 rfl rfl [(2, .no)] [20, 21, 22] rfl (by rw [hk]; rfl) ?_
  refine run 400 rfl ?_
  refine at_if rfl (fun q2 => by rw [hk] at q2; cases q2) (fun _ => ?_)
  refine run 400 rfl ?_
  refine at_if rfl (fun q2 => by rw [hk] at q2; cases q2) (fun _ => ?_)
  refine run 400 rfl ?_
  refine at_callF [0, 1] (ha) rfl ⟨rfl, rfl, trivial⟩ rfl rfl rfl ?_
  refine run 400 rfl ?_
  refine at_callF [0, 1] (hc) rfl ⟨rfl, rfl, trivial⟩ rfl rfl rfl ?_
  refine run 400 rfl ?_
  refine at_false 77 rfl (by rw [hk]; rfl) ?_
  refine run 400 rfl ?_
  refine at_false 82 rfl (by rw [hk]; rfl) ?_
  refine run 400 rfl ?_
  refine at_true 91 rfl (by rw [hk]; rfl) ?_
  refine run 400 rfl ?_
  exact at_ret rfl rfl (rsO l res c r) ⟨rfl, rfl⟩ ⟨rfl, rfl, trivial⟩
end Go.Proofs.Ytmnmhehddbemkaa
namespace Go.Proofs.Ytmnmhehddbemkaa
open Go Go.Eng
set_option maxRecDepth 100000

theorem one_fn (l res : List Tm) (c r : Nat) (m : Mv) (hr : ∀ x ∈ res, Gd x) : Contract Try.prog 60 2 (rsO l res c r) [.ptr 0 0, m.sv] fun s post => s = oneS (oneF l res m) ∧ post = rsO l res c r := by
  have hkid : ∀ (n : Int) (q : Int), inF n res.length = true → (res.getD n.toNat .zero).k = q → ((res.getD n.toNat .zero).kids.length : Int) = kidsF q := by
    intro n q hn hq
    have h0 := inF_lt hn
    have hm := getD_mem (l := res) (n := n.toNat) (by omega)
    have := hr _ hm
    generalize res.getD n.toNat .zero = u at this hq
    cases this with
    | mk h1 h2 => rw [← hq]; exact h1
  by_cases hb : m.k < 1 ∨ 10 < m.k
  · have e : oneF l res m = (none, 2) := by
      have : readF m = none := by
        unfold readF
        repeat rw [if_neg (by omega)]
      rw [oneF, this]
    rw [e]
    exact one_bad l res c r m hb
  have hk : m.k = 1 ∨ m.k = 2 ∨ m.k = 3 ∨ m.k = 4 ∨ m.k = 5 ∨ m.k = 6 ∨ m.k = 7 ∨ m.k = 8 ∨ m.k = 9 ∨ m.k = 10 := by omega
  rcases hk with hk | hk | hk | hk | hk | hk | hk | hk | hk | hk
  · have er : readF m = some (.given m.a) := by unfold readF; rw [if_pos hk]
    cases hn : inF m.a l.length with
    | true =>
      have e : oneF l res m = (some (l.getD m.a.toNat .zero), 0) := by rw [oneF, er]; simp [nearF, hn, stepT]
      rw [e]; exact one_known l res c r m hk hn
    | false =>
      have e : oneF l res m = (none, 8) := by rw [oneF, er]; simp [nearF, hn]
      rw [e]; exact one_known_no l res c r m hk hn
  · have er : readF m = some (.atom m.s) := by unfold readF; rw [if_neg (by omega), if_pos hk]
    have e : oneF l res m = (some (.mk 1 0 m.s []), 0) := by rw [oneF, er]; simp [nearF, stepT]
    rw [e]; exact one_atom l res c r m hk
  · have er : readF m = some (.half m.a 7 0) := by unfold readF; rw [if_neg (by omega), if_neg (by omega), if_pos hk]
    cases hn : inF m.a res.length with
    | true =>
      by_cases hq : (res.getD m.a.toNat .zero).k = 7
      · have hl : ((res.getD m.a.toNat .zero).kids.length : Int) = 2 := hkid _ _ hn hq
        have e : oneF l res m = (some ((res.getD m.a.toNat .zero).kids.getD 0 .zero), 0) := by
          rw [oneF, er]
          dsimp only
          rw [nearF, if_pos hn, stepT, if_pos ⟨hq, by omega⟩]
          rfl
        rw [e]; exact one_left l res c r m hk hn hq (by omega)
      · have e : oneF l res m = (none, 3) := by
          rw [oneF, er]
          dsimp only
          rw [nearF, if_pos hn, stepT, if_neg (fun h => hq h.1)]
        rw [e]; exact one_left_form l res c r m hk hn hq
    | false =>
      have e : oneF l res m = (none, 8) := by
        rw [oneF, er]
        dsimp only
        rw [nearF, hn, if_neg (by decide)]
      rw [e]; exact one_left_no l res c r m hk hn
  · have er : readF m = some (.half m.a 7 1) := by unfold readF; rw [if_neg (by omega), if_neg (by omega), if_neg (by omega), if_pos hk]
    cases hn : inF m.a res.length with
    | true =>
      by_cases hq : (res.getD m.a.toNat .zero).k = 7
      · have hl : ((res.getD m.a.toNat .zero).kids.length : Int) = 2 := hkid _ _ hn hq
        have e : oneF l res m = (some ((res.getD m.a.toNat .zero).kids.getD 1 .zero), 0) := by
          rw [oneF, er]
          dsimp only
          rw [nearF, if_pos hn, stepT, if_pos ⟨hq, by omega⟩]
          rfl
        rw [e]; exact one_right l res c r m hk hn hq (by omega)
      · have e : oneF l res m = (none, 3) := by
          rw [oneF, er]
          dsimp only
          rw [nearF, if_pos hn, stepT, if_neg (fun h => hq h.1)]
        rw [e]; exact one_right_form l res c r m hk hn hq
    | false =>
      have e : oneF l res m = (none, 8) := by
        rw [oneF, er]
        dsimp only
        rw [nearF, hn, if_neg (by decide)]
      rw [e]; exact one_right_no l res c r m hk hn
  · have er : readF m = some (.half m.a 6 1) := by unfold readF; rw [if_neg (by omega), if_neg (by omega), if_neg (by omega), if_neg (by omega), if_pos hk]
    cases hn : inF m.a res.length with
    | true =>
      by_cases hq : (res.getD m.a.toNat .zero).k = 6
      · have hl : ((res.getD m.a.toNat .zero).kids.length : Int) = 2 := hkid _ _ hn hq
        have e : oneF l res m = (some ((res.getD m.a.toNat .zero).kids.getD 1 .zero), 0) := by
          rw [oneF, er]
          dsimp only
          rw [nearF, if_pos hn, stepT, if_pos ⟨hq, by omega⟩]
          rfl
        rw [e]; exact one_open l res c r m hk hn hq (by omega)
      · have e : oneF l res m = (none, 3) := by
          rw [oneF, er]
          dsimp only
          rw [nearF, if_pos hn, stepT, if_neg (fun h => hq h.1)]
        rw [e]; exact one_open_form l res c r m hk hn hq
    | false =>
      have e : oneF l res m = (none, 8) := by
        rw [oneF, er]
        dsimp only
        rw [nearF, hn, if_neg (by decide)]
      rw [e]; exact one_open_no l res c r m hk hn
  · have er : readF m = some (.one 3 m.a) := by unfold readF; rw [if_neg (by omega), if_neg (by omega), if_neg (by omega), if_neg (by omega), if_neg (by omega), if_pos hk]
    cases hn : inF m.a res.length with
    | true =>
      have e : oneF l res m = (some (.mk 3 0 .empty [res.getD m.a.toNat .zero]), 0) := by
        rw [oneF, er]
        dsimp only
        rw [nearF, if_pos hn, stepT]
      rw [e]; exact one_hash l res c r m hk hn
    | false =>
      have e : oneF l res m = (none, 8) := by
        rw [oneF, er]
        dsimp only
        rw [nearF, hn, if_neg (by decide)]
      rw [e]; exact one_hash_no l res c r m hk hn
  · have er : readF m = some (.one 4 m.a) := by unfold readF; rw [if_neg (by omega), if_neg (by omega), if_neg (by omega), if_neg (by omega), if_neg (by omega), if_neg (by omega), if_pos hk]
    cases hn : inF m.a res.length with
    | true =>
      have e : oneF l res m = (some (.mk 4 0 .empty [res.getD m.a.toNat .zero]), 0) := by
        rw [oneF, er]
        dsimp only
        rw [nearF, if_pos hn, stepT]
      rw [e]; exact one_pub l res c r m hk hn
    | false =>
      have e : oneF l res m = (none, 8) := by
        rw [oneF, er]
        dsimp only
        rw [nearF, hn, if_neg (by decide)]
      rw [e]; exact one_pub_no l res c r m hk hn
  · have er : readF m = some (.two 5 m.a m.b) := by unfold readF; rw [if_neg (by omega), if_neg (by omega), if_neg (by omega), if_neg (by omega), if_neg (by omega), if_neg (by omega), if_neg (by omega), if_pos hk]
    cases hn : inF m.a res.length with
    | true =>
      cases hn2 : inF m.b res.length with
      | true =>
        have e : oneF l res m = (some (.mk 5 0 .empty [res.getD m.a.toNat .zero, res.getD m.b.toNat .zero]), 0) := by
          rw [oneF, er]
          dsimp only
          rw [nearF, hn, hn2, if_pos (by decide), stepT]
        rw [e]; exact one_mac l res c r m hk hn hn2
      | false =>
        have e : oneF l res m = (none, 8) := by
          rw [oneF, er]
          dsimp only
          rw [nearF, hn, hn2, if_neg (by decide)]
        rw [e]; exact one_mac_no2 l res c r m hk hn hn2
    | false =>
      have e : oneF l res m = (none, 8) := by
        rw [oneF, er]
        dsimp only
        rw [nearF, hn, Bool.false_and, if_neg (by decide)]
      rw [e]; exact one_mac_no l res c r m hk hn
  · have er : readF m = some (.two 6 m.a m.b) := by unfold readF; rw [if_neg (by omega), if_neg (by omega), if_neg (by omega), if_neg (by omega), if_neg (by omega), if_neg (by omega), if_neg (by omega), if_neg (by omega), if_pos hk]
    cases hn : inF m.a res.length with
    | true =>
      cases hn2 : inF m.b res.length with
      | true =>
        have e : oneF l res m = (some (.mk 6 0 .empty [res.getD m.a.toNat .zero, res.getD m.b.toNat .zero]), 0) := by
          rw [oneF, er]
          dsimp only
          rw [nearF, hn, hn2, if_pos (by decide), stepT]
        rw [e]; exact one_sig l res c r m hk hn hn2
      | false =>
        have e : oneF l res m = (none, 8) := by
          rw [oneF, er]
          dsimp only
          rw [nearF, hn, hn2, if_neg (by decide)]
        rw [e]; exact one_sig_no2 l res c r m hk hn hn2
    | false =>
      have e : oneF l res m = (none, 8) := by
        rw [oneF, er]
        dsimp only
        rw [nearF, hn, Bool.false_and, if_neg (by decide)]
      rw [e]; exact one_sig_no l res c r m hk hn
  · have er : readF m = some (.two 7 m.a m.b) := by unfold readF; rw [if_neg (by omega), if_neg (by omega), if_neg (by omega), if_neg (by omega), if_neg (by omega), if_neg (by omega), if_neg (by omega), if_neg (by omega), if_neg (by omega), if_pos hk]
    cases hn : inF m.a res.length with
    | true =>
      cases hn2 : inF m.b res.length with
      | true =>
        have e : oneF l res m = (some (.mk 7 0 .empty [res.getD m.a.toNat .zero, res.getD m.b.toNat .zero]), 0) := by
          rw [oneF, er]
          dsimp only
          rw [nearF, hn, hn2, if_pos (by decide), stepT]
        rw [e]; exact one_pair l res c r m hk hn hn2
      | false =>
        have e : oneF l res m = (none, 8) := by
          rw [oneF, er]
          dsimp only
          rw [nearF, hn, hn2, if_neg (by decide)]
        rw [e]; exact one_pair_no2 l res c r m hk hn hn2
    | false =>
      have e : oneF l res m = (none, 8) := by
        rw [oneF, er]
        dsimp only
        rw [nearF, hn, Bool.false_and, if_neg (by decide)]
      rw [e]; exact one_pair_no l res c r m hk hn

/-- The document's run. -/
def runR (l : List Tm) : List Mv → List Tm → List Tm × Int
  | [], acc => (acc, 0)
  | m :: ms, acc => match oneF l acc m with
    | (some t, _) => if mayF t then runR l ms (acc ++ [t]) else ([], 3)
    | (none, e) => ([], e)
theorem runR_eq (l : List Tm) : ∀ (ms : List Mv) (acc : List Tm), runR l ms acc = runG l ms acc
  | [], _ => by rw [runR, runG]
  | m :: ms, acc => by
    cases hr : readF m with
    | none => simp only [runR, runG, oneF, hr]
    | some s =>
      by_cases hn : nearF s acc.length l.length = true
      · cases hs : stepT l acc s with
        | none => simp only [runR, runG, oneF, hr, if_pos hn, doesF, hs]
        | some t =>
          cases hm : mayF t with
          | true => simp only [runR, runG, oneF, hr, if_pos hn, doesF, hs, hm, if_true]; exact runR_eq l ms _
          | false => simp [runR, runG, oneF, hr, hn, doesF, hs, hm]
      · simp [runR, runG, oneF, hr, hn]
end Go.Proofs.Ytmnmhehddbemkaa
namespace Go.Proofs.Ytmnmhehddbemkaa
open Go Go.Eng
set_option maxRecDepth 100000

abbrev z0 : Tm := .mk 0 0 .empty []
theorem row_z0 : ([.int .i64 0, .int .i64 0, .str .empty, .lst 4 []] : List DV) = tr z0 := by
  show _ = [DV.int .i64 0, .int .i64 0, .str .empty, .lst 4 (rowsT [])]
  rw [rowsT_nil]
theorem set_last {α : Type} (l : List α) (x y : α) : (l ++ [x]).set l.length y = l ++ [y] := by
  rw [List.set_append_right _ _ (Nat.le_refl _), Nat.sub_self]
  rfl

theorem rrun_fn (l : List Tm) (ms : List Mv) : Gives Try.prog 22 [.lst 4 (rowsT l), .lst 4 (rowsM ms)] (.tup [.lst 4 (rowsT (runF l ms).1), I (runF l ms).2]) := by
  refine GivesP.le (Post := fun s => ∃ a, s = .tup [a, I (runF l ms).2] ∧ SVle a (.lst 4 (rowsT (runF l ms).1))) ?_ (fun s h => by
    obtain ⟨a, rfl, h⟩ := h
    exact SVle.tup ⟨h, SVle.refl _, trivial⟩)
  have hml : (rowsM ms).length = ms.length := by simp
  refine contract_of ty_ok [0, 1, 2, 3, 4, 5, 6, 7] Try.func22 rfl (by decide) Try.ntmps22 rfl fun z => ?_
  refine run 400 rfl ?_
  refine at_ifd rfl (fun h => ?_) (fun h => ?_)
  · rw [hml] at h
    have e : runF l ms = ([], 7) := by unfold runF; rw [if_pos (by omega)]
    refine run 400 rfl ?_
    exact at_ret rfl rfl [] ⟨⟨_, by rw [e], by rw [e]; exact SVle.nils⟩, rfl, rfl⟩ trivial
  rw [hml] at h
  have e : runF l ms = runG l ms [] := by unfold runF; rw [if_neg (by omega)]
  rw [e]
  refine run 400 rfl ?_
  refine at_nilSI 0 1 1 rfl rfl rfl ?_
  refine at_loop (fun x : Nat × List Tm × Nat × Nat => x.1 ≤ ms.length ∧ x.2.1.length = x.1 ∧ runG l (ms.drop x.1) x.2.1 = runG l ms [] ∧ (∀ t ∈ x.2.1, Gd t) ∧ x.2.1.length ≤ x.2.2.1 ∧ x.2.1.length * 4 + x.2.2.2 = x.2.2.1 * 4)
    (fun x => [(0, .lst 4 (rowsT l)), (1, .lst 4 (rowsM ms)), (6, .ptr 0 0), (7, I x.1)]) (fun x => rsO l x.2.1 x.2.2.1 x.2.2.2) (fun x => ms.length - x.1) [2, 3, 4, 5, 6, 7, 8, 9]
    (0, [], 0, 0) ⟨by dsimp only; omega, rfl, rfl, by simp, by simp, by simp⟩ ⟨SVle.refl _, SVle.refl _, SVle.refl _, SVle.refl _, trivial⟩ ⟨rfl, by show some _ = some (SO.buf (rowsT []) 0); rw [rowsT_nil], trivial⟩ ?_
  rintro ⟨i, acc, c, r⟩ ⟨a1, a2, a3, a4, a5, a6⟩
  dsimp only at a1 a2 a3 a4 a5 a6
  refine run 400 rfl ?_
  refine at_ifd rfl (fun g => ?_) (fun g => ?_)
  rotate_left
  · dsimp only at g
    rw [hml] at g
    have : i = ms.length := by omega
    subst this
    rw [List.drop_length] at a3
    refine run 400 rfl ?_
    refine at_pubS 4 1 4 rfl rfl (rowsT_len acc).symm a5 rowsT_sz rfl ?_
    refine at_ret rfl rfl [] ⟨⟨.lst 4 (rowsT acc), by rw [← a3, runG], by rw [← a3, runG]; exact SVle.refl _⟩, rfl, rfl⟩ trivial
  dsimp only at g
  rw [hml] at g
  have hlt : i < ms.length := by omega
  have hget := rowsM_get hlt
  have hdr : ms.drop i = ms.getD i .zero :: ms.drop (i + 1) := by
    rw [List.drop_eq_getElem_cons hlt, List.getD_eq_getElem?_getD, List.getElem?_eq_getElem hlt]
    rfl
  rw [hdr] at a3
  generalize ms.getD i .zero = m at hget a3
  refine run 400 rfl ?_
  refine at_val (.rp (mr m) 0) (does_index ty_ok _ rfl rfl rfl (by omega) (show (rowsM ms)[(i : Int).toNat]? = some (mr m) from hget) rfl) ?_
  refine run 400 rfl ?_
  have hone := one_fn l acc c r m a4
  have hstep := runR_eq l (m :: ms.drop (i + 1)) acc
  rw [runR] at hstep
  rcases hr : oneF l acc m with ⟨ot, e1⟩
  rw [hr] at hone hstep
  cases ot with
  | none =>
    have hstep : ([], e1) = runG l (m :: ms.drop (i + 1)) acc := hstep
    refine at_callF [0, 1] hone rfl ⟨rfl, rfl, trivial⟩ rfl rfl rfl ?_
    have he : e1 ≠ 0 := by
      intro h0
      subst h0
      rw [oneF] at hr
      split at hr
      · cases hr
      · split at hr
        · split at hr <;> cases hr
        · cases hr
    refine run 400 rfl ?_
    refine at_false 33 rfl (by simpa using he) ?_
    refine run 400 rfl ?_
    refine at_if rfl (fun _ => ?_) (fun q => absurd (by simpa using q) he)
    refine run 400 rfl ?_
    exact at_ret rfl rfl [] ⟨⟨.tl 0 [], by rw [← a3, ← hstep]; rfl, by rw [← a3, ← hstep]; exact SVle.nils⟩, rfl, rfl⟩ trivial
  | some t =>
    have he : e1 = 0 := by
      rw [oneF] at hr
      split at hr
      · cases hr
      · split at hr
        · split at hr
          · cases hr; rfl
          · cases hr
        · cases hr
    subst he
    have hstep : (if mayF t then runR l (ms.drop (i + 1)) (acc ++ [t]) else ([], 3)) = runG l (m :: ms.drop (i + 1)) acc := hstep
    refine at_callF [0, 1] hone rfl ⟨rfl, rfl, trivial⟩ rfl rfl rfl ?_
    refine run 400 rfl ?_
    refine at_true 33 rfl rfl ?_
    refine run 400 rfl ?_
    refine at_fn (rmay_fn t) rfl ?_
    refine run 400 rfl ?_
    refine at_if rfl (fun q => ?_) (fun q => ?_)
    · have q : mayF t = false := by simpa using q
      rw [q, if_neg (by decide)] at hstep
      refine run 400 rfl ?_
      refine at_if rfl (fun _ => ?_) (fun q => by cases q)
      refine run 400 rfl ?_
      exact at_ret rfl rfl [] ⟨⟨.tl 0 [], by rw [← a3, ← hstep], by rw [← a3, ← hstep]; exact SVle.nils⟩, rfl, rfl⟩ trivial
    · have q : mayF t = true := by simpa using q
      rw [q, if_pos rfl, runR_eq] at hstep
      refine run 400 rfl ?_
      refine at_if rfl (fun q => by cases q) (fun _ => ?_)
      refine run 400 rfl ?_
      refine at_stages ?_
      refine at_stage 7 [] rfl rfl rfl rfl rfl [(6, .gro (.tl 4 [[.int .i64 0, .int .i64 0, .str .empty, .lst 4 []]]))] [10, 11, 12] rfl (by exact doesG_build ty_ok _ rfl ⟨⟨rfl, rfl, _, rfl, ⟨SVle.refl _, SVle.refl _, SVle.refl _, fun g H x h => SVle.tl 4 [] g H x (SVle.nil 4 g H x h), trivial⟩⟩, trivial⟩ rfl rfl (by decide)) ?_
      refine at_forced [21, 22] (fun y : Nat × Nat => acc.length + 1 ≤ y.1 ∧ (acc.length + 1) * 4 + y.2 = y.1 * 4) (fun y => [(0, .lst 4 (rowsT l)), (1, .lst 4 (rowsM ms)), (6, .ptr 0 0), (7, I i), (41, .ptr 0 0), (45, t.sv), (46, I acc.length), (48, .sl 20 0 (acc.length + 1) y.1)])
        (fun y => [(0, .cells 73 [.lst 4 (rowsT l), .sl 1 0 acc.length c]), (20, .buf (rowsT acc ++ [tr z0]) y.2)]) rfl rfl rfl rfl rfl ?_ ?_
      · refine at_appendS 1 20 4 ty_ok rfl rfl rfl rfl rfl rfl rfl (rowsT_len acc).symm rowsT_sz a6 a5 (by simp) rfl (by simp; omega) (by show _ * 56 ≤ _; simp; omega) rfl ?_
        intro c' r' h1 h2
        refine run 400 rfl ?_
        exact at_joined (c', r') ⟨h1, h2⟩ ⟨SVle.refl _, SVle.refl _, SVle.refl _, SVle.refl _, SVle.refl _, SVle.refl _, SVle.refl _, SVle.refl _, trivial⟩ ⟨rfl, by rw [← row_z0]; rfl, trivial⟩
      · rintro ⟨c', r'⟩ ⟨h1, h2⟩
        dsimp only at h1 h2 ⊢
        have hsz : ∀ q ∈ rowsT acc ++ [tr z0], q.length = 4 := by
          intro q hq
          rcases List.mem_append.1 hq with hq | hq
          · exact rowsT_sz q hq
          · rw [List.mem_singleton] at hq; subst hq; rfl
        have hset : (rowsT acc ++ [tr z0]).set acc.length (tr t) = rowsT (acc ++ [t]) := by
          rw [← rowsT_len acc, set_last, rowsT_app, rowsT_cons, rowsT_nil]
        refine at_stage 5 [0, 20] rfl rfl rfl rfl rfl [(8, .val (.ptr 20 (0 + (acc.length : Int).toNat * 4))), (9, .put 20 (.buf ((rowsT acc ++ [tr z0]).set acc.length (tr t)) r'))] [30] rfl
          ⟨doesWS_row (i := acc.length) (sz := 4) ty_ok (tr t) rfl rfl rfl (fun e => by cases e) rfl (by omega) hsz (by simp [rowsT_len]) rfl, does_indexS ty_ok rfl rfl rfl (by omega) rfl⟩ ?_
        refine at_stage_end [2, 3, 4, 5, 6, 7, 8, 9] rfl ?_
        refine at_swap 1 20 ?_
        refine run 400 rfl ?_
        have hgt : Gd t := mayF_gd q
        exact at_again (i + 1, acc ++ [t], c', r') ⟨by dsimp only; omega, by simp [a2], by dsimp only; rw [hstep, a3], by
            intro x hx
            dsimp only at hx
            rcases List.mem_append.1 hx with hx | hx
            · exact a4 x hx
            · rw [List.mem_singleton] at hx; subst hx; exact hgt, by dsimp only; rw [List.length_append]; exact h1, by dsimp only; rw [List.length_append]; exact h2⟩ (by dsimp only; omega)
          ⟨SVle.refl _, SVle.refl _, SVle.refl _, SVle.of_eq (by show I ((i : Int) + 1) = I ((i + 1 : Nat) : Int); rw [Int.natCast_add]; rfl), trivial⟩
          ⟨by show some _ = some (SO.cells 73 [.lst 4 (rowsT l), .sl 1 0 (acc ++ [t]).length c']); rw [List.length_append]; rfl, by dsimp only; rw [← hset]; rfl, trivial⟩
end Go.Proofs.Ytmnmhehddbemkaa
namespace Go.Proofs.Ytmnmhehddbemkaa
open Go Go.Eng
set_option maxRecDepth 100000

theorem all_fn (l : List Tm) (h : ∀ x ∈ l, Sm x) (hl : l.length ≤ 10000000) : Gives Try.prog 24 [.lst 4 (rowsT l), .lst 4 (rowsT l)] .tt := by
  have hlen := rowsT_len l
  refine contract_of ty_ok [0, 1, 2, 3, 4, 5, 6, 7] Try.func24 rfl (by decide) Try.ntmps24 rfl fun z => ?_
  refine run 400 rfl ?_
  refine at_if rfl (fun q => by simp at q) (fun _ => ?_)
  refine run 400 rfl ?_
  refine at_loop (fun i : Nat => i ≤ l.length) (fun i => [(0, .lst 4 (rowsT l)), (1, .lst 4 (rowsT l)), (5, I i)]) (fun _ => []) (fun i => l.length - i) [0, 1, 2, 3, 4, 5, 6, 7]
    0 (by omega) ⟨SVle.refl _, SVle.refl _, SVle.refl _, trivial⟩ trivial ?_
  intro i hi
  refine run 400 rfl ?_
  refine at_ifd rfl (fun g => ?_) (fun g => ?_)
  rotate_left
  · refine run 400 rfl ?_
    exact at_ret rfl rfl [] ⟨rfl, rfl, rfl⟩ trivial
  rw [hlen] at g
  have hlt : i < l.length := by omega
  have hget := rowsT_get hlt
  have hmem := getD_mem hlt
  generalize l.getD i .zero = u at hget hmem
  refine run 400 rfl ?_
  refine at_drawn 10 rfl rfl [(2, .val (.rp (tr u) 0)), (6, .val (.rp (tr u) 0)), (8, .sv (.bl (same u u)))] [20, 21, 22] rfl
    ⟨same_fn u u (h u hmem), does_index ty_ok _ rfl rfl rfl (by omega) (show (rowsT l)[(i : Int).toNat]? = some (tr u) from hget) rfl, does_index ty_ok _ rfl rfl rfl (by omega) (show (rowsT l)[(i : Int).toNat]? = some (tr u) from hget) rfl⟩ ?_
  refine run 400 rfl ?_
  refine at_if rfl (fun q => by rw [same_iff.2 rfl] at q; cases q) (fun _ => ?_)
  refine run 400 rfl ?_
  exact at_again (i + 1) (by omega) (by omega) ⟨SVle.refl _, SVle.refl _, SVle.of_eq (by show I ((i : Int) + 1) = I ((i + 1 : Nat) : Int); rw [Int.natCast_add]; rfl), trivial⟩ trivial

theorem runF_bnd (l : List Tm) (ms : List Mv) : (runF l ms).1.length ≤ 1024 := by
  by_cases h : (runF l ms).2 = 0
  · rw [runF_len l ms h]
    by_cases h2 : 1024 < ms.length
    · unfold runF at h; rw [if_pos h2] at h; cases h
    · omega
  · rw [runF_err l ms h]; simp
def provesF (l : List Tm) (ms : List Mv) (t : Tm) : Bool := ((runF l ms).2 == 0) && decide (0 < (runF l ms).1.length) && same ((runF l ms).1.getD ((runF l ms).1.length - 1) .zero) t

theorem proves_fn (l : List Tm) (ms : List Mv) (t : Tm) (hl : l.length ≤ 1000000) : Gives Try.prog 25 [.lst 4 (rowsT l), .lst 4 (rowsM ms), t.sv] (.bl (provesF l ms t)) := by
  have hR := run_fn l ms hl
  have hsm := runF_sm l ms
  unfold provesF
  have hlen := rowsT_len (runF l ms).1
  have hbd := runF_bnd l ms
  generalize runF l ms = R at hR hsm hlen hbd
  obtain ⟨out, e⟩ := R
  dsimp only at hR hsm hlen hbd ⊢
  by_cases he : e = 0
  · by_cases h0 : 0 < out.length
    · have hlt : out.length - 1 < out.length := by omega
      have hget := rowsT_get hlt
      have hmem := getD_mem hlt
      have hS := tsame_fn (out.getD (out.length - 1) .zero) t (hsm _ hmem)
      generalize out.getD (out.length - 1) .zero = u at hget hmem hS
      have hb : ((e == 0) && decide (0 < out.length) && same u t) = same u t := by simp [he, h0]
      rw [hb]
      refine contract_of ty_ok [0, 1, 2, 3, 4, 5, 6, 7] Try.func25 rfl (by decide) Try.ntmps25 rfl fun z => ?_
      refine run 400 rfl ?_
      refine at_fn hR rfl ?_
      refine run 400 rfl ?_
      refine at_drawn 18 rfl rfl [(1, .yes), (5, .yes), (12, .val (.rp (tr u) 0)), (15, .sv (.bl (same u t)))] [20, 21, 22] rfl
        ⟨hS, does_index ty_ok _ rfl rfl rfl (by omega) (show (rowsT out)[(((rowsT out).length : Int) - 1).toNat]? = some (tr u) by rw [hlen, show ((out.length : Int) - 1).toNat = out.length - 1 by omega]; exact hget) rfl, by simp only [inR]; omega, by simp; omega, by show (e == 0) = true; simp [he]⟩ ?_
      refine run 400 rfl ?_
      exact at_ret rfl rfl [] ⟨rfl, rfl, rfl⟩ trivial
    · have hb : ((e == 0) && decide (0 < out.length) && same (out.getD (out.length - 1) .zero) t) = false := by simp [h0]
      rw [hb]
      refine Gives.le (a := .ff) ?_ (SVle.ff rfl)
      refine contract_of ty_ok [0, 1, 2, 3, 4, 5, 6, 7] Try.func25 rfl (by decide) Try.ntmps25 rfl fun z => ?_
      refine run 400 rfl ?_
      refine at_fn hR rfl ?_
      refine run 400 rfl ?_
      refine at_drawn 18 rfl rfl [(1, .yes), (5, .no)] [20, 21, 22] rfl ⟨by show decide ((0 : Int) < ((rowsT out).length : Int)) = false; rw [hlen, decide_eq_false_iff_not]; omega, by show (e == 0) = true; simp [he]⟩ ?_
      refine run 400 rfl ?_
      exact at_ret rfl rfl [] ⟨rfl, rfl, rfl⟩ trivial
  · have hb : ((e == 0) && decide (0 < out.length) && same (out.getD (out.length - 1) .zero) t) = false := by simp [he]
    rw [hb]
    refine Gives.le (a := .ff) ?_ (SVle.ff rfl)
    refine contract_of ty_ok [0, 1, 2, 3, 4, 5, 6, 7] Try.func25 rfl (by decide) Try.ntmps25 rfl fun z => ?_
    refine run 400 rfl ?_
    refine at_fn hR rfl ?_
    refine run 400 rfl ?_
    refine at_drawn 18 rfl rfl [(1, .no)] [20, 21, 22] rfl (by show (e == 0) = false; simp [he]) ?_
    refine run 400 rfl ?_
    exact at_ret rfl rfl [] ⟨rfl, rfl, rfl⟩ trivial
theorem rproves_fn (l : List Tm) (ms : List Mv) (t : Tm) : Gives Try.prog 26 [.lst 4 (rowsT l), .lst 4 (rowsM ms), t.sv] (.bl (provesF l ms t)) := by
  have hR := rrun_fn l ms
  have hsm := runF_sm l ms
  unfold provesF
  have hlen := rowsT_len (runF l ms).1
  have hbd := runF_bnd l ms
  generalize runF l ms = R at hR hsm hlen hbd
  obtain ⟨out, e⟩ := R
  dsimp only at hR hsm hlen hbd ⊢
  by_cases he : e = 0
  · by_cases h0 : 0 < out.length
    · have hlt : out.length - 1 < out.length := by omega
      have hget := rowsT_get hlt
      have hmem := getD_mem hlt
      have hS := same_fn (out.getD (out.length - 1) .zero) t (hsm _ hmem)
      generalize out.getD (out.length - 1) .zero = u at hget hmem hS
      have hb : ((e == 0) && decide (0 < out.length) && same u t) = same u t := by simp [he, h0]
      rw [hb]
      refine contract_of ty_ok [0, 1, 2, 3, 4, 5, 6, 7] Try.func26 rfl (by decide) Try.ntmps26 rfl fun z => ?_
      refine run 400 rfl ?_
      refine at_fn hR rfl ?_
      refine run 400 rfl ?_
      refine at_drawn 18 rfl rfl [(1, .yes), (5, .yes), (12, .val (.rp (tr u) 0)), (15, .sv (.bl (same u t)))] [20, 21, 22] rfl
        ⟨hS, does_index ty_ok _ rfl rfl rfl (by omega) (show (rowsT out)[(((rowsT out).length : Int) - 1).toNat]? = some (tr u) by rw [hlen, show ((out.length : Int) - 1).toNat = out.length - 1 by omega]; exact hget) rfl, by simp only [inR]; omega, by simp; omega, by show (e == 0) = true; simp [he]⟩ ?_
      refine run 400 rfl ?_
      exact at_ret rfl rfl [] ⟨rfl, rfl, rfl⟩ trivial
    · have hb : ((e == 0) && decide (0 < out.length) && same (out.getD (out.length - 1) .zero) t) = false := by simp [h0]
      rw [hb]
      refine Gives.le (a := .ff) ?_ (SVle.ff rfl)
      refine contract_of ty_ok [0, 1, 2, 3, 4, 5, 6, 7] Try.func26 rfl (by decide) Try.ntmps26 rfl fun z => ?_
      refine run 400 rfl ?_
      refine at_fn hR rfl ?_
      refine run 400 rfl ?_
      refine at_drawn 18 rfl rfl [(1, .yes), (5, .no)] [20, 21, 22] rfl ⟨by show decide ((0 : Int) < ((rowsT out).length : Int)) = false; rw [hlen, decide_eq_false_iff_not]; omega, by show (e == 0) = true; simp [he]⟩ ?_
      refine run 400 rfl ?_
      exact at_ret rfl rfl [] ⟨rfl, rfl, rfl⟩ trivial
  · have hb : ((e == 0) && decide (0 < out.length) && same (out.getD (out.length - 1) .zero) t) = false := by simp [he]
    rw [hb]
    refine Gives.le (a := .ff) ?_ (SVle.ff rfl)
    refine contract_of ty_ok [0, 1, 2, 3, 4, 5, 6, 7] Try.func26 rfl (by decide) Try.ntmps26 rfl fun z => ?_
    refine run 400 rfl ?_
    refine at_fn hR rfl ?_
    refine run 400 rfl ?_
    refine at_drawn 18 rfl rfl [(1, .no)] [20, 21, 22] rfl (by show (e == 0) = false; simp [he]) ?_
    refine run 400 rfl ?_
    exact at_ret rfl rfl [] ⟨rfl, rfl, rfl⟩ trivial

theorem oneT_fn (ks : List Int) (hl : ks.length ≤ 9223372036854775807) : Gives Try.prog 23 [.lst 1 (ints ks)] (genT ks 4 0).1.sv := by
  refine contract_of ty_ok [0, 1, 2, 3, 4, 5, 6, 7] Try.func23 rfl (by decide) Try.ntmps23 rfl fun z => ?_
  refine run 400 rfl ?_
  refine at_metF 1 (term_fn ks hl 4 (by omega) 0 (by omega) (by omega)) rfl rfl rfl ?_
  refine run 400 rfl ?_
  exact at_ret rfl rfl [] ⟨rfl, rfl, rfl⟩ trivial
end Go.Proofs.Ytmnmhehddbemkaa
namespace Go.Proofs.Ytmnmhehddbemkaa
open Go Go.Eng
set_option maxRecDepth 100000

theorem has_self (a : Tm) : hasT a a = true := by
  cases a
  rw [hasT, same_iff.2 rfl, Bool.true_or]
theorem ints_gt {l : List Int} {i : Nat} {u : Int} (h : l[i]? = some u) : (ints l)[((i : Int)).toNat]? = some [.int .i64 u] := ints_at' h

theorem termParts_fn (ns ms : List Int) (h1 : ns.length ≤ 9223372036854775807) (h2 : ms.length ≤ 9223372036854775807) : Gives Try.prog 12 [.lst 1 (ints ns), .lst 1 (ints ms)] .tt := by
  have hA := oneT_fn ns h1
  have hB := oneT_fn ms h2
  obtain ⟨ga, sa⟩ := genT_gd ns 4 0 (by omega)
  obtain ⟨gb, sb⟩ := genT_gd ms 4 0 (by omega)
  generalize (genT ns 4 0).1 = a at hA ga sa
  generalize (genT ms 4 0).1 = b at hB gb sb
  have ha := ga.sm
  have hb := gb.sm
  have hN := nonces_fn a ha (by omega)
  have hR := rnon_fn a ha (by omega)
  have hln := rnonT_len a
  generalize rnonT a = L at hN hR hln
  have hll := ints_len L
  have hsT : Sm (Tm.mk 7 0 .empty [b, a]) := .mk (by simp) (by intro t ht; simp at ht; rcases ht with rfl | rfl; exact hb; exact ha)
  have hP : Gives Try.prog 49 [(Tm.mk 7 0 .empty [b, a]).sv, a.sv] .tt := gives_is (c := true) (has_fn (.mk 7 0 .empty [b, a]) a hsT) (by
    rw [hasT, hasL, hasL, has_self a]; simp)
  refine contract_of ty_ok [0, 1, 2, 3, 4, 5, 6, 7] Try.func12 rfl (by decide) Try.ntmps12 rfl fun z => ?_
  refine run 400 rfl ?_
  refine at_fn known37_fn rfl ?_
  refine run 400 rfl ?_
  refine at_fn hA rfl ?_
  refine run 400 rfl ?_
  refine at_fn hB rfl ?_
  refine run 400 rfl ?_
  refine at_drawn 4 rfl rfl [(1, .sv (.tl 1 (ints L))), (3, .sv (.lst 1 (ints L)))] [20, 21, 22] rfl ⟨hR, hN⟩ ?_
  refine run 400 rfl ?_
  refine at_if rfl (fun q => by simp at q) (fun _ => ?_)
  refine run 400 rfl ?_
  refine at_loop (fun i : Nat => i ≤ L.length) (fun i => [(5, .ptr 0 0), (6, .ptr 1 0), (7, .lst 1 (ints L)), (8, .lst 1 (ints L)), (9, I i)]) (fun _ => [(0, own33 a), (1, own33 b)]) (fun i => L.length - i) [2, 3, 4, 5, 6, 7]
    0 (by omega) ⟨SVle.refl _, SVle.refl _, SVle.tl _ _, SVle.refl _, SVle.refl _, trivial⟩ ⟨rfl, rfl, trivial⟩ ?_
  intro i hi
  refine run 400 rfl ?_
  refine at_ifd rfl (fun g => ?_) (fun g => ?_)
  · rw [hll] at g
    have hlt : i < L.length := by omega
    obtain ⟨u, hu⟩ : ∃ u, L[i]? = some u := ⟨_, List.getElem?_eq_getElem hlt⟩
    have hget := ints_gt hu
    refine run 400 rfl ?_
    refine at_drawn 9 rfl rfl [(2, .val (.rp [.int .i64 u] 0)), (6, .val (.rp [.int .i64 u] 0))] [20, 21, 22] rfl
      ⟨does_index ty_ok _ rfl rfl rfl (by omega) hget rfl, does_index ty_ok _ rfl rfl rfl (by omega) hget rfl⟩ ?_
    refine run 400 rfl ?_
    refine at_if rfl (fun q => by simp at q) (fun _ => ?_)
    refine run 400 rfl ?_
    exact at_again (i + 1) (by omega) (by omega) ⟨SVle.refl _, SVle.refl _, SVle.refl _, SVle.refl _, SVle.of_eq (by show I ((i : Int) + 1) = I ((i + 1 : Nat) : Int); rw [Int.natCast_add]; rfl), trivial⟩ ⟨rfl, rfl, trivial⟩
  refine run 400 rfl ?_
  refine at_drawn 40 rfl rfl [(1, .sv (I (szT a))), (3, .sv (I (szT a))), (5, .yes), (8, .sv (.bl (same a b))), (11, .sv (.bl (same a b))), (14, .yes), (17, .sv (.bl (decide (ordT a b < 0)))), (20, .sv (.bl (decide (ordT a b < 0)))), (23, .yes), (26, .sv (.bl (hasT b a))), (29, .sv (.bl (hasT b a))), (32, .yes), (35, .gro (.tl 4 [tr b, tr a])), (36, .sv (Tm.mk 7 0 .empty [b, a]).sv), (38, .sv .tt)] [20, 21, 22] rfl
    ⟨hP, T2_fn 7 b a, doesG_build ty_ok _ rfl ⟨⟨rfl, rfl, _, rfl, SVles.refl _⟩, ⟨rfl, rfl, _, rfl, SVles.refl _⟩, trivial⟩ rfl rfl (by decide), by simp, rhas_fn b a ha, has_fn a b ha, by simp, less_fn a b ha, tless_fn a b ha, by simp, same_fn a b ha, tsame_fn a b ha, by simp, rsize_fn a ha (by omega), size_fn a ha (by omega)⟩ ?_
  refine run 400 rfl ?_
  exact at_ret rfl rfl [] ⟨rfl, rfl, rfl⟩ trivial
end Go.Proofs.Ytmnmhehddbemkaa
namespace Go.Proofs.Ytmnmhehddbemkaa
open Go Go.Eng

set_option maxRecDepth 100000 in
theorem termsG_fn (ns : List Int) (most : Nat) (hl : ns.length ≤ 9223372036854775807) (hm : most ≤ 1000) : Contract Try.prog 17 0 [] [.lst 1 (ints ns), I most] fun s post => s = .gl 0 4 (rowsT (genL ns most 0)) ∧ post = [(0, .tok 4)] := by
  refine contract_of ty_ok [5, 1, 2, 3, 4, 6, 7] Try.func17 rfl (by decide) Try.ntmps17 rfl fun z => ?_
  refine run 400 rfl ?_
  refine at_name 6 0 4 rfl (.inr rfl) ?_
  refine at_loop (fun x : List Tm × Nat × Int => x.2.1 ≤ most ∧ x.1.length = x.2.1 ∧ 0 ≤ x.2.2 ∧ x.2.2 ≤ ns.length ∧ x.1 ++ genL ns (most - x.2.1) x.2.2 = genL ns most 0)
    (fun x => [(1, I most), (5, .ptr 5 0), (6, .gl 0 4 (rowsT x.1)), (7, I x.2.1)]) (fun x => [(5, tape ns x.2.2), (0, .tok 4)]) (fun x => most - x.2.1) [1, 2, 3, 4, 6, 7]
    ([], 0, 0) ⟨by simp, rfl, by simp, by simp, by simp⟩ ⟨SVle.refl _, SVle.refl _, SVle.of_eq (by show SV.gl 0 4 [] = SV.gl 0 4 (rowsT []); rw [rowsT_nil]), SVle.refl _, trivial⟩ ⟨rfl, rfl, trivial⟩ ?_
  rintro ⟨acc, i, j⟩ ⟨a1, a2, a3, a4, a5⟩
  dsimp only at a1 a2 a3 a4 a5
  refine run 400 rfl ?_
  refine at_split 14 rfl (fun h => ?_) (fun h => ?_)
  rotate_left
  · rw [decide_eq_false_iff_not] at h
    dsimp only at h
    have e : most - i = 0 := by omega
    rw [e, genL, List.append_nil] at a5
    refine run 400 rfl ?_
    exact at_ret rfl rfl [(0, .tok 4)] ⟨by rw [← a5], rfl⟩ ⟨rfl, trivial⟩
  rw [decide_eq_true_eq] at h
  dsimp only at h
  refine run 400 rfl ?_
  refine at_metF 5 (more_fn ns j) rfl rfl rfl ?_
  refine run 400 rfl ?_
  obtain ⟨q, hq⟩ : ∃ q, most - i = q + 1 := ⟨most - i - 1, by omega⟩
  rw [hq, genL] at a5
  refine at_ifd rfl (fun h2 => ?_) (fun h2 => ?_)
  rotate_left
  · rw [if_neg h2, List.append_nil] at a5
    refine run 400 rfl ?_
    exact at_ret rfl rfl [(0, .tok 4)] ⟨by rw [← a5], rfl⟩ ⟨rfl, trivial⟩
  rw [if_pos h2] at a5
  have ht := term_fn ns hl 3 (by omega) j a3 a4
  have ht2 := genT_le ns 3 j ⟨a3, a4⟩
  generalize genT ns 3 j = u at ht ht2 a5
  obtain ⟨u, j'⟩ := u
  dsimp only at ht ht2 a5
  have hlen : (rowsT acc).length = acc.length := rowsT_len acc
  refine run 400 rfl ?_
  refine at_metF 5 ht rfl rfl rfl ?_
  refine run 400 rfl ?_
  refine at_gro (.tl 4 [tr u]) (doesG_build ty_ok _ rfl ⟨⟨rfl, rfl, _, rfl, SVles.refl _⟩, trivial⟩ rfl rfl (by decide)) ?_
  refine at_grow 0 0 4 (rowsT acc ++ [tr u]) rfl (doesU_append ty_ok rfl rfl rfl rfl rfl rfl rfl (by simp; omega) (by show _ * 56 ≤ _; simp; omega)) rfl ?_
  refine run 400 rfl ?_
  exact at_again (acc ++ [u], i + 1, j') ⟨by dsimp only; omega, by simp [a2], by dsimp only; omega, by dsimp only; omega, by dsimp only; rw [← a5, List.append_assoc, show most - (i + 1) = q by omega]; rfl⟩ (by dsimp only; omega)
    ⟨SVle.refl _, SVle.refl _, SVle.of_eq (by show SV.gl 0 4 (rowsT acc ++ [tr u]) = SV.gl 0 4 (rowsT (acc ++ [u])); rw [rowsT_app, rowsT_cons, rowsT_nil]), SVle.of_eq (by show I ((i : Int) + 1) = I ((i + 1 : Nat) : Int); rw [Int.natCast_add]; rfl), trivial⟩ ⟨rfl, rfl, trivial⟩

set_option maxRecDepth 100000
theorem rsort_len (l : List Tm) : (rsortF l).length ≤ l.length := by
  have h := cmp_rsort (l := l) (l' := rsortF l) ((rsort_ss l).1.imp fun h => by rw [ord_anti]; omega) (rsort_ss l).2
  have : ∀ (l acc : List Tm), (l.foldl addF acc).length ≤ acc.length + l.length := by
    intro l
    induction l with
    | nil => intro acc; simp
    | cons t l ih =>
      intro acc
      have := ih (addF acc t)
      have := addF_len acc t
      simp only [List.foldl_cons, List.length_cons]
      omega
  have := this l []
  simpa [rsortF] using this

theorem termSort_fn (ns : List Int) (h1 : ns.length ≤ 9223372036854775807) : Gives Try.prog 14 [.lst 1 (ints ns)] .tt := by
  have hT := terms_fn ns 20 h1 (by omega)
  have hgl := genL_gd ns 20 0 (by omega)
  have hll := genL_len ns 20 0
  generalize genL ns 20 0 = l at hT hgl hll
  have hsm : ∀ t ∈ l, Sm t := fun t ht => (hgl.1 t ht).sm
  have hS := sort_fn l (by omega) hsm
  have hR := rsort_fn l hsm (by omega)
  have hrl := rsort_len l
  obtain ⟨hss, hmem⟩ := rsort_ss l
  have hxsm : ∀ t ∈ rsortF l, Sm t := fun t ht => hsm t ((hmem t).1 ht)
  have hrr : rsortF (l ++ rsortF l) = rsortF l := by
    obtain ⟨h1, h2⟩ := rsort_ss (l ++ rsortF l)
    exact ss_ext totT h1 hss fun x => by
      rw [h2, List.mem_append, hmem, or_self]
  have hS2 := sort_fn (l ++ rsortF l) (by simp; omega) (fun t ht => (List.mem_append.1 ht).elim (hsm t) (hxsm t))
  rw [hrr] at hS2
  generalize rsortF l = x at *
  have hxl := rowsT_len x
  have hrl' := rowsT_len l
  have hAll := all_fn x hxsm (by omega)
  have hAll2 := hAll.weak (args' := [.tl 4 (rowsT x), .lst 4 (rowsT x)]) ⟨SVle.tl _ _, SVle.refl _, trivial⟩
  have hAll3 := hAll.weak (args' := [.tl 4 (rowsT x), .tl 4 (rowsT x)]) ⟨SVle.tl _ _, SVle.tl _ _, trivial⟩
  refine contract_of ty_ok [0, 1, 2, 3, 4, 5, 6, 7] Try.func14 rfl (by decide) Try.ntmps14 rfl fun z => ?_
  refine run 400 rfl ?_
  refine at_fn known37_fn rfl ?_
  refine run 400 rfl ?_
  refine at_fn hT rfl ?_
  refine run 400 rfl ?_
  refine at_fn hS rfl ?_
  refine run 400 rfl ?_
  refine at_fn hR rfl ?_
  refine at_fn hAll2 rfl ?_
  refine run 400 rfl ?_
  refine at_loop (fun i : Nat => 1 ≤ i) (fun i => [(3, .lst 4 (rowsT l)), (4, .tl 4 (rowsT x)), (5, I i)]) (fun _ => []) (fun i => x.length - i) [0, 1, 2, 3, 4, 5, 6, 7]
    1 (by omega) ⟨SVle.refl _, SVle.refl _, SVle.refl _, trivial⟩ trivial ?_
  intro i hi
  refine run 400 rfl ?_
  refine at_ifd rfl (fun g => ?_) (fun g => ?_)
  · rw [hxl] at g
    have hlt : i < x.length := by omega
    have hget := rowsT_get hlt
    have hmu := getD_mem hlt
    have hget2 := rowsT_get (show i - 1 < x.length by omega)
    have hlt2 : i - 1 < x.length := by omega
    have hmv := getD_mem hlt2
    have hord : ordT (x.getD (i - 1) .zero) (x.getD i .zero) < 0 := by
      have := List.pairwise_iff_getElem.1 hss (i - 1) i hlt2 hlt (by omega)
      rw [List.getD_eq_getElem?_getD, List.getD_eq_getElem?_getD, List.getElem?_eq_getElem hlt, List.getElem?_eq_getElem hlt2]
      exact this
    generalize x.getD i .zero = u at hget hmu hord
    generalize x.getD (i - 1) .zero = v at hget2 hmv hord
    refine run 400 rfl ?_
    refine at_drawn 11 rfl rfl [(3, .val (.rp (tr v) 0)), (7, .val (.rp (tr u) 0)), (9, .sv .tt)] [20, 21, 22] rfl
      ⟨gives_is (c := true) (tless_fn v u (hxsm v hmv)) (by simp [hord]), does_index ty_ok _ rfl rfl rfl (by omega) (show (rowsT x)[(i : Int).toNat]? = some (tr u) from hget) rfl, does_index ty_ok _ rfl rfl rfl (by omega) (show (rowsT x)[((i : Int) - 1).toNat]? = some (tr v) by rw [show ((i : Int) - 1).toNat = i - 1 by omega]; exact hget2) rfl, by constructor <;> omega⟩ ?_
    refine run 400 rfl ?_
    exact at_again (i + 1) (by omega) (by omega) ⟨SVle.refl _, SVle.refl _, SVle.of_eq (by show I ((i : Int) + 1) = I ((i + 1 : Nat) : Int); rw [Int.natCast_add]; rfl), trivial⟩ trivial
  refine run 400 rfl ?_
  refine at_gro (.tl 4 []) (doesG_build ty_ok _ rfl trivial rfl rfl (by decide)) ?_
  refine run 400 rfl ?_
  refine at_name 34 5 4 rfl (.inl rfl) ?_
  refine at_grow 5 5 4 ([] ++ rowsT l) rfl (doesU_append ty_ok rfl rfl rfl rfl rfl rfl rfl (by simp; omega) (by show _ * 56 ≤ _; simp; omega)) rfl ?_
  refine run 400 rfl ?_
  refine at_grow 5 5 4 (rowsT l ++ rowsT x) rfl (doesU_append ty_ok rfl rfl rfl rfl rfl rfl rfl (by omega) (by show _ * 56 ≤ _; omega)) rfl ?_
  refine at_deg 5 ?_
  rw [← rowsT_app]
  refine at_fn hS2 rfl ?_
  refine run 400 rfl ?_
  refine at_fn hAll3 rfl ?_
  refine run 400 rfl ?_
  exact at_ret rfl rfl [] ⟨rfl, rfl, rfl⟩ trivial
end Go.Proofs.Ytmnmhehddbemkaa
namespace Go.Proofs.Ytmnmhehddbemkaa
open Go Go.Eng
set_option maxRecDepth 100000

theorem getD_eq {l : List Tm} {i : Nat} (h : i < l.length) : l[i]? = some (l.getD i .zero) := by
  rw [List.getD_eq_getElem?_getD, List.getElem?_eq_getElem h]; rfl

theorem one_of (u v : Tm) : (if ordT u v < 0 then (1 : Int) else 0) + (if ordT v u < 0 then 1 else 0) + (if same u v then 1 else 0) = 1 := by
  rcases totT.tri u v with h | h | h
  · have h2 := ord_anti u v
    have hs : ¬ same u v = true := fun q => by rw [same_iff.1 q, ord_irr] at h; omega
    rw [if_pos h, if_neg (by omega), if_neg hs]; rfl
  · subst h
    rw [ord_irr, if_neg (by omega), if_pos (same_iff.2 rfl)]; rfl
  · have h : ordT v u < 0 := h
    have h2 := ord_anti u v
    have hs : ¬ same u v = true := fun q => by rw [same_iff.1 q, ord_irr] at h; omega
    rw [if_neg (by omega), if_pos h, if_neg hs]; rfl

theorem termOrder_fn (ns ms ks : List Int) (h1 : ns.length ≤ 9223372036854775807) (h2 : ms.length ≤ 9223372036854775807) (h3 : ks.length ≤ 9223372036854775807) : Gives Try.prog 13 [.lst 1 (ints ns), .lst 1 (ints ms), .lst 1 (ints ks)] .tt := by
  have hT := termsG_fn ns 2 h1 (by omega)
  have hgl := genL_gd ns 2 0 (by omega)
  have hll := genL_len ns 2 0
  have hA := oneT_fn ms h2
  have hB := oneT_fn ks h3
  have ga := (genT_gd ms 4 0 (by omega)).1.sm
  have gb := (genT_gd ks 4 0 (by omega)).1.sm
  have hsm : ∀ t ∈ genL ns 2 0, Sm t := fun t ht => (hgl.1 t ht).sm
  generalize genL ns 2 0 = l0 at hT hsm hll
  generalize (genT ms 4 0).1 = a at hA ga
  generalize (genT ks 4 0).1 = b at hB gb
  have hl0 := rowsT_len l0
  refine contract_of ty_ok [0, 1, 2, 3, 4, 5, 6, 7] Try.func13 rfl (by decide) Try.ntmps13 rfl fun z => ?_
  refine run 400 rfl ?_
  refine at_fn known37_fn rfl ?_
  refine run 400 rfl ?_
  refine at_callF [0] hT rfl trivial rfl rfl rfl ?_
  refine run 400 rfl ?_
  refine at_fn hA rfl ?_
  refine run 400 rfl ?_
  refine at_fn hB rfl ?_
  refine at_gro (.tl 4 [tr a, tr b]) (doesG_build ty_ok _ rfl ⟨⟨rfl, rfl, _, rfl, SVles.refl _⟩, ⟨rfl, rfl, _, rfl, SVles.refl _⟩, trivial⟩ rfl rfl (by decide)) ?_
  refine run 400 rfl ?_
  refine at_grow 0 0 4 (rowsT l0 ++ [tr a, tr b]) rfl (doesU_append ty_ok rfl rfl rfl rfl rfl rfl rfl (by simp; omega) (by show _ * 56 ≤ _; simp; omega)) rfl ?_
  refine at_deg 0 ?_
  rw [show rowsT l0 ++ [tr a, tr b] = rowsT (l0 ++ [a, b]) by rw [rowsT_app, rowsT_cons, rowsT_cons, rowsT_nil]]
  have hsm : ∀ t ∈ l0 ++ [a, b], Sm t := fun t ht => by
    rcases List.mem_append.1 ht with h | h
    · exact hsm t h
    · simp at h; rcases h with rfl | rfl; exact ga; exact gb
  have hlen : (l0 ++ [a, b]).length ≤ 10 := by simp; omega
  generalize l0 ++ [a, b] = l at hsm hlen
  have hrl := rowsT_len l
  refine run 400 rfl ?_
  refine at_loop (fun i : Nat => i ≤ l.length) (fun i => [(7, .lst 4 (rowsT l)), (8, I i)]) (fun _ => []) (fun i => l.length - i) [0, 1, 2, 3, 4, 5, 6, 7]
    0 (by omega) ⟨SVle.refl _, SVle.refl _, trivial⟩ trivial ?_
  intro i hi
  refine run 400 rfl ?_
  refine at_ifd rfl (fun g => ?_) (fun g => ?_)
  rotate_left
  · refine run 400 rfl ?_
    exact at_ret rfl rfl [] ⟨rfl, rfl, rfl⟩ trivial
  rw [hrl] at g
  have hlt : i < l.length := by omega
  have hget := rowsT_get hlt
  have hmu := hsm _ (getD_mem hlt)
  generalize l.getD i .zero = u at hget hmu
  have hgi : (rowsT l)[(i : Int).toNat]? = some (tr u) := hget
  refine run 400 rfl ?_
  refine at_loop (fun k : Nat => k ≤ l.length) (fun k => [(7, .lst 4 (rowsT l)), (8, I i), (9, I k)]) (fun _ => []) (fun k => l.length - k) [0, 1, 2, 3, 4, 5, 6, 7]
    0 (by omega) ⟨SVle.refl _, SVle.refl _, SVle.refl _, trivial⟩ trivial ?_
  intro k hk
  refine run 400 rfl ?_
  refine at_ifd rfl (fun g2 => ?_) (fun g2 => ?_)
  rotate_left
  · refine run 400 rfl ?_
    exact at_again (i + 1) (by omega) (by omega) ⟨SVle.refl _, SVle.of_eq (by show I ((i : Int) + 1) = I ((i + 1 : Nat) : Int); rw [Int.natCast_add]; rfl), trivial⟩ trivial
  rw [hrl] at g2
  have hlt2 : k < l.length := by omega
  have hget2 := rowsT_get hlt2
  have hmv := hsm _ (getD_mem hlt2)
  generalize l.getD k .zero = v at hget2 hmv
  have hgk : (rowsT l)[(k : Int).toNat]? = some (tr v) := hget2
  refine run 400 rfl ?_
  have h1 := one_of u v
  refine at_drawn 9 rfl rfl [(2, .val (.rp (tr u) 0)), (6, .val (.rp (tr v) 0)), (8, .sv (.bl (decide (ordT u v < 0))))] [20, 21, 22] rfl
    ⟨tless_fn u v hmu, does_index ty_ok _ rfl rfl rfl (by omega) hgk rfl, does_index ty_ok _ rfl rfl rfl (by omega) hgi rfl⟩ ?_
  refine run 400 rfl ?_
  refine at_join (fun n : Int => n = if ordT u v < 0 then 1 else 0) (fun n => [(7, .lst 4 (rowsT l)), (8, I i), (9, I k), (10, I n)]) (fun _ => []) [0, 1, 2, 3, 4, 5, 6, 7] ?_ ?_
  · refine at_ifd rfl (fun q => ?_) (fun q => ?_)
    · refine run 400 rfl ?_
      exact at_joined 1 (if_pos q).symm ⟨SVle.refl _, SVle.refl _, SVle.refl _, SVle.refl _, trivial⟩ trivial
    · refine run 400 rfl ?_
      exact at_joined 0 (if_neg q).symm ⟨SVle.refl _, SVle.refl _, SVle.refl _, SVle.refl _, trivial⟩ trivial
  intro n1 hn1
  have hb1 : 0 ≤ n1 ∧ n1 ≤ 1 := by rw [hn1]; split <;> omega
  refine run 400 rfl ?_
  refine at_drawn 9 rfl rfl [(2, .val (.rp (tr v) 0)), (6, .val (.rp (tr u) 0)), (8, .sv (.bl (decide (ordT v u < 0))))] [20, 21, 22] rfl
    ⟨tless_fn v u hmv, does_index ty_ok _ rfl rfl rfl (by omega) hgi rfl, does_index ty_ok _ rfl rfl rfl (by omega) hgk rfl⟩ ?_
  refine run 400 rfl ?_
  refine at_join (fun n : Int => n = n1 + if ordT v u < 0 then 1 else 0) (fun n => [(7, .lst 4 (rowsT l)), (8, I i), (9, I k), (10, I n)]) (fun _ => []) [0, 1, 2, 3, 4, 5, 6, 7] ?_ ?_
  · refine at_ifd rfl (fun q => ?_) (fun q => ?_)
    · refine run 400 rfl ?_
      exact at_joined (n1 + 1) (by rw [if_pos q]) ⟨SVle.refl _, SVle.refl _, SVle.refl _, SVle.refl _, trivial⟩ trivial
    · refine run 400 rfl ?_
      exact at_joined n1 (by rw [if_neg q]; omega) ⟨SVle.refl _, SVle.refl _, SVle.refl _, SVle.refl _, trivial⟩ trivial
  intro n2 hn2
  have hb2 : 0 ≤ n2 ∧ n2 ≤ 2 := by rw [hn2]; split <;> omega
  refine run 400 rfl ?_
  refine at_drawn 9 rfl rfl [(2, .val (.rp (tr u) 0)), (6, .val (.rp (tr v) 0)), (8, .sv (.bl (same u v)))] [20, 21, 22] rfl
    ⟨tsame_fn u v hmu, does_index ty_ok _ rfl rfl rfl (by omega) hgk rfl, does_index ty_ok _ rfl rfl rfl (by omega) hgi rfl⟩ ?_
  refine run 400 rfl ?_
  refine at_join (fun n : Int => n = n2 + if same u v then 1 else 0) (fun n => [(7, .lst 4 (rowsT l)), (8, I i), (9, I k), (10, I n)]) (fun _ => []) [0, 1, 2, 3, 4, 5, 6, 7] ?_ ?_
  · refine at_if rfl (fun q => ?_) (fun q => ?_)
    · refine run 400 rfl ?_
      exact at_joined (n2 + 1) (by rw [if_pos q]) ⟨SVle.refl _, SVle.refl _, SVle.refl _, SVle.refl _, trivial⟩ trivial
    · refine run 400 rfl ?_
      exact at_joined n2 (by rw [if_neg (by simp [q])]; omega) ⟨SVle.refl _, SVle.refl _, SVle.refl _, SVle.refl _, trivial⟩ trivial
  intro n3 hn3
  obtain rfl : n3 = 1 := by rw [hn3, hn2, hn1]; exact h1
  refine run 400 rfl ?_
  refine at_if rfl (fun q => by simp at q) (fun _ => ?_)
  refine run 400 rfl ?_
  refine at_loop (fun j : Nat => j ≤ l.length) (fun j => [(7, .lst 4 (rowsT l)), (8, I i), (9, I k), (11, I j)]) (fun _ => []) (fun j => l.length - j) [0, 1, 2, 3, 4, 5, 6, 7]
    0 (by omega) ⟨SVle.refl _, SVle.refl _, SVle.refl _, SVle.refl _, trivial⟩ trivial ?_
  intro j hj
  refine run 400 rfl ?_
  refine at_ifd rfl (fun g3 => ?_) (fun g3 => ?_)
  rotate_left
  · refine run 400 rfl ?_
    exact at_again (k + 1) (by omega) (by omega) ⟨SVle.refl _, SVle.refl _, SVle.of_eq (by show I ((k : Int) + 1) = I ((k + 1 : Nat) : Int); rw [Int.natCast_add]; rfl), trivial⟩ trivial
  rw [hrl] at g3
  have hlt3 : j < l.length := by omega
  have hget3 := rowsT_get hlt3
  generalize l.getD j .zero = w at hget3
  have hgj : (rowsT l)[(j : Int).toNat]? = some (tr w) := hget3
  have hstep : ∀ (o : List (Nat × SV)) , True := fun _ => trivial
  refine run 400 rfl ?_
  by_cases q1 : ordT u v < 0
  · by_cases q2 : ordT v w < 0
    · refine at_drawn 32 rfl rfl [(2, .val (.rp (tr u) 0)), (6, .val (.rp (tr v) 0)), (8, .sv .tt), (12, .val (.rp (tr v) 0)), (16, .val (.rp (tr w) 0)), (18, .sv .tt), (23, .val (.rp (tr u) 0)), (27, .val (.rp (tr w) 0)), (29, .sv .tt)] [20, 21, 22] rfl
        ⟨gives_is (c := true) (tless_fn u w hmu) (by simp [ord_trans q1 q2]), does_index ty_ok _ rfl rfl rfl (by omega) hgj rfl, does_index ty_ok _ rfl rfl rfl (by omega) hgi rfl, gives_is (c := true) (tless_fn v w hmv) (by simp [q2]), does_index ty_ok _ rfl rfl rfl (by omega) hgj rfl, does_index ty_ok _ rfl rfl rfl (by omega) hgk rfl, gives_is (c := true) (tless_fn u v hmu) (by simp [q1]), does_index ty_ok _ rfl rfl rfl (by omega) hgk rfl, does_index ty_ok _ rfl rfl rfl (by omega) hgi rfl⟩ ?_
      refine run 400 rfl ?_
      exact at_again (j + 1) (by omega) (by omega) ⟨SVle.refl _, SVle.refl _, SVle.refl _, SVle.of_eq (by show I ((j : Int) + 1) = I ((j + 1 : Nat) : Int); rw [Int.natCast_add]; rfl), trivial⟩ trivial
    · refine at_drawn 32 rfl rfl [(2, .val (.rp (tr u) 0)), (6, .val (.rp (tr v) 0)), (8, .sv .tt), (12, .val (.rp (tr v) 0)), (16, .val (.rp (tr w) 0)), (18, .sv .ff)] [20, 21, 22] rfl
        ⟨gives_is (c := false) (tless_fn v w hmv) (by simp [q2]), does_index ty_ok _ rfl rfl rfl (by omega) hgj rfl, does_index ty_ok _ rfl rfl rfl (by omega) hgk rfl, gives_is (c := true) (tless_fn u v hmu) (by simp [q1]), does_index ty_ok _ rfl rfl rfl (by omega) hgk rfl, does_index ty_ok _ rfl rfl rfl (by omega) hgi rfl⟩ ?_
      refine run 400 rfl ?_
      exact at_again (j + 1) (by omega) (by omega) ⟨SVle.refl _, SVle.refl _, SVle.refl _, SVle.of_eq (by show I ((j : Int) + 1) = I ((j + 1 : Nat) : Int); rw [Int.natCast_add]; rfl), trivial⟩ trivial
  · refine at_drawn 32 rfl rfl [(2, .val (.rp (tr u) 0)), (6, .val (.rp (tr v) 0)), (8, .sv .ff)] [20, 21, 22] rfl
      ⟨gives_is (c := false) (tless_fn u v hmu) (by simp [q1]), does_index ty_ok _ rfl rfl rfl (by omega) hgk rfl, does_index ty_ok _ rfl rfl rfl (by omega) hgi rfl⟩ ?_
    refine run 400 rfl ?_
    exact at_again (j + 1) (by omega) (by omega) ⟨SVle.refl _, SVle.refl _, SVle.refl _, SVle.of_eq (by show I ((j : Int) + 1) = I ((j + 1 : Nat) : Int); rw [Int.natCast_add]; rfl), trivial⟩ trivial
end Go.Proofs.Ytmnmhehddbemkaa
namespace Go.Proofs.Ytmnmhehddbemkaa
open Go Go.Eng
set_option maxRecDepth 100000

/-- The document's word for it. -/
theorem can31F_fn (l : List Tm) (t : Tm) (hm : ∀ u ∈ l, mayF u = true) (hl : l.length ≤ 1000000) (ht : mayF t = true) : Gives Try.prog 31 [.lst 4 (rowsT l), t.sv] (.bl (madeT (openF l) t)) := by
  have := can31_fn l t hm hl ht
  rw [made_congr (openM_mem fun t ht => mayF_gd (hm t ht)) t] at this
  exact this

abbrev pT : Tm := .mk 7 0 .empty [n1, aa]
abbrev hN : Tm := .mk 3 0 .empty [n1]

theorem may_pT : mayF pT = true := may_T2 7 n1 aa (by omega) (may_allR may_n1) (may_allR may_aa) (by simp [szT, szL]) (by simp [dpT, dpL]) (by simp [dpT, dpL])
theorem may_hN : mayF hN = true := may_T1 3 n1 (by omega) (may_allR may_n1) (by simp [szT, szL]) (by simp [dpT, dpL])
theorem ord_lt {a b : Tm} (h : a.k < b.k) : ordT a b < 0 := by
  have e : sgI a.k b.k = -1 := by unfold sgI; rw [if_pos h]
  rw [ordT_lex, e, orI_ne (by decide)]
  decide
theorem open_pT : openF [pT] = [aa, n1, pT] := by
  have hg : ∀ t ∈ [pT], Gd t := fun t ht => by rw [List.mem_singleton] at ht; subst ht; exact mayF_gd may_pT
  have hp := openF_P hg
  have h1 : pT ∈ openF [pT] := hp.has _ (by simp)
  have hparts : parts pT = [n1, aa] := by rw [parts, if_pos rfl]
  have h2 : n1 ∈ openF [pT] := hp.closed _ h1 n1 (by rw [hparts]; simp)
  have h3 : aa ∈ openF [pT] := hp.closed _ h1 aa (by rw [hparts]; simp)
  refine ss_ext totT (openF_ss _) ?_ fun x => ⟨fun hx => ?_, fun hx => ?_⟩
  · refine List.pairwise_cons.2 ⟨fun x hx => ?_, List.pairwise_cons.2 ⟨fun x hx => ?_, List.pairwise_singleton _ _⟩⟩
    · simp only [List.mem_cons, List.not_mem_nil, or_false] at hx
      rcases hx with rfl | rfl <;> exact ord_lt (by decide)
    · rw [List.mem_singleton] at hx; subst hx; exact ord_lt (by decide)
  · refine hp.least (· ∈ [aa, n1, pT]) (fun y hy => by rw [List.mem_singleton] at hy; subst hy; simp) (fun y hy p hpp => ?_) x hx
    simp only [List.mem_cons, List.not_mem_nil, or_false] at hy ⊢
    rcases hy with rfl | rfl | rfl
    · rw [parts] at hpp; simp at hpp
    · rw [parts] at hpp; simp at hpp
    · rw [hparts] at hpp
      simp only [List.mem_cons, List.not_mem_nil, or_false] at hpp
      rcases hpp with rfl | rfl <;> simp
  · simp only [List.mem_cons, List.not_mem_nil, or_false] at hx
    rcases hx with rfl | rfl | rfl
    · exact h3
    · exact h2
    · exact h1
theorem among_nil (t : Tm) : amongF [] t = false := rfl
theorem open_nil : openF [] = [] := rfl

theorem known28_fn : Gives Try.prog 28 [] .tt := by
  have k1 : Gives Try.prog 29 [.tl 4 [tr pT]] (.tl 4 (rowsT [aa, n1, pT])) := by
    have := open29_fn [pT] (by simpa using may_pT) (by simp [szT, szL])
    rw [open_pT] at this
    exact this.weak ⟨by rw [rowsT_cons, rowsT_nil]; exact SVle.tl _ _, trivial⟩
  have k2 : Gives Try.prog 31 [.tl 0 [], aa.sv] .tt := (gives_is (c := true) (can31F_fn [] aa (by simp) (by simp) may_aa) (by rw [madeT]; rfl)).weak ⟨SVle.nils, SVle.refl _, trivial⟩
  have k3 : Gives Try.prog 31 [.tl 0 [], n1.sv] .ff := (gives_is (c := false) (can31F_fn [] n1 (by simp) (by simp) may_n1) (by rw [madeT, open_nil, among_nil]; rfl)).weak ⟨SVle.nils, SVle.refl _, trivial⟩
  have hl3 : ∀ u ∈ [aa, n1, pT], mayF u = true := by
    intro u hu
    simp only [List.mem_cons, List.not_mem_nil, or_false] at hu
    rcases hu with rfl | rfl | rfl
    · exact may_aa
    · exact may_n1
    · exact may_pT
  have k4 : Gives Try.prog 31 [.tl 4 (rowsT [aa, n1, pT]), hN.sv] .tt := (gives_is (c := true) (can31F_fn [aa, n1, pT] hN hl3 (by simp) may_hN) (by
    have hn : n1 ∈ openF [aa, n1, pT] := (openF_P fun t ht => mayF_gd (hl3 t ht)).has _ (by simp)
    rw [madeT, madeL, madeL, made_in hn]
    simp)).weak ⟨SVle.tl _ _, SVle.refl _, trivial⟩
  have k5 : Gives Try.prog 31 [.tl 4 [tr hN], n1.sv] .ff := (gives_is (c := false) (can31F_fn [hN] n1 (by simpa using may_hN) (by simp) may_n1) (by
    have hn : amongF (openF [hN]) n1 = false := by
      cases e : amongF (openF [hN]) n1 with
      | false => rfl
      | true =>
        have := (openF_P (l := [hN]) (by intro t ht; rw [List.mem_singleton] at ht; subst ht; exact mayF_gd may_hN)).least (· = hN) (by simp) (fun y hy p hp => by subst hy; rw [parts] at hp; simp at hp) n1 (among_iff.1 e)
        cases this
    rw [madeT, hn]
    rfl)).weak ⟨by rw [rowsT_cons, rowsT_nil]; exact SVle.tl _ _, SVle.refl _, trivial⟩
  have hrows : rowsT [aa, n1, pT] = [tr aa, tr n1, tr pT] := by rw [rowsT_cons, rowsT_cons, rowsT_cons, rowsT_nil]
  rw [hrows] at k1 k4
  refine contract_of ty_ok [0, 1, 2, 3, 4, 5, 6, 7] Try.func28 rfl (by decide) Try.ntmps28 rfl fun z => ?_
  refine run 400 rfl ?_
  refine at_fn (A_fn _) rfl ?_
  refine at_fn (N_fn 1) rfl ?_
  refine run 400 rfl ?_
  refine at_gro (.tl 4 [tr n1, tr aa]) (doesG_build ty_ok _ rfl ⟨⟨rfl, rfl, _, rfl, SVles.refl _⟩, ⟨rfl, rfl, _, rfl, SVles.refl _⟩, trivial⟩ rfl rfl (by decide)) ?_
  refine at_fn (T2_fn 7 n1 aa) rfl ?_
  refine at_gro (.tl 4 [tr pT]) (doesG_build ty_ok _ rfl ⟨⟨rfl, rfl, _, rfl, SVles.refl _⟩, trivial⟩ rfl rfl (by decide)) ?_
  refine at_fn k1 rfl ?_
  refine run 400 rfl ?_
  refine at_drawn 28 rfl rfl [(3, .yes), (5, .sv .tt), (9, .sv .ff), (15, .gro (.tl 4 [tr n1])), (16, .sv hN.sv), (17, .sv .tt), (21, .gro (.tl 4 [tr n1])), (22, .sv hN.sv), (23, .gro (.tl 4 [tr hN])), (25, .sv .ff)] [20, 21, 22] rfl
    ⟨k5, doesG_build ty_ok _ rfl ⟨⟨rfl, rfl, _, rfl, SVles.refl _⟩, trivial⟩ rfl rfl (by decide), T1_fn 3 n1, doesG_build ty_ok _ rfl ⟨⟨rfl, rfl, _, rfl, SVles.refl _⟩, trivial⟩ rfl rfl (by decide), k4, T1_fn 3 n1, doesG_build ty_ok _ rfl ⟨⟨rfl, rfl, _, rfl, SVles.refl _⟩, trivial⟩ rfl rfl (by decide), k3, k2, rfl⟩ ?_
  refine run 400 rfl ?_
  exact at_ret rfl rfl [] ⟨rfl, rfl, rfl⟩ trivial

theorem knowAll_fn (ns ms : List Int) (h1 : ns.length ≤ 9223372036854775807) (h2 : ms.length ≤ 9223372036854775807) : Gives Try.prog 7 [.lst 1 (ints ns), .lst 1 (ints ms)] .tt := by
  have hT := terms_fn ns 12 h1 (by omega)
  have hlm := genL_may ns 12 0 (by omega)
  have hll := genL_len ns 12 0
  generalize genL ns 12 0 = l at hT hlm hll
  have hg : ∀ t ∈ l, Gd t := fun t ht => mayF_gd (hlm t ht)
  have hsz := szL_may hlm
  have hU := termsG_fn ms 8 h2 (by omega)
  have hum := genL_may ms 8 0 (by omega)
  have hul := genL_len ms 8 0
  generalize genL ms 8 0 = m0 at hU hum hul
  have hO := oneT_fn ms h2
  have hom := gen4_may ms
  generalize (genT ms 4 0).1 = one at hO hom
  have kO := open29_fn l hlm (by omega)
  have kR := open_fn l hg (by omega)
  have kc := fun t ht => can31F_fn l t hlm (by omega) ht
  have kr := fun (t : Tm) (ht : mayF t = true) => can_fn l t hg (by omega) (mayF_gd ht).sm
  have hOP := openF_P hg
  have hlenF := hOP.len
  have hFm := openF_may hlm
  generalize openF l = F at kO kR kc kr hlenF hFm
  have hAll := (all_fn F (fun x hx => (mayF_gd (hFm x hx)).sm) (by omega)).weak (args' := [.tl 4 (rowsT F), .lst 4 (rowsT F)]) ⟨SVle.tl _ _, SVle.refl _, trivial⟩
  have hm0l := rowsT_len m0
  refine contract_of ty_ok [0, 1, 2, 3, 4, 5, 6, 7] Try.func7 rfl (by decide) Try.ntmps7 rfl fun z => ?_
  refine run 400 rfl ?_
  refine at_fn known28_fn rfl ?_
  refine run 400 rfl ?_
  refine at_fn hT rfl ?_
  refine run 400 rfl ?_
  refine at_fn kO rfl ?_
  refine run 400 rfl ?_
  refine at_fn kR rfl ?_
  refine at_fn hAll rfl ?_
  refine run 400 rfl ?_
  refine at_callF [0] hU rfl trivial rfl rfl rfl ?_
  refine run 400 rfl ?_
  refine at_fn hO rfl ?_
  refine at_gro (.tl 4 [tr one]) (doesG_build ty_ok _ rfl ⟨⟨rfl, rfl, _, rfl, SVles.refl _⟩, trivial⟩ rfl rfl (by decide)) ?_
  refine at_grow 0 0 4 (rowsT m0 ++ [tr one]) rfl (doesU_append ty_ok rfl rfl rfl rfl rfl rfl rfl (by simp; omega) (by show _ * 56 ≤ _; simp; omega)) rfl ?_
  refine at_deg 0 ?_
  rw [show rowsT m0 ++ [tr one] = rowsT (m0 ++ [one]) by rw [rowsT_app, rowsT_cons, rowsT_nil]]
  have hMm : ∀ t ∈ m0 ++ [one], mayF t = true := fun t ht => by
    rcases List.mem_append.1 ht with h | h
    · exact hum t h
    · rw [List.mem_singleton] at h; subst h; exact hom
  have hMl : (m0 ++ [one]).length ≤ 10 := by simp; omega
  generalize m0 ++ [one] = M at hMm hMl
  have hrl := rowsT_len M
  refine run 400 rfl ?_
  refine at_loop (fun i : Nat => i ≤ M.length) (fun i => [(5, .lst 4 (rowsT l)), (23, .lst 4 (rowsT M)), (24, I (rowsT M).length), (25, I i)]) (fun _ => []) (fun i => M.length - i) [0, 1, 2, 3, 4, 5, 6, 7]
    0 (by omega) ⟨SVle.refl _, SVle.refl _, SVle.refl _, SVle.refl _, trivial⟩ trivial ?_
  intro i hi
  refine run 400 rfl ?_
  refine at_ifd rfl (fun g => ?_) (fun g => ?_)
  rotate_left
  · refine run 400 rfl ?_
    exact at_ret rfl rfl [] ⟨rfl, rfl, rfl⟩ trivial
  rw [hrl] at g
  have hlt : i < M.length := by omega
  have hget := rowsT_get hlt
  have hmt := hMm _ (getD_mem hlt)
  generalize M.getD i .zero = t at hget hmt
  refine run 400 rfl ?_
  refine at_val (.rp (tr t) 0) (does_index ty_ok _ rfl rfl rfl (by omega) (show (rowsT M)[(i : Int).toNat]? = some (tr t) from hget) rfl) ?_
  refine run 400 rfl ?_
  refine at_drawn 7 rfl rfl [(2, .sv (.bl (madeT F t))), (5, .sv (.bl (madeT F t)))] [20, 21, 22] rfl ⟨kr t hmt, kc t hmt⟩ ?_
  refine run 400 rfl ?_
  refine at_if rfl (fun q => by simp at q) (fun _ => ?_)
  refine run 400 rfl ?_
  exact at_again (i + 1) (by omega) (by omega) ⟨SVle.refl _, SVle.refl _, SVle.refl _, SVle.of_eq (by show I ((i : Int) + 1) = I ((i + 1 : Nat) : Int); rw [Int.natCast_add]; rfl), trivial⟩ trivial
end Go.Proofs.Ytmnmhehddbemkaa
namespace Go.Proofs.Ytmnmhehddbemkaa
open Go Go.Eng Go.MapKept
set_option maxRecDepth 100000

def entsA (R : List Tm) : Ents := (List.range R.length).map fun i => (.string (keyT (R.getD i .zero)), I i)
theorem entsA_app (R : List Tm) (t : Tm) : entsA (R ++ [t]) = entsA R ++ [(.string (keyT t), I R.length)] := by
  have h : ∀ i, i ∈ List.range R.length → (Value.string (keyT ((R ++ [t]).getD i .zero)), (I i : SV)) = (.string (keyT (R.getD i .zero)), I i) := fun i hi => by
    have hi := List.mem_range.1 hi
    simp only [List.getD_eq_getElem?_getD]
    rw [List.getElem?_append_left hi]
  have hl : (R ++ [t]).getD R.length .zero = t := by
    rw [List.getD_eq_getElem?_getD, List.getElem?_append_right (Nat.le_refl _), Nat.sub_self]
    rfl
  unfold entsA
  rw [List.length_append]
  show (List.range (R.length + 1)).map _ = _
  rw [List.range_succ, List.map_append, List.map_congr_left h]
  simp only [List.map_cons, List.map_nil, hl]
theorem entsA_mem {R : List Tm} {p : Value × SV} (hp : p ∈ entsA R) : ∃ (i : Nat) (t : Tm), R[i]? = some t ∧ p = (.string (keyT t), I i) := by
  obtain ⟨i, hi, rfl⟩ := List.mem_map.1 hp
  have hi := List.mem_range.1 hi
  exact ⟨i, R[i], by rw [List.getElem?_eq_getElem hi], by rw [List.getD_eq_getElem?_getD, List.getElem?_eq_getElem hi]; rfl⟩
theorem entsA_yes {R : List Tm} {i : Nat} {t : Tm} (h : R[i]? = some t) : (Value.string (keyT t), (I i : SV)) ∈ entsA R :=
  List.mem_map.2 ⟨i, List.mem_range.2 (List.getElem?_eq_some_iff.1 h).1, by rw [getD_of h]⟩
theorem entsA_no {R : List Tm} {t : Tm} (hR : ∀ u ∈ R, mayF u = true) (ht : mayF t = true) (hn : t ∉ R) : ∀ p ∈ entsA R, p.1 ≠ .string (keyT t) := by
  intro p hp e
  obtain ⟨i, u, hi, rfl⟩ := entsA_mem hp
  have hu : u ∈ R := List.mem_of_getElem? hi
  have e : keyT u = keyT t := by simpa using e
  have := keyT_inj (may_allR (hR u hu)) (may_allR ht) e
  subst this
  exact hn hu

abbrev wvO (F : FE) (R : List Tm) (M : List Mv) : List (Nat × SO) := [(0, .cells 80 [.mp 1, .mp 2, .gl 3 4 (rowsM M)]), (1, .obj (mapS .string (entsF F))), (2, .obj (mapS .string (entsA R))), (3, .tok 4)]
abbrev wvP (F : FE) (R : List Tm) (M : List Mv) : List (Nat × SO) := [(0, .cells 80 [.mp 1, .mp 2, .gl 4 4 (rowsM M)]), (1, .obj (mapS .string (entsF F))), (2, .obj (mapS .string (entsA R))), (4, .tok 4)]

theorem adds88_fn (t : Tm) (m : Mv) (F : FE) (R : List Tm) (M : List Mv) (ht : mayF t = true) (hR : ∀ u ∈ R, mayF u = true) (hn : t ∉ R) (hM : M.length = R.length) (hb : R.length ≤ 1000000) :
    Contract Try.prog 88 4 (wvO F R M) [.ptr 0 0, t.sv, m.sv] fun s post => s = I R.length ∧ post = wvP F (R ++ [t]) (M ++ [m]) := by
  have hK := key87_fn t ht (may_enc ht)
  have hml := (show (rowsM M).length = M.length by simp)
  have hml2 := (show (rowsM (M ++ [m])).length = M.length + 1 by simp)
  refine contract_of ty_ok [5, 6, 7, 8] Try.func88 rfl (by decide) Try.ntmps88 rfl fun z => ?_
  refine run 400 rfl ?_
  refine at_drawn_st 10 [3] rfl rfl [(6, .gro (.tl 4 [mr m])), (7, .eat 3 4 (rowsM M ++ [mr m]) none)] [20, 21, 22] rfl
    ⟨doesU_append ty_ok rfl rfl rfl rfl rfl rfl rfl (by simp; omega) (by show _ * 40 ≤ _; simp; omega), doesG_build ty_ok _ rfl ⟨⟨rfl, rfl, _, rfl, SVles.refl _⟩, trivial⟩ rfl rfl (by decide)⟩ ?_
  rw [show rowsM M ++ [mr m] = rowsM (M ++ [m]) by simp]
  refine run 400 rfl ?_
  refine at_renameC 0 20 4 4 2 rfl rfl rfl rfl ?_
  refine run 400 rfl ?_
  refine at_drawn 12 rfl rfl [(5, .sv (.str (keyT t)))] [20, 21, 22] rfl ⟨by simp only [inR]; omega, hK⟩ ?_
  rw [hml2, show ((M.length + 1 : Nat) : Int) - 1 = (R.length : Int) by omega]
  refine at_mput (I R.length) Try.underlying78 Try.underlying9 (.inl rfl) rfl rfl rfl rfl rfl rfl trivial (entsA_no hR ht hn) rfl ?_
  rw [← entsA_app]
  refine run 400 rfl ?_
  exact at_ret rfl rfl (wvP F (R ++ [t]) (M ++ [m])) ⟨by show I _ = _; rw [hml2, show ((M.length + 1 : Nat) : Int) - 1 = (R.length : Int) by omega], rfl⟩ ⟨rfl, rfl, rfl, rfl, trivial⟩
end Go.Proofs.Ytmnmhehddbemkaa
namespace Go.Proofs.Ytmnmhehddbemkaa
open Go Go.Eng Go.MapKept
set_option maxRecDepth 100000

/-- The contract of `proves`, for a term. -/
def PvC (l : List Tm) (F : FE) (t : Tm) : Prop := ∀ (R : List Tm) (M : List Mv), RInv l F R M → R.length + phi F R + costF F t ≤ 2000 →
    Contract Try.prog 62 4 (wvO F R M) [.ptr 0 0, t.sv] fun s post => ∃ (i : Nat) (R' : List Tm) (M' : List Mv), PvP l F t R i R' M' ∧ s = I i ∧ post = wvP F R' M'
structure MkP (l : List Tm) (F : FE) (t : Tm) (R : List Tm) (m : Mv) (R' : List Tm) (M' : List Mv) : Prop where
  inv : RInv l F R' M'
  step : StepOk l R' m t
  ext : ∃ S, R' = R ++ S ∧ ∀ x ∈ S, x ∈ keysF F ∨ szT x < szT t
  cost : R'.length + phi F R' ≤ R.length + phi F R + szL t.kids
abbrev kE (l : List (Int × Int)) : Ents := l.map fun p => (.int .i64 p.1, I p.2)
abbrev mkE' : Ents := kE [(1, 2), (3, 6), (4, 7), (5, 8), (6, 9), (7, 10)]
theorem mvK_mem {k : Int} (h : 1 ≤ k ∧ k ≤ 7) (h2 : k ≠ 2) : (Value.int .i64 k, (I (mvK k) : SV)) ∈ mkE' := by
  have : k = 1 ∨ k = 3 ∨ k = 4 ∨ k = 5 ∨ k = 6 ∨ k = 7 := by omega
  rcases this with rfl | rfl | rfl | rfl | rfl | rfl <;> simp [mkE', kE, mvK]
theorem get_ext {R S : List Tm} {i : Nat} {t : Tm} (h : R[i]? = some t) : (R ++ S)[i]? = some t := by
  rw [List.getElem?_append_left (List.getElem?_eq_some_iff.1 h).1]; exact h
structure MkI (l : List Tm) (F : FE) (t : Tm) (R0 : List Tm) (i a b : Nat) (R : List Tm) (M : List Mv) : Prop where
  inv : RInv l F R M
  ext : ∃ S, R = R0 ++ S ∧ ∀ x ∈ S, x ∈ keysF F ∨ szT x < szT t
  fst : 1 ≤ i → ∀ x, t.kids[0]? = some x → R[a]? = some x
  snd : 2 ≤ i → ∀ x, t.kids[1]? = some x → R[b]? = some x
  cost : R.length + phi F R ≤ R0.length + phi F R0 + szL (t.kids.take i)
theorem costF_le (F : FE) (t : Tm) : costF F t ≤ szT t := by unfold costF; split <;> omega
theorem MkI.next {l : List Tm} {F : FE} {t u : Tm} {R0 : List Tm} {i a b : Nat} {R : List Tm} {M : List Mv} (h : MkI l F t R0 i a b R M) (hu : t.kids[i]? = some u) (hs : szT u < szT t) {j : Nat} {R' : List Tm} {M' : List Mv} (hP : PvP l F u R j R' M') :
    MkI l F t R0 (i + 1) (if i = 0 then j else a) (if i = 0 then b else if i = 1 then j else b) R' M' := by
  obtain ⟨S, hS, hB⟩ := hP.ext
  obtain ⟨S0, hS0, hB0⟩ := h.ext
  refine ⟨hP.inv, ⟨S0 ++ S, by rw [hS, hS0, List.append_assoc], fun x hx => ?_⟩, fun _ x hx => ?_, fun h2 x hx => ?_, ?_⟩
  · rcases List.mem_append.1 hx with hx | hx
    · exact hB0 x hx
    · by_cases hk : u ∈ keysF F
      · obtain ⟨i, hi⟩ := List.mem_iff_getElem?.1 hk
        obtain ⟨k, _, hk⟩ := hB.1 i hi x hx
        exact .inl (List.mem_of_getElem? hk)
      · rcases hB.2 hk x hx with h | h
        · exact .inl h
        · exact .inr (by omega)
  · by_cases e : i = 0
    · subst e
      rw [if_pos rfl]
      rw [hu] at hx
      cases hx
      exact hP.at_
    · rw [if_neg e, hS]
      exact get_ext (h.fst (by omega) x hx)
  · have e0 : ¬ i = 0 := by omega
    rw [if_neg e0]
    by_cases e : i = 1
    · subst e
      rw [if_pos rfl]
      rw [hu] at hx
      cases hx
      exact hP.at_
    · rw [if_neg e, hS]
      exact get_ext (h.snd (by omega) x hx)
  · have h1 := hP.cost
    have h2 := h.cost
    have h3 := costF_le F u
    rw [List.take_add_one, hu, szL_app]
    have : szL (some u).toList = szT u := by simp [szL]
    rw [this]
    omega
theorem made_kids' {O : List Tm} {t : Tm} (hg : Gd t) (h : madeT O t = true) (hn : t ∉ O) : t.k ≠ 2 ∧ ∀ u ∈ t.kids, madeT O u = true := by
  obtain ⟨k, n, s, kl⟩ := t
  rw [madeT] at h
  have ha : amongF O (.mk k n s kl) = false := by
    cases e : amongF O (.mk k n s kl) with
    | false => rfl
    | true => exact absurd (among_iff.1 e) hn
  rw [ha, Bool.false_or, Bool.or_eq_true, Bool.and_eq_true] at h
  show k ≠ 2 ∧ ∀ u ∈ kl, madeT O u = true
  rcases h with h | ⟨h1, h2⟩
  · have h : k = 1 := by simpa using h
    subst h
    have := hg.ks.1
    have h1 : kidsF 1 = 0 := rfl
    have : kl = [] := List.length_eq_zero_iff.1 (by omega)
    subst this
    exact ⟨by decide, fun u hu => by cases hu⟩
  · exact ⟨by simpa using h1, fun u hu => madeL_mem h2 u hu⟩

theorem makes89_fn (l : List Tm) (F : FE) (t : Tm) (ht : mayF t = true) (hk2 : t.k ≠ 2) (hkids : ∀ u ∈ t.kids, PvC l F u) (R : List Tm) (M : List Mv) (hI : RInv l F R M) (hb : R.length + phi F R + szL t.kids ≤ 2000) :
    Contract Try.prog 89 4 (wvO F R M) [.ptr 0 0, t.sv] fun s post => ∃ (m : Mv) (R' : List Tm) (M' : List Mv), MkP l F t R m R' M' ∧ s = m.sv ∧ post = wvP F R' M' := by
  have hg := mayF_gd ht
  have hks := hg.ks'
  have hkk := kidsF_k (k := t.k) (by omega)
  have hk2' := kidsF_le t.k
  have hrl := rowsT_len t.kids
  have hszk : ∀ u ∈ t.kids, szT u < szT t := fun u hu => by
    have := szL_mem hu
    obtain ⟨k, n, s, kl⟩ := t
    rw [szT]
    have : szT u ≤ szL kl := this
    omega
  refine contract_of ty_ok [5, 6, 7, 8, 9, 10, 11, 12] Try.func89 rfl (by decide) Try.ntmps89 rfl fun z => ?_
  refine run 400 rfl ?_
  refine at_mkmap 9 rfl ?_
  refine at_weakO [(9, .obj (mapS (.int .i64) (kE []))), (6, .cells 37 [I 0, I 0, I 0, .str .empty]), (5, .cells 33 [I t.k, I t.n, .str t.s, .lst 4 (rowsT t.kids)]), (0, .cells 80 [.mp 1, .mp 2, .gl 3 4 (rowsM M)]), (1, .obj (mapS .string (entsF F))), (2, .obj (mapS .string (entsA R))), (3, .tok 4)] ⟨rfl, noMap_S _, rfl, ⟨rfl, SVles.refl _⟩, rfl, ⟨rfl, SVles.refl _⟩, rfl, ⟨rfl, SVles.refl _⟩, rfl, fun _ _ _ h => h, rfl, fun _ _ _ h => h, rfl, rfl, trivial⟩ ?_
  refine at_renameC 0 3 4 4 2 rfl rfl rfl rfl ?_
  refine run 400 rfl ?_
  refine at_mput (I 2) Try.underlying131 Try.underlying3 (.inr rfl) rfl rfl rfl rfl rfl rfl rfl (by simp [kE]) rfl ?_
  refine at_mput (I 6) Try.underlying131 Try.underlying3 (.inr rfl) rfl rfl rfl rfl rfl rfl rfl (by simp [kE]) rfl ?_
  refine at_mput (I 7) Try.underlying131 Try.underlying3 (.inr rfl) rfl rfl rfl rfl rfl rfl rfl (by simp [kE]) rfl ?_
  refine at_mput (I 8) Try.underlying131 Try.underlying3 (.inr rfl) rfl rfl rfl rfl rfl rfl rfl (by simp [kE]) rfl ?_
  refine at_mput (I 9) Try.underlying131 Try.underlying3 (.inr rfl) rfl rfl rfl rfl rfl rfl rfl (by simp [kE]) rfl ?_
  refine at_mput (I 10) Try.underlying131 Try.underlying3 (.inr rfl) rfl rfl rfl rfl rfl rfl rfl (by simp [kE]) rfl ?_
  rw [show kE [] ++ [(Value.int .i64 1, (I 2 : SV))] ++ [(.int .i64 3, I 6)] ++ [(.int .i64 4, I 7)] ++ [(.int .i64 5, I 8)] ++ [(.int .i64 6, I 9)] ++ [(.int .i64 7, I 10)] = mkE' from rfl]
  refine run 400 rfl ?_
  refine at_val (I (mvK t.k)) (does_lookY1 _ Try.underlying131 Try.underlying3 rfl rfl rfl rfl rfl (mvK_mem hkk hk2)) ?_
  refine run 400 rfl ?_
  refine at_loop (fun p : (Nat × Nat × Nat) × List Tm × List Mv => p.1.1 ≤ t.kids.length ∧ MkI l F t R p.1.1 p.1.2.1 p.1.2.2 p.2.1 p.2.2) (fun p => [(0, .ptr 0 0), (4, .ptr 6 0), (5, .ptr 7 0), (18, .lst 4 (rowsT t.kids)), (19, I (rowsT t.kids).length), (20, I p.1.1)]) (fun p => (7, .cells 37 [I (mvK t.k), I p.1.2.1, I p.1.2.2, .str t.s]) :: (6, .cells 37 [I 0, I 0, I 0, .str .empty]) :: wvP F p.2.1 p.2.2) (fun p => t.kids.length - p.1.1) [8, 10, 11, 12]
    ((0, 0, 0), R, M) ⟨by dsimp only; omega, hI, ⟨[], by simp, by simp⟩, fun h => absurd h (by dsimp only; omega), fun h => absurd h (by dsimp only; omega), by dsimp only; omega⟩ ⟨SVle.refl _, SVle.refl _, SVle.refl _, SVle.refl _, SVle.refl _, SVle.refl _, trivial⟩ ⟨rfl, rfl, rfl, rfl, rfl, rfl, trivial⟩ ?_
  rintro ⟨⟨i, a, b⟩, R1, M1⟩ ⟨a1, a2⟩
  dsimp only at a1 a2
  refine run 400 rfl ?_
  refine at_ifd rfl (fun g => ?_) (fun g => ?_)
  rotate_left
  · dsimp only at g
    rw [hrl] at g
    have e : i = t.kids.length := by omega
    subst e
    refine run 400 rfl ?_
    have hst : StepOk l R1 ⟨mvK t.k, a, b, t.s⟩ t := by
      obtain ⟨k, n, s, kl⟩ := t
      exact step_make ht hk2 rfl rfl (fun x hx => ⟨a, rfl, a2.fst (List.length_pos_of_mem (List.mem_of_getElem? hx)) x hx⟩) (fun x hx => ⟨b, rfl, a2.snd (by have := (List.getElem?_eq_some_iff.1 hx).1; show 2 ≤ kl.length; omega) x hx⟩)
    exact at_ret rfl rfl (wvP F R1 M1) ⟨⟨mvK t.k, a, b, t.s⟩, R1, M1, ⟨a2.inv, hst, a2.ext, by have := a2.cost; rw [List.take_length] at this; exact this⟩, rfl, rfl⟩ ⟨rfl, rfl, rfl, rfl, trivial⟩
  dsimp only at g
  rw [hrl] at g
  have hlt : i < t.kids.length := by omega
  have hi2 : i < 2 := by omega
  have hget := rowsT_get hlt
  have hmem := getD_mem hlt
  have hat : t.kids[i]? = some (t.kids.getD i .zero) := by rw [List.getD_eq_getElem?_getD, List.getElem?_eq_getElem hlt]; rfl
  generalize t.kids.getD i .zero = u at hget hmem hat
  have hcu := hkids u hmem R1 M1 a2.inv (by
    have h1 := a2.cost
    have h2 := costF_le F u
    have h3 : szL (t.kids.take (i + 1)) ≤ szL t.kids := by
      have := szL_app (t.kids.take (i + 1)) (t.kids.drop (i + 1))
      rw [List.take_append_drop] at this
      omega
    rw [List.take_add_one, hat, szL_app] at h3
    have : szL (some u).toList = szT u := by simp [szL]
    omega)
  refine run 400 rfl ?_
  refine at_val (.rp (tr u) 0) (does_index ty_ok _ rfl rfl rfl (by omega) (show (rowsT t.kids)[(i : Int).toNat]? = some (tr u) from hget) rfl) ?_
  refine run 400 rfl ?_
  refine at_callG [0, 1, 2, 4, 20] hcu rfl ⟨rfl, rfl, rfl, rfl, trivial⟩ rfl ?_
  rintro sv post ⟨j, R2, M2, hP, rfl, rfl⟩
  refine ⟨rfl, rfl, ?_⟩
  refine at_renameC 0 20 4 4 2 rfl rfl rfl rfl ?_
  have hN := a2.next hat (hszk u hmem) hP
  refine run 400 rfl ?_
  match i, hi2, hN with
  | 0, _, hN =>
    refine at_ifd rfl (fun _ => ?_) (fun q => absurd rfl q)
    refine run 400 rfl ?_
    exact at_again ((0 + 1, j, b), R2, M2) ⟨by dsimp only; omega, hN⟩ (by dsimp only; omega) ⟨SVle.refl _, SVle.refl _, SVle.refl _, SVle.refl _, SVle.refl _, SVle.refl _, trivial⟩ ⟨rfl, rfl, rfl, rfl, rfl, rfl, trivial⟩
  | 1, _, hN =>
    refine at_ifd rfl (fun q => by dsimp only at q; omega) (fun _ => ?_)
    refine run 400 rfl ?_
    exact at_again ((1 + 1, a, j), R2, M2) ⟨by dsimp only; omega, hN⟩ (by dsimp only; omega) ⟨SVle.refl _, SVle.refl _, SVle.refl _, SVle.refl _, SVle.refl _, SVle.refl _, trivial⟩ ⟨rfl, rfl, rfl, rfl, rfl, rfl, trivial⟩
end Go.Proofs.Ytmnmhehddbemkaa
