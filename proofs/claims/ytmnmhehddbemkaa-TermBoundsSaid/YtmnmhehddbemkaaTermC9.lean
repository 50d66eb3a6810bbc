/- The texts W4z, W5a, R1, R2, W6h, W6i, W6j, Mkz, W6k, W6l, X2, one behind the other: an executor over the translated code, contracts of functions, and their laws. -/

import Derived.Test.YtmnmhehddbemkaaTermC8
namespace Go.Proofs.Ytmnmhehddbemkaa
open Go Go.Eng
set_option maxRecDepth 100000

theorem one_bad (l res : List Tm) (c r : Nat) (m : Mv) (h : m.k < 1 ∨ 10 < m.k) : Contract Try.prog 60 2 (rsO l res c r) [.ptr 0 0, m.sv] fun s post => s = .tup [zSV, I 2] ∧ post = rsO l res c r := by
  refine contract_of ty_ok [3, 4, 5, 6, 7] Try.func60 rfl (by decide) Try.ntmps60 rfl fun z => ?_
  refine run 400 rfl ?_
  refine at_split 15 rfl (fun q => ?_) (fun q => ?_)
  · refine run 400 rfl ?_
    exact at_ret rfl rfl (rsO l res c r) ⟨rfl, rfl⟩ ⟨rfl, rfl, trivial⟩
  · refine run 400 rfl ?_
    refine at_ifd rfl (fun q2 => ?_) (fun q2 => ?_)
    · refine run 400 rfl ?_
      exact at_ret rfl rfl (rsO l res c r) ⟨rfl, rfl⟩ ⟨rfl, rfl, trivial⟩
    · exfalso
      simp at q
      omega
theorem one_known (l res : List Tm) (c r : Nat) (m : Mv) (hk : m.k = 1) (h : inF m.a l.length = true) : Contract Try.prog 60 2 (rsO l res c r) [.ptr 0 0, m.sv] fun s post => s = .tup [(l.getD m.a.toNat .zero).sv, I 0] ∧ post = rsO l res c r := by
  have hl := rowsT_len l
  have hn := inF_lt h
  have hget := rowsT_get (l := l) (n := m.a.toNat) (by omega)
  generalize l.getD m.a.toNat .zero = u at hget
  refine contract_of ty_ok [3, 4, 5, 6, 7] Try.func60 rfl (by decide) Try.ntmps60 rfl fun z => ?_
  refine run 400 rfl ?_
  refine at_false 15 rfl (by rw [hk]; rfl) ?_
  refine run 400 rfl ?_
  refine at_ifd rfl (fun q2 => by omega) (fun _ => ?_)
  refine run 400 rfl ?_
  refine at_drawn 19 rfl rfl [(2, .yes), (6, .no)] [20, 21, 22] rfl ⟨by simp; omega, by rw [hk]; rfl⟩ ?_
  refine run 400 rfl ?_
  refine at_ifd rfl (fun q2 => by omega) (fun _ => ?_)
  refine run 400 rfl ?_
  refine at_if rfl (fun _ => ?_) (fun q2 => by rw [hk] at q2; cases q2)
  refine run 400 rfl ?_
  refine at_drawn 8 rfl rfl [(6, .val (.rp (tr u) 0))] [20, 21, 22] rfl (by exact does_index ty_ok _ rfl rfl rfl (by omega) (show (rowsT l)[m.a.toNat]? = some (tr u) from hget) rfl) ?_
  refine run 400 rfl ?_
  exact at_ret rfl rfl (rsO l res c r) ⟨rfl, rfl⟩ ⟨rfl, rfl, trivial⟩
theorem one_known_no (l res : List Tm) (c r : Nat) (m : Mv) (hk : m.k = 1) (h : inF m.a l.length = false) : Contract Try.prog 60 2 (rsO l res c r) [.ptr 0 0, m.sv] fun s post => s = .tup [zSV, I 8] ∧ post = rsO l res c r := by
  have hl := rowsT_len l
  have hn : m.a < 0 ∨ (l.length : Int) ≤ m.a := by
    simp [inF] at h
    omega
  by_cases h0 : m.a < 0
  · refine contract_of ty_ok [3, 4, 5, 6, 7] Try.func60 rfl (by decide) Try.ntmps60 rfl fun z => ?_
    refine run 400 rfl ?_
    refine at_false 15 rfl (by rw [hk]; rfl) ?_
    refine run 400 rfl ?_
    refine at_ifd rfl (fun q2 => by omega) (fun _ => ?_)
    refine run 400 rfl ?_
    refine at_drawn 19 rfl rfl [(2, .yes), (6, .yes)] [20, 21, 22] rfl ⟨by simp; omega, by rw [hk]; rfl⟩ ?_
    refine run 400 rfl ?_
    exact at_ret rfl rfl (rsO l res c r) ⟨rfl, rfl⟩ ⟨rfl, rfl, trivial⟩
  · refine contract_of ty_ok [3, 4, 5, 6, 7] Try.func60 rfl (by decide) Try.ntmps60 rfl fun z => ?_
    refine run 400 rfl ?_
    refine at_false 15 rfl (by rw [hk]; rfl) ?_
    refine run 400 rfl ?_
    refine at_ifd rfl (fun q2 => by omega) (fun _ => ?_)
    refine run 400 rfl ?_
    refine at_drawn 19 rfl rfl [(2, .yes), (6, .no)] [20, 21, 22] rfl ⟨by simp; omega, by rw [hk]; rfl⟩ ?_
    refine run 400 rfl ?_
    refine at_ifd rfl (fun q2 => ?_) (fun _ => by omega)
    refine run 400 rfl ?_
    exact at_ret rfl rfl (rsO l res c r) ⟨rfl, rfl⟩ ⟨rfl, rfl, trivial⟩
theorem one_atom (l res : List Tm) (c r : Nat) (m : Mv) (hk : m.k = 2) : Contract Try.prog 60 2 (rsO l res c r) [.ptr 0 0, m.sv] fun s post => s = .tup [(Tm.mk 1 0 m.s []).sv, I 0] ∧ post = rsO l res c r := by
  refine contract_of ty_ok [3, 4, 5, 6, 7] Try.func60 rfl (by decide) Try.ntmps60 rfl fun z => ?_
  refine run 400 rfl ?_
  refine at_false 15 rfl (by rw [hk]; rfl) ?_
  refine run 400 rfl ?_
  refine at_ifd rfl (fun q2 => by omega) (fun _ => ?_)
  refine run 400 rfl ?_
  refine at_drawn 19 rfl rfl [(2, .no)] [20, 21, 22] rfl (by rw [hk]; rfl) ?_
  refine run 400 rfl ?_
  refine at_if rfl (fun q2 => by rw [hk] at q2; cases q2) (fun _ => ?_)
  refine run 400 rfl ?_
  refine at_if rfl (fun _ => ?_) (fun q2 => by rw [hk] at q2; cases q2)
  refine run 400 rfl ?_
  refine at_fn (A_fn m.s) rfl ?_
  refine run 400 rfl ?_
  exact at_ret rfl rfl (rsO l res c r) ⟨rfl, rfl⟩ ⟨rfl, rfl, trivial⟩
theorem one_left_no (l res : List Tm) (c r : Nat) (m : Mv) (hk : m.k = 3) (h : inF m.a res.length = false) : Contract Try.prog 60 2 (rsO l res c r) [.ptr 0 0, m.sv] fun s post => s = .tup [zSV, I 8] ∧ post = rsO l res c r := by
  have ha := at_no_fn l res c r m.a h
  by_cases hb : inF m.b res.length = true
  · refine contract_of ty_ok [3, 4, 5, 6, 7] Try.func60 rfl (by decide) Try.ntmps60 rfl fun z => ?_
    refine run 400 rfl ?_
    refine at_false 15 rfl (by rw [hk]; rfl) ?_
    refine run 400 rfl ?_
    refine at_ifd rfl (fun q2 => by omega) (fun _ => ?_)
    refine run 400 rfl ?_
    refine at_drawn 19 rfl rfl [(2, .no)] [20, 21, 22] rfl (by rw [hk]; rfl) ?_
    refine run 400 rfl ?_
    refine at_if rfl (fun q2 => by rw [hk] at q2; cases q2) (fun _ => ?_)
    refine run 400 rfl ?_
    refine at_if rfl (fun q2 => by rw [hk] at q2; cases q2) (fun _ => ?_)
    refine run 400 rfl ?_
    refine at_callF [0, 1] (ha) rfl ⟨rfl, rfl, trivial⟩ rfl rfl rfl ?_
    refine run 400 rfl ?_
    refine at_callF [0, 1] (at_yes_fn l res c r m.b hb) rfl ⟨rfl, rfl, trivial⟩ rfl rfl rfl ?_
    refine run 400 rfl ?_
    refine at_false 77 rfl (by rw [hk]; rfl) ?_
    refine run 400 rfl ?_
    refine at_false 82 rfl (by rw [hk]; rfl) ?_
    refine run 400 rfl ?_
    refine at_false 10 rfl (by rw [hk]; rfl) ?_
    refine run 400 rfl ?_
    exact at_ret rfl rfl (rsO l res c r) ⟨rfl, rfl⟩ ⟨rfl, rfl, trivial⟩
  · refine contract_of ty_ok [3, 4, 5, 6, 7] Try.func60 rfl (by decide) Try.ntmps60 rfl fun z => ?_
    refine run 400 rfl ?_
    refine at_false 15 rfl (by rw [hk]; rfl) ?_
    refine run 400 rfl ?_
    refine at_ifd rfl (fun q2 => by omega) (fun _ => ?_)
    refine run 400 rfl ?_
    refine at_drawn 19 rfl rfl [(2, .no)] [20, 21, 22] rfl (by rw [hk]; rfl) ?_
    refine run 400 rfl ?_
    refine at_if rfl (fun q2 => by rw [hk] at q2; cases q2) (fun _ => ?_)
    refine run 400 rfl ?_
    refine at_if rfl (fun q2 => by rw [hk] at q2; cases q2) (fun _ => ?_)
    refine run 400 rfl ?_
    refine at_callF [0, 1] (ha) rfl ⟨rfl, rfl, trivial⟩ rfl rfl rfl ?_
    refine run 400 rfl ?_
    refine at_callF [0, 1] (at_no_fn l res c r m.b (by simpa using hb)) rfl ⟨rfl, rfl, trivial⟩ rfl rfl rfl ?_
    refine run 400 rfl ?_
    refine at_false 77 rfl (by rw [hk]; rfl) ?_
    refine run 400 rfl ?_
    refine at_false 82 rfl (by rw [hk]; rfl) ?_
    refine run 400 rfl ?_
    refine at_false 10 rfl (by rw [hk]; rfl) ?_
    refine run 400 rfl ?_
    exact at_ret rfl rfl (rsO l res c r) ⟨rfl, rfl⟩ ⟨rfl, rfl, trivial⟩
theorem one_right_no (l res : List Tm) (c r : Nat) (m : Mv) (hk : m.k = 4) (h : inF m.a res.length = false) : Contract Try.prog 60 2 (rsO l res c r) [.ptr 0 0, m.sv] fun s post => s = .tup [zSV, I 8] ∧ post = rsO l res c r := by
  have ha := at_no_fn l res c r m.a h
  by_cases hb : inF m.b res.length = true
  · refine contract_of ty_ok [3, 4, 5, 6, 7] Try.func60 rfl (by decide) Try.ntmps60 rfl fun z => ?_
    refine run 400 rfl ?_
    refine at_false 15 rfl (by rw [hk]; rfl) ?_
    refine run 400 rfl ?_
    refine at_ifd rfl (fun q2 => by omega) (fun _ => ?_)
    refine run 400 rfl ?_
    refine at_drawn 19 rfl rfl [(2, .no)] [20, 21, 22] rfl (by rw [hk]; rfl) ?_
    refine run 400 rfl ?_
    refine at_if rfl (fun q2 => by rw [hk] at q2; cases q2) (fun _ => ?_)
    refine run 400 rfl ?_
    refine at_if rfl (fun q2 => by rw [hk] at q2; cases q2) (fun _ => ?_)
    refine run 400 rfl ?_
    refine at_callF [0, 1] (ha) rfl ⟨rfl, rfl, trivial⟩ rfl rfl rfl ?_
    refine run 400 rfl ?_
    refine at_callF [0, 1] (at_yes_fn l res c r m.b hb) rfl ⟨rfl, rfl, trivial⟩ rfl rfl rfl ?_
    refine run 400 rfl ?_
    refine at_false 77 rfl (by rw [hk]; rfl) ?_
    refine run 400 rfl ?_
    refine at_false 82 rfl (by rw [hk]; rfl) ?_
    refine run 400 rfl ?_
    refine at_false 10 rfl (by rw [hk]; rfl) ?_
    refine run 400 rfl ?_
    exact at_ret rfl rfl (rsO l res c r) ⟨rfl, rfl⟩ ⟨rfl, rfl, trivial⟩
  · refine contract_of ty_ok [3, 4, 5, 6, 7] Try.func60 rfl (by decide) Try.ntmps60 rfl fun z => ?_
    refine run 400 rfl ?_
    refine at_false 15 rfl (by rw [hk]; rfl) ?_
    refine run 400 rfl ?_
    refine at_ifd rfl (fun q2 => by omega) (fun _ => ?_)
    refine run 400 rfl ?_
    refine at_drawn 19 rfl rfl [(2, .no)] [20, 21, 22] rfl (by rw [hk]; rfl) ?_
    refine run 400 rfl ?_
    refine at_if rfl (fun q2 => by rw [hk] at q2; cases q2) (fun _ => ?_)
    refine run 400 rfl ?_
    refine at_if rfl (fun q2 => by rw [hk] at q2; cases q2) (fun _ => ?_)
    refine run 400 rfl ?_
    refine at_callF [0, 1] (ha) rfl ⟨rfl, rfl, trivial⟩ rfl rfl rfl ?_
    refine run 400 rfl ?_
    refine at_callF [0, 1] (at_no_fn l res c r m.b (by simpa using hb)) rfl ⟨rfl, rfl, trivial⟩ rfl rfl rfl ?_
    refine run 400 rfl ?_
    refine at_false 77 rfl (by rw [hk]; rfl) ?_
    refine run 400 rfl ?_
    refine at_false 82 rfl (by rw [hk]; rfl) ?_
    refine run 400 rfl ?_
    refine at_false 10 rfl (by rw [hk]; rfl) ?_
    refine run 400 rfl ?_
    exact at_ret rfl rfl (rsO l res c r) ⟨rfl, rfl⟩ ⟨rfl, rfl, trivial⟩
theorem one_open_no (l res : List Tm) (c r : Nat) (m : Mv) (hk : m.k = 5) (h : inF m.a res.length = false) : Contract Try.prog 60 2 (rsO l res c r) [.ptr 0 0, m.sv] fun s post => s = .tup [zSV, I 8] ∧ post = rsO l res c r := by
  have ha := at_no_fn l res c r m.a h
  by_cases hb : inF m.b res.length = true
  · refine contract_of ty_ok [3, 4, 5, 6, 7] Try.func60 rfl (by decide) Try.ntmps60 rfl fun z => ?_
    refine run 400 rfl ?_
    refine at_false 15 rfl (by rw [hk]; rfl) ?_
    refine run 400 rfl ?_
    refine at_ifd rfl (fun q2 => by omega) (fun _ => ?_)
    refine run 400 rfl ?_
    refine at_drawn 19 rfl rfl [(2, .no)] [20, 21, 22] rfl (by rw [hk]; rfl) ?_
    refine run 400 rfl ?_
    refine at_if rfl (fun q2 => by rw [hk] at q2; cases q2) (fun _ => ?_)
    refine run 400 rfl ?_
    refine at_if rfl (fun q2 => by rw [hk] at q2; cases q2) (fun _ => ?_)
    refine run 400 rfl ?_
    refine at_callF [0, 1] (ha) rfl ⟨rfl, rfl, trivial⟩ rfl rfl rfl ?_
    refine run 400 rfl ?_
    refine at_callF [0, 1] (at_yes_fn l res c r m.b hb) rfl ⟨rfl, rfl, trivial⟩ rfl rfl rfl ?_
    refine run 400 rfl ?_
    refine at_false 77 rfl (by rw [hk]; rfl) ?_
    refine run 400 rfl ?_
    refine at_false 82 rfl (by rw [hk]; rfl) ?_
    refine run 400 rfl ?_
    refine at_false 10 rfl (by rw [hk]; rfl) ?_
    refine run 400 rfl ?_
    exact at_ret rfl rfl (rsO l res c r) ⟨rfl, rfl⟩ ⟨rfl, rfl, trivial⟩
  · refine contract_of ty_ok [3, 4, 5, 6, 7] Try.func60 rfl (by decide) Try.ntmps60 rfl fun z => ?_
    refine run 400 rfl ?_
    refine at_false 15 rfl (by rw [hk]; rfl) ?_
    refine run 400 rfl ?_
    refine at_ifd rfl (fun q2 => by omega) (fun _ => ?_)
    refine run 400 rfl ?_
    refine at_drawn 19 rfl rfl [(2, .no)] [20, 21, 22] rfl (by rw [hk]; rfl) ?_
    refine run 400 rfl ?_
    refine at_if rfl (fun q2 => by rw [hk] at q2; cases q2) (fun _ => ?_)
    refine run 400 rfl ?_
    refine at_if rfl (fun q2 => by rw [hk] at q2; cases q2) (fun _ => ?_)
    refine run 400 rfl ?_
    refine at_callF [0, 1] (ha) rfl ⟨rfl, rfl, trivial⟩ rfl rfl rfl ?_
    refine run 400 rfl ?_
    refine at_callF [0, 1] (at_no_fn l res c r m.b (by simpa using hb)) rfl ⟨rfl, rfl, trivial⟩ rfl rfl rfl ?_
    refine run 400 rfl ?_
    refine at_false 77 rfl (by rw [hk]; rfl) ?_
    refine run 400 rfl ?_
    refine at_false 82 rfl (by rw [hk]; rfl) ?_
    refine run 400 rfl ?_
    refine at_false 10 rfl (by rw [hk]; rfl) ?_
    refine run 400 rfl ?_
    exact at_ret rfl rfl (rsO l res c r) ⟨rfl, rfl⟩ ⟨rfl, rfl, trivial⟩
theorem one_hash_no (l res : List Tm) (c r : Nat) (m : Mv) (hk : m.k = 6) (h : inF m.a res.length = false) : Contract Try.prog 60 2 (rsO l res c r) [.ptr 0 0, m.sv] fun s post => s = .tup [zSV, I 8] ∧ post = rsO l res c r := by
  have ha := at_no_fn l res c r m.a h
  by_cases hb : inF m.b res.length = true
  · refine contract_of ty_ok [3, 4, 5, 6, 7] Try.func60 rfl (by decide) Try.ntmps60 rfl fun z => ?_
    refine run 400 rfl ?_
    refine at_false 15 rfl (by rw [hk]; rfl) ?_
    refine run 400 rfl ?_
    refine at_ifd rfl (fun q2 => by omega) (fun _ => ?_)
    refine run 400 rfl ?_
    refine at_drawn 19 rfl rfl [(2, .no)] [20, 21, 22] rfl (by rw [hk]; rfl) ?_
    refine run 400 rfl ?_
    refine at_if rfl (fun q2 => by rw [hk] at q2; cases q2) (fun _ => ?_)
    refine run 400 rfl ?_
    refine at_if rfl (fun q2 => by rw [hk] at q2; cases q2) (fun _ => ?_)
    refine run 400 rfl ?_
    refine at_callF [0, 1] (ha) rfl ⟨rfl, rfl, trivial⟩ rfl rfl rfl ?_
    refine run 400 rfl ?_
    refine at_callF [0, 1] (at_yes_fn l res c r m.b hb) rfl ⟨rfl, rfl, trivial⟩ rfl rfl rfl ?_
    refine run 400 rfl ?_
    refine at_false 77 rfl (by rw [hk]; rfl) ?_
    refine run 400 rfl ?_
    refine at_false 82 rfl (by rw [hk]; rfl) ?_
    refine run 400 rfl ?_
    refine at_false 10 rfl (by rw [hk]; rfl) ?_
    refine run 400 rfl ?_
    exact at_ret rfl rfl (rsO l res c r) ⟨rfl, rfl⟩ ⟨rfl, rfl, trivial⟩
  · refine contract_of ty_ok [3, 4, 5, 6, 7] Try.func60 rfl (by decide) Try.ntmps60 rfl fun z => ?_
    refine run 400 rfl ?_
    refine at_false 15 rfl (by rw [hk]; rfl) ?_
    refine run 400 rfl ?_
    refine at_ifd rfl (fun q2 => by omega) (fun _ => ?_)
    refine run 400 rfl ?_
    refine at_drawn 19 rfl rfl [(2, .no)] [20, 21, 22] rfl (by rw [hk]; rfl) ?_
    refine run 400 rfl ?_
    refine at_if rfl (fun q2 => by rw [hk] at q2; cases q2) (fun _ => ?_)
    refine run 400 rfl ?_
    refine at_if rfl (fun q2 => by rw [hk] at q2; cases q2) (fun _ => ?_)
    refine run 400 rfl ?_
    refine at_callF [0, 1] (ha) rfl ⟨rfl, rfl, trivial⟩ rfl rfl rfl ?_
    refine run 400 rfl ?_
    refine at_callF [0, 1] (at_no_fn l res c r m.b (by simpa using hb)) rfl ⟨rfl, rfl, trivial⟩ rfl rfl rfl ?_
    refine run 400 rfl ?_
    refine at_false 77 rfl (by rw [hk]; rfl) ?_
    refine run 400 rfl ?_
    refine at_false 82 rfl (by rw [hk]; rfl) ?_
    refine run 400 rfl ?_
    refine at_false 10 rfl (by rw [hk]; rfl) ?_
    refine run 400 rfl ?_
    exact at_ret rfl rfl (rsO l res c r) ⟨rfl, rfl⟩ ⟨rfl, rfl, trivial⟩
theorem one_pub_no (l res : List Tm) (c r : Nat) (m : Mv) (hk : m.k = 7) (h : inF m.a res.length = false) : Contract Try.prog 60 2 (rsO l res c r) [.ptr 0 0, m.sv] fun s post => s = .tup [zSV, I 8] ∧ post = rsO l res c r := by
  have ha := at_no_fn l res c r m.a h
  by_cases hb : inF m.b res.length = true
  · refine contract_of ty_ok [3, 4, 5, 6, 7] Try.func60 rfl (by decide) Try.ntmps60 rfl fun z => ?_
    refine run 400 rfl ?_
    refine at_false 15 rfl (by rw [hk]; rfl) ?_
    refine run 400 rfl ?_
    refine at_ifd rfl (fun q2 => by omega) (fun _ => ?_)
    refine run 400 rfl ?_
    refine at_drawn 19 rfl rfl [(2, .no)] [20, 21, 22] rfl (by rw [hk]; rfl) ?_
    refine run 400 rfl ?_
    refine at_if rfl (fun q2 => by rw [hk] at q2; cases q2) (fun _ => ?_)
    refine run 400 rfl ?_
    refine at_if rfl (fun q2 => by rw [hk] at q2; cases q2) (fun _ => ?_)
    refine run 400 rfl ?_
    refine at_callF [0, 1] (ha) rfl ⟨rfl, rfl, trivial⟩ rfl rfl rfl ?_
    refine run 400 rfl ?_
    refine at_callF [0, 1] (at_yes_fn l res c r m.b hb) rfl ⟨rfl, rfl, trivial⟩ rfl rfl rfl ?_
    refine run 400 rfl ?_
    refine at_false 77 rfl (by rw [hk]; rfl) ?_
    refine run 400 rfl ?_
    refine at_false 82 rfl (by rw [hk]; rfl) ?_
    refine run 400 rfl ?_
    refine at_false 10 rfl (by rw [hk]; rfl) ?_
    refine run 400 rfl ?_
    exact at_ret rfl rfl (rsO l res c r) ⟨rfl, rfl⟩ ⟨rfl, rfl, trivial⟩
  · refine contract_of ty_ok [3, 4, 5, 6, 7] Try.func60 rfl (by decide) Try.ntmps60 rfl fun z => ?_
    refine run 400 rfl ?_
    refine at_false 15 rfl (by rw [hk]; rfl) ?_
    refine run 400 rfl ?_
    refine at_ifd rfl (fun q2 => by omega) (fun _ => ?_)
    refine run 400 rfl ?_
    refine at_drawn 19 rfl rfl [(2, .no)] [20, 21, 22] rfl (by rw [hk]; rfl) ?_
    refine run 400 rfl ?_
    refine at_if rfl (fun q2 => by rw [hk] at q2; cases q2) (fun _ => ?_)
    refine run 400 rfl ?_
    refine at_if rfl (fun q2 => by rw [hk] at q2; cases q2) (fun _ => ?_)
    refine run 400 rfl ?_
    refine at_callF [0, 1] (ha) rfl ⟨rfl, rfl, trivial⟩ rfl rfl rfl ?_
    refine run 400 rfl ?_
    refine at_callF [0, 1] (at_no_fn l res c r m.b (by simpa using hb)) rfl ⟨rfl, rfl, trivial⟩ rfl rfl rfl ?_
    refine run 400 rfl ?_
    refine at_false 77 rfl (by rw [hk]; rfl) ?_
    refine run 400 rfl ?_
    refine at_false 82 rfl (by rw [hk]; rfl) ?_
    refine run 400 rfl ?_
    refine at_false 10 rfl (by rw [hk]; rfl) ?_
    refine run 400 rfl ?_
    exact at_ret rfl rfl (rsO l res c r) ⟨rfl, rfl⟩ ⟨rfl, rfl, trivial⟩
theorem T1_fn (k : Int) (u : Tm) : Gives Try.prog 35 [I k, .tl 4 [tr u]] (Tm.mk k 0 .empty [u]).sv := (T_fn k [u]).weak ⟨SVle.refl _, by rw [rowsT_cons, rowsT_nil]; exact SVle.tl _ _, trivial⟩
theorem T2_fn (k : Int) (u v : Tm) : Gives Try.prog 35 [I k, .tl 4 [tr u, tr v]] (Tm.mk k 0 .empty [u, v]).sv := (T_fn k [u, v]).weak ⟨SVle.refl _, by rw [rowsT_cons, rowsT_cons, rowsT_nil]; exact SVle.tl _ _, trivial⟩
theorem one_left_form (l res : List Tm) (c r : Nat) (m : Mv) (hk : m.k = 3) (h : inF m.a res.length = true) (hq : (res.getD m.a.toNat .zero).k ≠ 7) : Contract Try.prog 60 2 (rsO l res c r) [.ptr 0 0, m.sv] fun s post => s = .tup [zSV, I 3] ∧ post = rsO l res c r := by
  have ha := at_yes_fn l res c r m.a h
  generalize res.getD m.a.toNat .zero = u at ha hq
  by_cases hb : inF m.b res.length = true
  · refine contract_of ty_ok [3, 4, 5, 6, 7] Try.func60 rfl (by decide) Try.ntmps60 rfl fun z => ?_
    refine run 400 rfl ?_
    refine at_false 15 rfl (by rw [hk]; rfl) ?_
    refine run 400 rfl ?_
    refine at_ifd rfl (fun q2 => by omega) (fun _ => ?_)
    refine run 400 rfl ?_
    refine at_drawn 19 rfl rfl [(2, .no)] [20, 21, 22] rfl (by rw [hk]; rfl) ?_
    refine run 400 rfl ?_
    refine at_if rfl (fun q2 => by rw [hk] at q2; cases q2) (fun _ => ?_)
    refine run 400 rfl ?_
    refine at_if rfl (fun q2 => by rw [hk] at q2; cases q2) (fun _ => ?_)
    refine run 400 rfl ?_
    refine at_callF [0, 1] (ha) rfl ⟨rfl, rfl, trivial⟩ rfl rfl rfl ?_
    refine run 400 rfl ?_
    refine at_callF [0, 1] (at_yes_fn l res c r m.b hb) rfl ⟨rfl, rfl, trivial⟩ rfl rfl rfl ?_
    refine run 400 rfl ?_
    refine at_false 77 rfl (by rw [hk]; rfl) ?_
    refine run 400 rfl ?_
    refine at_false 82 rfl (by rw [hk]; rfl) ?_
    refine run 400 rfl ?_
    refine at_false 91 rfl (by rw [hk]; rfl) ?_
    refine run 400 rfl ?_
    refine at_if rfl (fun _ => ?_) (fun q2 => by rw [hk] at q2; cases q2)
    refine run 400 rfl ?_
    refine at_if rfl (fun _ => ?_) (fun q2 => by rw [hk] at q2; cases q2)
    refine run 400 rfl ?_
    refine at_if rfl (fun _ => ?_) (fun q2 => absurd (by simpa using q2) hq)
    refine run 400 rfl ?_
    exact at_ret rfl rfl (rsO l res c r) ⟨rfl, rfl⟩ ⟨rfl, rfl, trivial⟩
  · refine contract_of ty_ok [3, 4, 5, 6, 7] Try.func60 rfl (by decide) Try.ntmps60 rfl fun z => ?_
    refine run 400 rfl ?_
    refine at_false 15 rfl (by rw [hk]; rfl) ?_
    refine run 400 rfl ?_
    refine at_ifd rfl (fun q2 => by omega) (fun _ => ?_)
    refine run 400 rfl ?_
    refine at_drawn 19 rfl rfl [(2, .no)] [20, 21, 22] rfl (by rw [hk]; rfl) ?_
    refine run 400 rfl ?_
    refine at_if rfl (fun q2 => by rw [hk] at q2; cases q2) (fun _ => ?_)
    refine run 400 rfl ?_
    refine at_if rfl (fun q2 => by rw [hk] at q2; cases q2) (fun _ => ?_)
    refine run 400 rfl ?_
    refine at_callF [0, 1] (ha) rfl ⟨rfl, rfl, trivial⟩ rfl rfl rfl ?_
    refine run 400 rfl ?_
    refine at_callF [0, 1] (at_no_fn l res c r m.b (by simpa using hb)) rfl ⟨rfl, rfl, trivial⟩ rfl rfl rfl ?_
    refine run 400 rfl ?_
    refine at_false 77 rfl (by rw [hk]; rfl) ?_
    refine run 400 rfl ?_
    refine at_false 82 rfl (by rw [hk]; rfl) ?_
    refine run 400 rfl ?_
    refine at_false 91 rfl (by rw [hk]; rfl) ?_
    refine run 400 rfl ?_
    refine at_if rfl (fun _ => ?_) (fun q2 => by rw [hk] at q2; cases q2)
    refine run 400 rfl ?_
    refine at_if rfl (fun _ => ?_) (fun q2 => by rw [hk] at q2; cases q2)
    refine run 400 rfl ?_
    refine at_if rfl (fun _ => ?_) (fun q2 => absurd (by simpa using q2) hq)
    refine run 400 rfl ?_
    exact at_ret rfl rfl (rsO l res c r) ⟨rfl, rfl⟩ ⟨rfl, rfl, trivial⟩
theorem one_left (l res : List Tm) (c r : Nat) (m : Mv) (hk : m.k = 3) (h : inF m.a res.length = true) (hq : (res.getD m.a.toNat .zero).k = 7) (hn : 0 < (res.getD m.a.toNat .zero).kids.length) : Contract Try.prog 60 2 (rsO l res c r) [.ptr 0 0, m.sv] fun s post => s = .tup [((res.getD m.a.toNat .zero).kids.getD 0 .zero).sv, I 0] ∧ post = rsO l res c r := by
  have ha := at_yes_fn l res c r m.a h
  generalize res.getD m.a.toNat .zero = u at ha hq hn
  have hget := rowsT_get hn
  generalize u.kids.getD 0 .zero = v at hget
  by_cases hb : inF m.b res.length = true
  · refine contract_of ty_ok [3, 4, 5, 6, 7] Try.func60 rfl (by decide) Try.ntmps60 rfl fun z => ?_
    refine run 400 rfl ?_
    refine at_false 15 rfl (by rw [hk]; rfl) ?_
    refine run 400 rfl ?_
    refine at_ifd rfl (fun q2 => by omega) (fun _ => ?_)
    refine run 400 rfl ?_
    refine at_drawn 19 rfl rfl [(2, .no)] [20, 21, 22] rfl (by rw [hk]; rfl) ?_
    refine run 400 rfl ?_
    refine at_if rfl (fun q2 => by rw [hk] at q2; cases q2) (fun _ => ?_)
    refine run 400 rfl ?_
    refine at_if rfl (fun q2 => by rw [hk] at q2; cases q2) (fun _ => ?_)
    refine run 400 rfl ?_
    refine at_callF [0, 1] (ha) rfl ⟨rfl, rfl, trivial⟩ rfl rfl rfl ?_
    refine run 400 rfl ?_
    refine at_callF [0, 1] (at_yes_fn l res c r m.b hb) rfl ⟨rfl, rfl, trivial⟩ rfl rfl rfl ?_
    refine run 400 rfl ?_
    refine at_false 77 rfl (by rw [hk]; rfl) ?_
    refine run 400 rfl ?_
    refine at_false 82 rfl (by rw [hk]; rfl) ?_
    refine run 400 rfl ?_
    refine at_false 91 rfl (by rw [hk]; rfl) ?_
    refine run 400 rfl ?_
    refine at_if rfl (fun _ => ?_) (fun q2 => by rw [hk] at q2; cases q2)
    refine run 400 rfl ?_
    refine at_if rfl (fun _ => ?_) (fun q2 => by rw [hk] at q2; cases q2)
    refine run 400 rfl ?_
    refine at_if rfl (fun q2 => absurd hq (by simpa using q2)) (fun _ => ?_)
    refine run 400 rfl ?_
    refine at_val (.rp (tr v) 0) (does_index ty_ok _ rfl rfl rfl (by omega) (show (rowsT u.kids)[(m.k - 3).toNat]? = some (tr v) from by rw [hk]; exact hget) rfl) ?_
    refine run 400 rfl ?_
    exact at_ret rfl rfl (rsO l res c r) ⟨rfl, rfl⟩ ⟨rfl, rfl, trivial⟩
  · refine contract_of ty_ok [3, 4, 5, 6, 7] Try.func60 rfl (by decide) Try.ntmps60 rfl fun z => ?_
    refine run 400 rfl ?_
    refine at_false 15 rfl (by rw [hk]; rfl) ?_
    refine run 400 rfl ?_
    refine at_ifd rfl (fun q2 => by omega) (fun _ => ?_)
    refine run 400 rfl ?_
    refine at_drawn 19 rfl rfl [(2, .no)] [20, 21, 22] rfl (by rw [hk]; rfl) ?_
    refine run 400 rfl ?_
    refine at_if rfl (fun q2 => by rw [hk] at q2; cases q2) (fun _ => ?_)
    refine run 400 rfl ?_
    refine at_if rfl (fun q2 => by rw [hk] at q2; cases q2) (fun _ => ?_)
    refine run 400 rfl ?_
    refine at_callF [0, 1] (ha) rfl ⟨rfl, rfl, trivial⟩ rfl rfl rfl ?_
    refine run 400 rfl ?_
    refine at_callF [0, 1] (at_no_fn l res c r m.b (by simpa using hb)) rfl ⟨rfl, rfl, trivial⟩ rfl rfl rfl ?_
    refine run 400 rfl ?_
    refine at_false 77 rfl (by rw [hk]; rfl) ?_
    refine run 400 rfl ?_
    refine at_false 82 rfl (by rw [hk]; rfl) ?_
    refine run 400 rfl ?_
    refine at_false 91 rfl (by rw [hk]; rfl) ?_
    refine run 400 rfl ?_
    refine at_if rfl (fun _ => ?_) (fun q2 => by rw [hk] at q2; cases q2)
    refine run 400 rfl ?_
    refine at_if rfl (fun _ => ?_) (fun q2 => by rw [hk] at q2; cases q2)
    refine run 400 rfl ?_
    refine at_if rfl (fun q2 => absurd hq (by simpa using q2)) (fun _ => ?_)
    refine run 400 rfl ?_
    refine at_val (.rp (tr v) 0) (does_index ty_ok _ rfl rfl rfl (by omega) (show (rowsT u.kids)[(m.k - 3).toNat]? = some (tr v) from by rw [hk]; exact hget) rfl) ?_
    refine run 400 rfl ?_
    exact at_ret rfl rfl (rsO l res c r) ⟨rfl, rfl⟩ ⟨rfl, rfl, trivial⟩
theorem one_right_form (l res : List Tm) (c r : Nat) (m : Mv) (hk : m.k = 4) (h : inF m.a res.length = true) (hq : (res.getD m.a.toNat .zero).k ≠ 7) : Contract Try.prog 60 2 (rsO l res c r) [.ptr 0 0, m.sv] fun s post => s = .tup [zSV, I 3] ∧ post = rsO l res c r := by
  have ha := at_yes_fn l res c r m.a h
  generalize res.getD m.a.toNat .zero = u at ha hq
  by_cases hb : inF m.b res.length = true
  · refine contract_of ty_ok [3, 4, 5, 6, 7] Try.func60 rfl (by decide) Try.ntmps60 rfl fun z => ?_
    refine run 400 rfl ?_
    refine at_false 15 rfl (by rw [hk]; rfl) ?_
    refine run 400 rfl ?_
    refine at_ifd rfl (fun q2 => by omega) (fun _ => ?_)
    refine run 400 rfl ?_
    refine at_drawn 19 rfl rfl [(2, .no)] [20, 21, 22] rfl (by rw [hk]; rfl) ?_
    refine run 400 rfl ?_
    refine at_if rfl (fun q2 => by rw [hk] at q2; cases q2) (fun _ => ?_)
    refine run 400 rfl ?_
    refine at_if rfl (fun q2 => by rw [hk] at q2; cases q2) (fun _ => ?_)
    refine run 400 rfl ?_
    refine at_callF [0, 1] (ha) rfl ⟨rfl, rfl, trivial⟩ rfl rfl rfl ?_
    refine run 400 rfl ?_
    refine at_callF [0, 1] (at_yes_fn l res c r m.b hb) rfl ⟨rfl, rfl, trivial⟩ rfl rfl rfl ?_
    refine run 400 rfl ?_
    refine at_false 77 rfl (by rw [hk]; rfl) ?_
    refine run 400 rfl ?_
    refine at_false 82 rfl (by rw [hk]; rfl) ?_
    refine run 400 rfl ?_
    refine at_false 91 rfl (by rw [hk]; rfl) ?_
    refine run 400 rfl ?_
    refine at_if rfl (fun q2 => by rw [hk] at q2; cases q2) (fun _ => ?_)
    refine run 400 rfl ?_
    refine at_if rfl (fun _ => ?_) (fun q2 => by rw [hk] at q2; cases q2)
    refine run 400 rfl ?_
    refine at_if rfl (fun _ => ?_) (fun q2 => absurd (by simpa using q2) hq)
    refine run 400 rfl ?_
    exact at_ret rfl rfl (rsO l res c r) ⟨rfl, rfl⟩ ⟨rfl, rfl, trivial⟩
  · refine contract_of ty_ok [3, 4, 5, 6, 7] Try.func60 rfl (by decide) Try.ntmps60 rfl fun z => ?_
    refine run 400 rfl ?_
    refine at_false 15 rfl (by rw [hk]; rfl) ?_
    refine run 400 rfl ?_
    refine at_ifd rfl (fun q2 => by omega) (fun _ => ?_)
    refine run 400 rfl ?_
    refine at_drawn 19 rfl rfl [(2, .no)] [20, 21, 22] rfl (by rw [hk]; rfl) ?_
    refine run 400 rfl ?_
    refine at_if rfl (fun q2 => by rw [hk] at q2; cases q2) (fun _ => ?_)
    refine run 400 rfl ?_
    refine at_if rfl (fun q2 => by rw [hk] at q2; cases q2) (fun _ => ?_)
    refine run 400 rfl ?_
    refine at_callF [0, 1] (ha) rfl ⟨rfl, rfl, trivial⟩ rfl rfl rfl ?_
    refine run 400 rfl ?_
    refine at_callF [0, 1] (at_no_fn l res c r m.b (by simpa using hb)) rfl ⟨rfl, rfl, trivial⟩ rfl rfl rfl ?_
    refine run 400 rfl ?_
    refine at_false 77 rfl (by rw [hk]; rfl) ?_
    refine run 400 rfl ?_
    refine at_false 82 rfl (by rw [hk]; rfl) ?_
    refine run 400 rfl ?_
    refine at_false 91 rfl (by rw [hk]; rfl) ?_
    refine run 400 rfl ?_
    refine at_if rfl (fun q2 => by rw [hk] at q2; cases q2) (fun _ => ?_)
    refine run 400 rfl ?_
    refine at_if rfl (fun _ => ?_) (fun q2 => by rw [hk] at q2; cases q2)
    refine run 400 rfl ?_
    refine at_if rfl (fun _ => ?_) (fun q2 => absurd (by simpa using q2) hq)
    refine run 400 rfl ?_
    exact at_ret rfl rfl (rsO l res c r) ⟨rfl, rfl⟩ ⟨rfl, rfl, trivial⟩
theorem one_right (l res : List Tm) (c r : Nat) (m : Mv) (hk : m.k = 4) (h : inF m.a res.length = true) (hq : (res.getD m.a.toNat .zero).k = 7) (hn : 1 < (res.getD m.a.toNat .zero).kids.length) : Contract Try.prog 60 2 (rsO l res c r) [.ptr 0 0, m.sv] fun s post => s = .tup [((res.getD m.a.toNat .zero).kids.getD 1 .zero).sv, I 0] ∧ post = rsO l res c r := by
  have ha := at_yes_fn l res c r m.a h
  generalize res.getD m.a.toNat .zero = u at ha hq hn
  have hget := rowsT_get hn
  generalize u.kids.getD 1 .zero = v at hget
  by_cases hb : inF m.b res.length = true
  · refine contract_of ty_ok [3, 4, 5, 6, 7] Try.func60 rfl (by decide) Try.ntmps60 rfl fun z => ?_
    refine run 400 rfl ?_
    refine at_false 15 rfl (by rw [hk]; rfl) ?_
    refine run 400 rfl ?_
    refine at_ifd rfl (fun q2 => by omega) (fun _ => ?_)
    refine run 400 rfl ?_
    refine at_drawn 19 rfl rfl [(2, .no)] [20, 21, 22] rfl (by rw [hk]; rfl) ?_
    refine run 400 rfl ?_
    refine at_if rfl (fun q2 => by rw [hk] at q2; cases q2) (fun _ => ?_)
    refine run 400 rfl ?_
    refine at_if rfl (fun q2 => by rw [hk] at q2; cases q2) (fun _ => ?_)
    refine run 400 rfl ?_
    refine at_callF [0, 1] (ha) rfl ⟨rfl, rfl, trivial⟩ rfl rfl rfl ?_
    refine run 400 rfl ?_
    refine at_callF [0, 1] (at_yes_fn l res c r m.b hb) rfl ⟨rfl, rfl, trivial⟩ rfl rfl rfl ?_
    refine run 400 rfl ?_
    refine at_false 77 rfl (by rw [hk]; rfl) ?_
    refine run 400 rfl ?_
    refine at_false 82 rfl (by rw [hk]; rfl) ?_
    refine run 400 rfl ?_
    refine at_false 91 rfl (by rw [hk]; rfl) ?_
    refine run 400 rfl ?_
    refine at_if rfl (fun q2 => by rw [hk] at q2; cases q2) (fun _ => ?_)
    refine run 400 rfl ?_
    refine at_if rfl (fun _ => ?_) (fun q2 => by rw [hk] at q2; cases q2)
    refine run 400 rfl ?_
    refine at_if rfl (fun q2 => absurd hq (by simpa using q2)) (fun _ => ?_)
    refine run 400 rfl ?_
    refine at_val (.rp (tr v) 0) (does_index ty_ok _ rfl rfl rfl (by omega) (show (rowsT u.kids)[(m.k - 3).toNat]? = some (tr v) from by rw [hk]; exact hget) rfl) ?_
    refine run 400 rfl ?_
    exact at_ret rfl rfl (rsO l res c r) ⟨rfl, rfl⟩ ⟨rfl, rfl, trivial⟩
  · refine contract_of ty_ok [3, 4, 5, 6, 7] Try.func60 rfl (by decide) Try.ntmps60 rfl fun z => ?_
    refine run 400 rfl ?_
    refine at_false 15 rfl (by rw [hk]; rfl) ?_
    refine run 400 rfl ?_
    refine at_ifd rfl (fun q2 => by omega) (fun _ => ?_)
    refine run 400 rfl ?_
    refine at_drawn 19 rfl rfl [(2, .no)] [20, 21, 22] rfl (by rw [hk]; rfl) ?_
    refine run 400 rfl ?_
    refine at_if rfl (fun q2 => by rw [hk] at q2; cases q2) (fun _ => ?_)
    refine run 400 rfl ?_
    refine at_if rfl (fun q2 => by rw [hk] at q2; cases q2) (fun _ => ?_)
    refine run 400 rfl ?_
    refine at_callF [0, 1] (ha) rfl ⟨rfl, rfl, trivial⟩ rfl rfl rfl ?_
    refine run 400 rfl ?_
    refine at_callF [0, 1] (at_no_fn l res c r m.b (by simpa using hb)) rfl ⟨rfl, rfl, trivial⟩ rfl rfl rfl ?_
    refine run 400 rfl ?_
    refine at_false 77 rfl (by rw [hk]; rfl) ?_
    refine run 400 rfl ?_
    refine at_false 82 rfl (by rw [hk]; rfl) ?_
    refine run 400 rfl ?_
    refine at_false 91 rfl (by rw [hk]; rfl) ?_
    refine run 400 rfl ?_
    refine at_if rfl (fun q2 => by rw [hk] at q2; cases q2) (fun _ => ?_)
    refine run 400 rfl ?_
    refine at_if rfl (fun _ => ?_) (fun q2 => by rw [hk] at q2; cases q2)
    refine run 400 rfl ?_
    refine at_if rfl (fun q2 => absurd hq (by simpa using q2)) (fun _ => ?_)
    refine run 400 rfl ?_
    refine at_val (.rp (tr v) 0) (does_index ty_ok _ rfl rfl rfl (by omega) (show (rowsT u.kids)[(m.k - 3).toNat]? = some (tr v) from by rw [hk]; exact hget) rfl) ?_
    refine run 400 rfl ?_
    exact at_ret rfl rfl (rsO l res c r) ⟨rfl, rfl⟩ ⟨rfl, rfl, trivial⟩
theorem one_open_form (l res : List Tm) (c r : Nat) (m : Mv) (hk : m.k = 5) (h : inF m.a res.length = true) (hq : (res.getD m.a.toNat .zero).k ≠ 6) : Contract Try.prog 60 2 (rsO l res c r) [.ptr 0 0, m.sv] fun s post => s = .tup [zSV, I 3] ∧ post = rsO l res c r := by
  have ha := at_yes_fn l res c r m.a h
  generalize res.getD m.a.toNat .zero = u at ha hq
  by_cases hb : inF m.b res.length = true
  · refine contract_of ty_ok [3, 4, 5, 6, 7] Try.func60 rfl (by decide) Try.ntmps60 rfl fun z => ?_
    refine run 400 rfl ?_
    refine at_false 15 rfl (by rw [hk]; rfl) ?_
    refine run 400 rfl ?_
    refine at_ifd rfl (fun q2 => by omega) (fun _ => ?_)
    refine run 400 rfl ?_
    refine at_drawn 19 rfl rfl [(2, .no)] [20, 21, 22] rfl (by rw [hk]; rfl) ?_
    refine run 400 rfl ?_
    refine at_if rfl (fun q2 => by rw [hk] at q2; cases q2) (fun _ => ?_)
    refine run 400 rfl ?_
    refine at_if rfl (fun q2 => by rw [hk] at q2; cases q2) (fun _ => ?_)
    refine run 400 rfl ?_
    refine at_callF [0, 1] (ha) rfl ⟨rfl, rfl, trivial⟩ rfl rfl rfl ?_
    refine run 400 rfl ?_
    refine at_callF [0, 1] (at_yes_fn l res c r m.b hb) rfl ⟨rfl, rfl, trivial⟩ rfl rfl rfl ?_
    refine run 400 rfl ?_
    refine at_false 77 rfl (by rw [hk]; rfl) ?_
    refine run 400 rfl ?_
    refine at_false 82 rfl (by rw [hk]; rfl) ?_
    refine run 400 rfl ?_
    refine at_false 91 rfl (by rw [hk]; rfl) ?_
    refine run 400 rfl ?_
    refine at_if rfl (fun q2 => by rw [hk] at q2; cases q2) (fun _ => ?_)
    refine run 400 rfl ?_
    refine at_if rfl (fun q2 => by rw [hk] at q2; cases q2) (fun _ => ?_)
    refine run 400 rfl ?_
    refine at_if rfl (fun _ => ?_) (fun q2 => by rw [hk] at q2; cases q2)
    refine run 400 rfl ?_
    refine at_if rfl (fun _ => ?_) (fun q2 => absurd (by simpa using q2) hq)
    refine run 400 rfl ?_
    exact at_ret rfl rfl (rsO l res c r) ⟨rfl, rfl⟩ ⟨rfl, rfl, trivial⟩
  · refine contract_of ty_ok [3, 4, 5, 6, 7] Try.func60 rfl (by decide) Try.ntmps60 rfl fun z => ?_
    refine run 400 rfl ?_
    refine at_false 15 rfl (by rw [hk]; rfl) ?_
    refine run 400 rfl ?_
    refine at_ifd rfl (fun q2 => by omega) (fun _ => ?_)
    refine run 400 rfl ?_
    refine at_drawn 19 rfl rfl [(2, .no)] [20, 21, 22] rfl (by rw [hk]; rfl) ?_
    refine run 400 rfl ?_
    refine at_if rfl (fun q2 => by rw [hk] at q2; cases q2) (fun _ => ?_)
    refine run 400 rfl ?_
    refine at_if rfl (fun q2 => by rw [hk] at q2; cases q2) (fun _ => ?_)
    refine run 400 rfl ?_
    refine at_callF [0, 1] (ha) rfl ⟨rfl, rfl, trivial⟩ rfl rfl rfl ?_
    refine run 400 rfl ?_
    refine at_callF [0, 1] (at_no_fn l res c r m.b (by simpa using hb)) rfl ⟨rfl, rfl, trivial⟩ rfl rfl rfl ?_
    refine run 400 rfl ?_
    refine at_false 77 rfl (by rw [hk]; rfl) ?_
    refine run 400 rfl ?_
    refine at_false 82 rfl (by rw [hk]; rfl) ?_
    refine run 400 rfl ?_
    refine at_false 91 rfl (by rw [hk]; rfl) ?_
    refine run 400 rfl ?_
    refine at_if rfl (fun q2 => by rw [hk] at q2; cases q2) (fun _ => ?_)
    refine run 400 rfl ?_
    refine at_if rfl (fun q2 => by rw [hk] at q2; cases q2) (fun _ => ?_)
    refine run 400 rfl ?_
    refine at_if rfl (fun _ => ?_) (fun q2 => by rw [hk] at q2; cases q2)
    refine run 400 rfl ?_
    refine at_if rfl (fun _ => ?_) (fun q2 => absurd (by simpa using q2) hq)
    refine run 400 rfl ?_
    exact at_ret rfl rfl (rsO l res c r) ⟨rfl, rfl⟩ ⟨rfl, rfl, trivial⟩
theorem one_open (l res : List Tm) (c r : Nat) (m : Mv) (hk : m.k = 5) (h : inF m.a res.length = true) (hq : (res.getD m.a.toNat .zero).k = 6) (hn : 1 < (res.getD m.a.toNat .zero).kids.length) : Contract Try.prog 60 2 (rsO l res c r) [.ptr 0 0, m.sv] fun s post => s = .tup [((res.getD m.a.toNat .zero).kids.getD 1 .zero).sv, I 0] ∧ post = rsO l res c r := by
  have ha := at_yes_fn l res c r m.a h
  generalize res.getD m.a.toNat .zero = u at ha hq hn
  have hget := rowsT_get hn
  generalize u.kids.getD 1 .zero = v at hget
  by_cases hb : inF m.b res.length = true
  · refine contract_of ty_ok [3, 4, 5, 6, 7] Try.func60 rfl (by decide) Try.ntmps60 rfl fun z => ?_
    refine run 400 rfl ?_
    refine at_false 15 rfl (by rw [hk]; rfl) ?_
    refine run 400 rfl ?_
    refine at_ifd rfl (fun q2 => by omega) (fun _ => ?_)
    refine run 400 rfl ?_
    refine at_drawn 19 rfl rfl [(2, .no)] [20, 21, 22] rfl (by rw [hk]; rfl) ?_
    refine run 400 rfl ?_
    refine at_if rfl (fun q2 => by rw [hk] at q2; cases q2) (fun _ => ?_)
    refine run 400 rfl ?_
    refine at_if rfl (fun q2 => by rw [hk] at q2; cases q2) (fun _ => ?_)
    refine run 400 rfl ?_
    refine at_callF [0, 1] (ha) rfl ⟨rfl, rfl, trivial⟩ rfl rfl rfl ?_
    refine run 400 rfl ?_
    refine at_callF [0, 1] (at_yes_fn l res c r m.b hb) rfl ⟨rfl, rfl, trivial⟩ rfl rfl rfl ?_
    refine run 400 rfl ?_
    refine at_false 77 rfl (by rw [hk]; rfl) ?_
    refine run 400 rfl ?_
    refine at_false 82 rfl (by rw [hk]; rfl) ?_
    refine run 400 rfl ?_
    refine at_false 91 rfl (by rw [hk]; rfl) ?_
    refine run 400 rfl ?_
    refine at_if rfl (fun q2 => by rw [hk] at q2; cases q2) (fun _ => ?_)
    refine run 400 rfl ?_
    refine at_if rfl (fun q2 => by rw [hk] at q2; cases q2) (fun _ => ?_)
    refine run 400 rfl ?_
    refine at_if rfl (fun _ => ?_) (fun q2 => by rw [hk] at q2; cases q2)
    refine run 400 rfl ?_
    refine at_if rfl (fun q2 => absurd hq (by simpa using q2)) (fun _ => ?_)
    refine run 400 rfl ?_
    refine at_val (.rp (tr v) 0) (does_index ty_ok _ rfl rfl rfl (by omega) (show (rowsT u.kids)[(1 : Int).toNat]? = some (tr v) from hget) rfl) ?_
    refine run 400 rfl ?_
    exact at_ret rfl rfl (rsO l res c r) ⟨rfl, rfl⟩ ⟨rfl, rfl, trivial⟩
  · refine contract_of ty_ok [3, 4, 5, 6, 7] Try.func60 rfl (by decide) Try.ntmps60 rfl fun z => ?_
    refine run 400 rfl ?_
    refine at_false 15 rfl (by rw [hk]; rfl) ?_
    refine run 400 rfl ?_
    refine at_ifd rfl (fun q2 => by omega) (fun _ => ?_)
    refine run 400 rfl ?_
    refine at_drawn 19 rfl rfl [(2, .no)] [20, 21, 22] rfl (by rw [hk]; rfl) ?_
    refine run 400 rfl ?_
    refine at_if rfl (fun q2 => by rw [hk] at q2; cases q2) (fun _ => ?_)
    refine run 400 rfl ?_
    refine at_if rfl (fun q2 => by rw [hk] at q2; cases q2) (fun _ => ?_)
    refine run 400 rfl ?_
    refine at_callF [0, 1] (ha) rfl ⟨rfl, rfl, trivial⟩ rfl rfl rfl ?_
    refine run 400 rfl ?_
    refine at_callF [0, 1] (at_no_fn l res c r m.b (by simpa using hb)) rfl ⟨rfl, rfl, trivial⟩ rfl rfl rfl ?_
    refine run 400 rfl ?_
    refine at_false 77 rfl (by rw [hk]; rfl) ?_
    refine run 400 rfl ?_
    refine at_false 82 rfl (by rw [hk]; rfl) ?_
    refine run 400 rfl ?_
    refine at_false 91 rfl (by rw [hk]; rfl) ?_
    refine run 400 rfl ?_
    refine at_if rfl (fun q2 => by rw [hk] at q2; cases q2) (fun _ => ?_)
    refine run 400 rfl ?_
    refine at_if rfl (fun q2 => by rw [hk] at q2; cases q2) (fun _ => ?_)
    refine run 400 rfl ?_
    refine at_if rfl (fun _ => ?_) (fun q2 => by rw [hk] at q2; cases q2)
    refine run 400 rfl ?_
    refine at_if rfl (fun q2 => absurd hq (by simpa using q2)) (fun _ => ?_)
    refine run 400 rfl ?_
    refine at_val (.rp (tr v) 0) (does_index ty_ok _ rfl rfl rfl (by omega) (show (rowsT u.kids)[(1 : Int).toNat]? = some (tr v) from hget) rfl) ?_
    refine run 400 rfl ?_
    exact at_ret rfl rfl (rsO l res c r) ⟨rfl, rfl⟩ ⟨rfl, rfl, trivial⟩
theorem one_hash (l res : List Tm) (c r : Nat) (m : Mv) (hk : m.k = 6) (h : inF m.a res.length = true) : Contract Try.prog 60 2 (rsO l res c r) [.ptr 0 0, m.sv] fun s post => s = .tup [(Tm.mk 3 0 .empty [res.getD m.a.toNat .zero]).sv, I 0] ∧ post = rsO l res c r := by
  have ha := at_yes_fn l res c r m.a h
  generalize res.getD m.a.toNat .zero = u at ha
  by_cases hb : inF m.b res.length = true
  · refine contract_of ty_ok [3, 4, 5, 6, 7] Try.func60 rfl (by decide) Try.ntmps60 rfl fun z => ?_
    refine run 400 rfl ?_
    refine at_false 15 rfl (by rw [hk]; rfl) ?_
    refine run 400 rfl ?_
    refine at_ifd rfl (fun q2 => by omega) (fun _ => ?_)
    refine run 400 rfl ?_
    refine at_drawn 19 rfl rfl [(2, .no)] [20, 21, 22] rfl (by rw [hk]; rfl) ?_
    refine run 400 rfl ?_
    refine at_if rfl (fun q2 => by rw [hk] at q2; cases q2) (fun _ => ?_)
    refine run 400 rfl ?_
    refine at_if rfl (fun q2 => by rw [hk] at q2; cases q2) (fun _ => ?_)
    refine run 400 rfl ?_
    refine at_callF [0, 1] (ha) rfl ⟨rfl, rfl, trivial⟩ rfl rfl rfl ?_
    refine run 400 rfl ?_
    refine at_callF [0, 1] (at_yes_fn l res c r m.b hb) rfl ⟨rfl, rfl, trivial⟩ rfl rfl rfl ?_
    refine run 400 rfl ?_
    refine at_false 77 rfl (by rw [hk]; rfl) ?_
    refine run 400 rfl ?_
    refine at_false 82 rfl (by rw [hk]; rfl) ?_
    refine run 400 rfl ?_
    refine at_false 91 rfl (by rw [hk]; rfl) ?_
    refine run 400 rfl ?_
    refine at_if rfl (fun q2 => by rw [hk] at q2; cases q2) (fun _ => ?_)
    refine run 400 rfl ?_
    refine at_if rfl (fun q2 => by rw [hk] at q2; cases q2) (fun _ => ?_)
    refine run 400 rfl ?_
    refine at_if rfl (fun q2 => by rw [hk] at q2; cases q2) (fun _ => ?_)
    refine run 400 rfl ?_
    refine at_if rfl (fun _ => ?_) (fun q2 => by rw [hk] at q2; cases q2)
    refine run 400 rfl ?_
    refine at_gro (.tl 4 [tr u]) (doesG_build ty_ok _ rfl ⟨⟨rfl, rfl, _, rfl, SVles.refl _⟩, trivial⟩ rfl rfl (by decide)) ?_
    refine run 400 rfl ?_
    refine at_fn (T1_fn 3 u) rfl ?_
    refine run 400 rfl ?_
    exact at_ret rfl rfl (rsO l res c r) ⟨rfl, rfl⟩ ⟨rfl, rfl, trivial⟩
  · refine contract_of ty_ok [3, 4, 5, 6, 7] Try.func60 rfl (by decide) Try.ntmps60 rfl fun z => ?_
    refine run 400 rfl ?_
    refine at_false 15 rfl (by rw [hk]; rfl) ?_
    refine run 400 rfl ?_
    refine at_ifd rfl (fun q2 => by omega) (fun _ => ?_)
    refine run 400 rfl ?_
    refine at_drawn 19 rfl rfl [(2, .no)] [20, 21, 22] rfl (by rw [hk]; rfl) ?_
    refine run 400 rfl ?_
    refine at_if rfl (fun q2 => by rw [hk] at q2; cases q2) (fun _ => ?_)
    refine run 400 rfl ?_
    refine at_if rfl (fun q2 => by rw [hk] at q2; cases q2) (fun _ => ?_)
    refine run 400 rfl ?_
    refine at_callF [0, 1] (ha) rfl ⟨rfl, rfl, trivial⟩ rfl rfl rfl ?_
    refine run 400 rfl ?_
    refine at_callF [0, 1] (at_no_fn l res c r m.b (by simpa using hb)) rfl ⟨rfl, rfl, trivial⟩ rfl rfl rfl ?_
    refine run 400 rfl ?_
    refine at_false 77 rfl (by rw [hk]; rfl) ?_
    refine run 400 rfl ?_
    refine at_false 82 rfl (by rw [hk]; rfl) ?_
    refine run 400 rfl ?_
    refine at_false 91 rfl (by rw [hk]; rfl) ?_
    refine run 400 rfl ?_
    refine at_if rfl (fun q2 => by rw [hk] at q2; cases q2) (fun _ => ?_)
    refine run 400 rfl ?_
    refine at_if rfl (fun q2 => by rw [hk] at q2; cases q2) (fun _ => ?_)
    refine run 400 rfl ?_
    refine at_if rfl (fun q2 => by rw [hk] at q2; cases q2) (fun _ => ?_)
    refine run 400 rfl ?_
    refine at_if rfl (fun _ => ?_) (fun q2 => by rw [hk] at q2; cases q2)
    refine run 400 rfl ?_
    refine at_gro (.tl 4 [tr u]) (doesG_build ty_ok _ rfl ⟨⟨rfl, rfl, _, rfl, SVles.refl _⟩, trivial⟩ rfl rfl (by decide)) ?_
    refine run 400 rfl ?_
    refine at_fn (T1_fn 3 u) rfl ?_
    refine run 400 rfl ?_
    exact at_ret rfl rfl (rsO l res c r) ⟨rfl, rfl⟩ ⟨rfl, rfl, trivial⟩
theorem one_pub (l res : List Tm) (c r : Nat) (m : Mv) (hk : m.k = 7) (h : inF m.a res.length = true) : Contract Try.prog 60 2 (rsO l res c r) [.ptr 0 0, m.sv] fun s post => s = .tup [(Tm.mk 4 0 .empty [res.getD m.a.toNat .zero]).sv, I 0] ∧ post = rsO l res c r := by
  have ha := at_yes_fn l res c r m.a h
  generalize res.getD m.a.toNat .zero = u at ha
  by_cases hb : inF m.b res.length = true
  · refine contract_of ty_ok [3, 4, 5, 6, 7] Try.func60 rfl (by decide) Try.ntmps60 rfl fun z => ?_
    refine run 400 rfl ?_
    refine at_false 15 rfl (by rw [hk]; rfl) ?_
    refine run 400 rfl ?_
    refine at_ifd rfl (fun q2 => by omega) (fun _ => ?_)
    refine run 400 rfl ?_
    refine at_drawn 19 rfl rfl [(2, .no)] [20, 21, 22] rfl (by rw [hk]; rfl) ?_
    refine run 400 rfl ?_
    refine at_if rfl (fun q2 => by rw [hk] at q2; cases q2) (fun _ => ?_)
    refine run 400 rfl ?_
    refine at_if rfl (fun q2 => by rw [hk] at q2; cases q2) (fun _ => ?_)
    refine run 400 rfl ?_
    refine at_callF [0, 1] (ha) rfl ⟨rfl, rfl, trivial⟩ rfl rfl rfl ?_
    refine run 400 rfl ?_
    refine at_callF [0, 1] (at_yes_fn l res c r m.b hb) rfl ⟨rfl, rfl, trivial⟩ rfl rfl rfl ?_
    refine run 400 rfl ?_
    refine at_false 77 rfl (by rw [hk]; rfl) ?_
    refine run 400 rfl ?_
    refine at_false 82 rfl (by rw [hk]; rfl) ?_
    refine run 400 rfl ?_
    refine at_false 91 rfl (by rw [hk]; rfl) ?_
    refine run 400 rfl ?_
    refine at_if rfl (fun q2 => by rw [hk] at q2; cases q2) (fun _ => ?_)
    refine run 400 rfl ?_
    refine at_if rfl (fun q2 => by rw [hk] at q2; cases q2) (fun _ => ?_)
    refine run 400 rfl ?_
    refine at_if rfl (fun q2 => by rw [hk] at q2; cases q2) (fun _ => ?_)
    refine run 400 rfl ?_
    refine at_if rfl (fun q2 => by rw [hk] at q2; cases q2) (fun _ => ?_)
    refine run 400 rfl ?_
    refine at_if rfl (fun _ => ?_) (fun q2 => by rw [hk] at q2; cases q2)
    refine run 400 rfl ?_
    refine at_gro (.tl 4 [tr u]) (doesG_build ty_ok _ rfl ⟨⟨rfl, rfl, _, rfl, SVles.refl _⟩, trivial⟩ rfl rfl (by decide)) ?_
    refine run 400 rfl ?_
    refine at_fn (T1_fn 4 u) rfl ?_
    refine run 400 rfl ?_
    exact at_ret rfl rfl (rsO l res c r) ⟨rfl, rfl⟩ ⟨rfl, rfl, trivial⟩
  · refine contract_of ty_ok [3, 4, 5, 6, 7] Try.func60 rfl (by decide) Try.ntmps60 rfl fun z => ?_
    refine run 400 rfl ?_
    refine at_false 15 rfl (by rw [hk]; rfl) ?_
    refine run 400 rfl ?_
    refine at_ifd rfl (fun q2 => by omega) (fun _ => ?_)
    refine run 400 rfl ?_
    refine at_drawn 19 rfl rfl [(2, .no)] [20, 21, 22] rfl (by rw [hk]; rfl) ?_
    refine run 400 rfl ?_
    refine at_if rfl (fun q2 => by rw [hk] at q2; cases q2) (fun _ => ?_)
    refine run 400 rfl ?_
    refine at_if rfl (fun q2 => by rw [hk] at q2; cases q2) (fun _ => ?_)
    refine run 400 rfl ?_
    refine at_callF [0, 1] (ha) rfl ⟨rfl, rfl, trivial⟩ rfl rfl rfl ?_
    refine run 400 rfl ?_
    refine at_callF [0, 1] (at_no_fn l res c r m.b (by simpa using hb)) rfl ⟨rfl, rfl, trivial⟩ rfl rfl rfl ?_
    refine run 400 rfl ?_
    refine at_false 77 rfl (by rw [hk]; rfl) ?_
    refine run 400 rfl ?_
    refine at_false 82 rfl (by rw [hk]; rfl) ?_
    refine run 400 rfl ?_
    refine at_false 91 rfl (by rw [hk]; rfl) ?_
    refine run 400 rfl ?_
    refine at_if rfl (fun q2 => by rw [hk] at q2; cases q2) (fun _ => ?_)
    refine run 400 rfl ?_
    refine at_if rfl (fun q2 => by rw [hk] at q2; cases q2) (fun _ => ?_)
    refine run 400 rfl ?_
    refine at_if rfl (fun q2 => by rw [hk] at q2; cases q2) (fun _ => ?_)
    refine run 400 rfl ?_
    refine at_if rfl (fun q2 => by rw [hk] at q2; cases q2) (fun _ => ?_)
    refine run 400 rfl ?_
    refine at_if rfl (fun _ => ?_) (fun q2 => by rw [hk] at q2; cases q2)
    refine run 400 rfl ?_
    refine at_gro (.tl 4 [tr u]) (doesG_build ty_ok _ rfl ⟨⟨rfl, rfl, _, rfl, SVles.refl _⟩, trivial⟩ rfl rfl (by decide)) ?_
    refine run 400 rfl ?_
    refine at_fn (T1_fn 4 u) rfl ?_
    refine run 400 rfl ?_
    exact at_ret rfl rfl (rsO l res c r) ⟨rfl, rfl⟩ ⟨rfl, rfl, trivial⟩
theorem one_mac (l res : List Tm) (c r : Nat) (m : Mv) (hk : m.k = 8) (h : inF m.a res.length = true) (hb : inF m.b res.length = true) : Contract Try.prog 60 2 (rsO l res c r) [.ptr 0 0, m.sv] fun s post => s = .tup [(Tm.mk 5 0 .empty [res.getD m.a.toNat .zero, res.getD m.b.toNat .zero]).sv, I 0] ∧ post = rsO l res c r := by
  have ha := at_yes_fn l res c r m.a h
  have hc := at_yes_fn l res c r m.b hb
  generalize res.getD m.a.toNat .zero = u at ha
  generalize res.getD m.b.toNat .zero = v at hc
  refine contract_of ty_ok [3, 4, 5, 6, 7] Try.func60 rfl (by decide) Try.ntmps60 rfl fun z => ?_
  refine run 400 rfl ?_
  refine at_false 15 rfl (by rw [hk]; rfl) ?_
  refine run 400 rfl ?_
  refine at_ifd rfl (fun q2 => by omega) (fun _ => ?_)
  refine run 400 rfl ?_
  refine at_drawn 19 rfl rfl [(2, .no)] [20, 21, 22] rfl (by rw [hk]; rfl) ?_
  refine run 400 rfl ?_
  refine at_if rfl (fun q2 => by rw [hk] at q2; cases q2) (fun _ => ?_)
  refine run 400 rfl ?_
  refine at_if rfl (fun q2 => by rw [hk] at q2; cases q2) (fun _ => ?_)
  refine run 400 rfl ?_
  refine at_callF [0, 1] (ha) rfl ⟨rfl, rfl, trivial⟩ rfl rfl rfl ?_
  refine run 400 rfl ?_
  refine at_callF [0, 1] (hc) rfl ⟨rfl, rfl, trivial⟩ rfl rfl rfl ?_
  refine run 400 rfl ?_
  refine at_true 77 rfl (by rw [hk]; rfl) ?_
  refine run 400 rfl ?_
  refine at_if rfl (fun q2 => by rw [hk] at q2; cases q2) (fun _ => ?_)
  refine run 400 rfl ?_
  refine at_if rfl (fun q2 => by rw [hk] at q2; cases q2) (fun _ => ?_)
  refine run 400 rfl ?_
  refine at_if rfl (fun q2 => by rw [hk] at q2; cases q2) (fun _ => ?_)
  refine run 400 rfl ?_
  refine at_if rfl (fun q2 => by rw [hk] at q2; cases q2) (fun _ => ?_)
  refine run 400 rfl ?_
  refine at_if rfl (fun q2 => by rw [hk] at q2; cases q2) (fun _ => ?_)
  refine run 400 rfl ?_
  refine at_if rfl (fun _ => ?_) (fun q2 => by rw [hk] at q2; cases q2)
  refine run 400 rfl ?_
  refine at_gro (.tl 4 [tr u, tr v]) (doesG_build ty_ok _ rfl ⟨⟨rfl, rfl, _, rfl, SVles.refl _⟩, ⟨rfl, rfl, _, rfl, SVles.refl _⟩, trivial⟩ rfl rfl (by decide)) ?_
  refine run 400 rfl ?_
  refine at_fn (T2_fn 5 u v) rfl ?_
  refine run 400 rfl ?_
  exact at_ret rfl rfl (rsO l res c r) ⟨rfl, rfl⟩ ⟨rfl, rfl, trivial⟩
theorem one_mac_no (l res : List Tm) (c r : Nat) (m : Mv) (hk : m.k = 8) (h : inF m.a res.length = false) : Contract Try.prog 60 2 (rsO l res c r) [.ptr 0 0, m.sv] fun s post => s = .tup [zSV, I 8] ∧ post = rsO l res c r := by
  have ha := at_no_fn l res c r m.a h
  by_cases hb : inF m.b res.length = true
  · refine contract_of ty_ok [3, 4, 5, 6, 7] Try.func60 rfl (by decide) Try.ntmps60 rfl fun z => ?_
    refine run 400 rfl ?_
    refine at_false 15 rfl (by rw [hk]; rfl) ?_
    refine run 400 rfl ?_
    refine at_ifd rfl (fun q2 => by omega) (fun _ => ?_)
    refine run 400 rfl ?_
    refine at_drawn 19 rfl rfl [(2, .no)] [20, 21, 22] rfl (by rw [hk]; rfl) ?_
    refine run 400 rfl ?_
    refine at_if rfl (fun q2 => by rw [hk] at q2; cases q2) (fun _ => ?_)
    refine run 400 rfl ?_
    refine at_if rfl (fun q2 => by rw [hk] at q2; cases q2) (fun _ => ?_)
    refine run 400 rfl ?_
    refine at_callF [0, 1] (ha) rfl ⟨rfl, rfl, trivial⟩ rfl rfl rfl ?_
    refine run 400 rfl ?_
    refine at_callF [0, 1] (at_yes_fn l res c r m.b hb) rfl ⟨rfl, rfl, trivial⟩ rfl rfl rfl ?_
    refine run 400 rfl ?_
    refine at_true 77 rfl (by rw [hk]; rfl) ?_
    refine run 400 rfl ?_
    exact at_ret rfl rfl (rsO l res c r) ⟨rfl, rfl⟩ ⟨rfl, rfl, trivial⟩
  · refine contract_of ty_ok [3, 4, 5, 6, 7] Try.func60 rfl (by decide) Try.ntmps60 rfl fun z => ?_
    refine run 400 rfl ?_
    refine at_false 15 rfl (by rw [hk]; rfl) ?_
    refine run 400 rfl ?_
    refine at_ifd rfl (fun q2 => by omega) (fun _ => ?_)
    refine run 400 rfl ?_
    refine at_drawn 19 rfl rfl [(2, .no)] [20, 21, 22] rfl (by rw [hk]; rfl) ?_
    refine run 400 rfl ?_
    refine at_if rfl (fun q2 => by rw [hk] at q2; cases q2) (fun _ => ?_)
    refine run 400 rfl ?_
    refine at_if rfl (fun q2 => by rw [hk] at q2; cases q2) (fun _ => ?_)
    refine run 400 rfl ?_
    refine at_callF [0, 1] (ha) rfl ⟨rfl, rfl, trivial⟩ rfl rfl rfl ?_
    refine run 400 rfl ?_
    refine at_callF [0, 1] (at_no_fn l res c r m.b (by simpa using hb)) rfl ⟨rfl, rfl, trivial⟩ rfl rfl rfl ?_
    refine run 400 rfl ?_
    refine at_true 77 rfl (by rw [hk]; rfl) ?_
    refine run 400 rfl ?_
    exact at_ret rfl rfl (rsO l res c r) ⟨rfl, rfl⟩ ⟨rfl, rfl, trivial⟩
theorem one_mac_no2 (l res : List Tm) (c r : Nat) (m : Mv) (hk : m.k = 8) (h : inF m.a res.length = true) (hb : inF m.b res.length = false) : Contract Try.prog 60 2 (rsO l res c r) [.ptr 0 0, m.sv] fun s post => s = .tup [zSV, I 8] ∧ post = rsO l res c r := by
  have ha := at_yes_fn l res c r m.a h
  have hc := at_no_fn l res c r m.b hb
  generalize res.getD m.a.toNat .zero = u at ha
  refine contract_of ty_ok [3, 4, 5, 6, 7] Try.func60 rfl (by decide) Try.ntmps60 rfl fun z => ?_
  refine run 400 rfl ?_
  refine at_false 15 rfl (by rw [hk]; rfl) ?_
  refine run 400 rfl ?_
  refine at_ifd rfl (fun q2 => by omega) (fun _ => ?_)
  refine run 400 rfl ?_
  refine at_drawn 19 rfl rfl [(2, .no)] [20, 21, 22] rfl (by rw [hk]; rfl) ?_
  refine run 400 rfl ?_
  refine at_if rfl (fun q2 => by rw [hk] at q2; cases q2) (fun _ => ?_)
  refine run 400 rfl ?_
  refine at_if rfl (fun q2 => by rw [hk] at q2; cases q2) (fun _ => ?_)
  refine run 400 rfl ?_
  refine at_callF [0, 1] (ha) rfl ⟨rfl, rfl, trivial⟩ rfl rfl rfl ?_
  refine run 400 rfl ?_
  refine at_callF [0, 1] (hc) rfl ⟨rfl, rfl, trivial⟩ rfl rfl rfl ?_
  refine run 400 rfl ?_
  refine at_true 77 rfl (by rw [hk]; rfl) ?_
  refine run 400 rfl ?_
  exact at_ret rfl rfl (rsO l res c r) ⟨rfl, rfl⟩ ⟨rfl, rfl, trivial⟩
theorem one_sig (l res : List Tm) (c r : Nat) (m : Mv) (hk : m.k = 9) (h : inF m.a res.length = true) (hb : inF m.b res.length = true) : Contract Try.prog 60 2 (rsO l res c r) [.ptr 0 0, m.sv] fun s post => s = .tup [(Tm.mk 6 0 .empty [res.getD m.a.toNat .zero, res.getD m.b.toNat .zero]).sv, I 0] ∧ post = rsO l res c r := by
  have ha := at_yes_fn l res c r m.a h
  have hc := at_yes_fn l res c r m.b hb
  generalize res.getD m.a.toNat .zero = u at ha
  generalize res.getD m.b.toNat .zero = v at hc
  refine contract_of ty_ok [3, 4, 5, 6, 7] Try.func60 rfl (by decide) Try.ntmps60 rfl fun z => ?_
  refine run 400 rfl ?_
  refine at_false 15 rfl (by rw [hk]; rfl) ?_
  refine run 400 rfl ?_
  refine at_ifd rfl (fun q2 => by omega) (fun _ => ?_)
  refine run 400 rfl ?_
  refine at_drawn 19 rfl rfl [(2, .no)] [20, 21, 22] rfl (by rw [hk]; rfl) ?_
  refine run 400 rfl ?_
  refine at_if rfl (fun q2 => by rw [hk] at q2; cases q2) (fun _ => ?_)
  refine run 400 rfl ?_
  refine at_if rfl (fun q2 => by rw [hk] at q2; cases q2) (fun _ => ?_)
  refine run 400 rfl ?_
  refine at_callF [0, 1] (ha) rfl ⟨rfl, rfl, trivial⟩ rfl rfl rfl ?_
  refine run 400 rfl ?_
  refine at_callF [0, 1] (hc) rfl ⟨rfl, rfl, trivial⟩ rfl rfl rfl ?_
  refine run 400 rfl ?_
  refine at_false 77 rfl (by rw [hk]; rfl) ?_
  refine run 400 rfl ?_
  refine at_true 82 rfl (by rw [hk]; rfl) ?_
  refine run 400 rfl ?_
  refine at_if rfl (fun q2 => by rw [hk] at q2; cases q2) (fun _ => ?_)
  refine run 400 rfl ?_
  refine at_if rfl (fun q2 => by rw [hk] at q2; cases q2) (fun _ => ?_)
  refine run 400 rfl ?_
  refine at_if rfl (fun q2 => by rw [hk] at q2; cases q2) (fun _ => ?_)
  refine run 400 rfl ?_
  refine at_if rfl (fun q2 => by rw [hk] at q2; cases q2) (fun _ => ?_)
  refine run 400 rfl ?_
  refine at_if rfl (fun q2 => by rw [hk] at q2; cases q2) (fun _ => ?_)
  refine run 400 rfl ?_
  refine at_if rfl (fun q2 => by rw [hk] at q2; cases q2) (fun _ => ?_)
  refine run 400 rfl ?_
  refine at_if rfl (fun _ => ?_) (fun q2 => by rw [hk] at q2; cases q2)
  refine run 400 rfl ?_
  refine at_gro (.tl 4 [tr u, tr v]) (doesG_build ty_ok _ rfl ⟨⟨rfl, rfl, _, rfl, SVles.refl _⟩, ⟨rfl, rfl, _, rfl, SVles.refl _⟩, trivial⟩ rfl rfl (by decide)) ?_
  refine run 400 rfl ?_
  refine at_fn (T2_fn 6 u v) rfl ?_
  refine run 400 rfl ?_
  exact at_ret rfl rfl (rsO l res c r) ⟨rfl, rfl⟩ ⟨rfl, rfl, trivial⟩
theorem one_sig_no (l res : List Tm) (c r : Nat) (m : Mv) (hk : m.k = 9) (h : inF m.a res.length = false) : Contract Try.prog 60 2 (rsO l res c r) [.ptr 0 0, m.sv] fun s post => s = .tup [zSV, I 8] ∧ post = rsO l res c r := by
  have ha := at_no_fn l res c r m.a h
  by_cases hb : inF m.b res.length = true
  · refine contract_of ty_ok [3, 4, 5, 6, 7] Try.func60 rfl (by decide) Try.ntmps60 rfl fun z => ?_
    refine run 400 rfl ?_
    refine at_false 15 rfl (by rw [hk]; rfl) ?_
    refine run 400 rfl ?_
    refine at_ifd rfl (fun q2 => by omega) (fun _ => ?_)
    refine run 400 rfl ?_
    refine at_drawn 19 rfl rfl [(2, .no)] [20, 21, 22] rfl (by rw [hk]; rfl) ?_
    refine run 400 rfl ?_
    refine at_if rfl (fun q2 => by rw [hk] at q2; cases q2) (fun _ => ?_)
    refine run 400 rfl ?_
    refine at_if rfl (fun q2 => by rw [hk] at q2; cases q2) (fun _ => ?_)
    refine run 400 rfl ?_
    refine at_callF [0, 1] (ha) rfl ⟨rfl, rfl, trivial⟩ rfl rfl rfl ?_
    refine run 400 rfl ?_
    refine at_callF [0, 1] (at_yes_fn l res c r m.b hb) rfl ⟨rfl, rfl, trivial⟩ rfl rfl rfl ?_
    refine run 400 rfl ?_
    refine at_false 77 rfl (by rw [hk]; rfl) ?_
    refine run 400 rfl ?_
    refine at_true 82 rfl (by rw [hk]; rfl) ?_
    refine run 400 rfl ?_
    exact at_ret rfl rfl (rsO l res c r) ⟨rfl, rfl⟩ ⟨rfl, rfl, trivial⟩
  · refine contract_of ty_ok [3, 4, 5, 6, 7] Try.func60 rfl (by decide) Try.ntmps60 rfl fun z => ?_
    refine run 400 rfl ?_
    refine at_false 15 rfl (by rw [hk]; rfl) ?_
    refine run 400 rfl ?_
    refine at_ifd rfl (fun q2 => by omega) (fun _ => ?_)
    refine run 400 rfl ?_
    refine at_drawn 19 rfl rfl [(2, .no)] [20, 21, 22] rfl (by rw [hk]; rfl) ?_
    refine run 400 rfl ?_
    refine at_if rfl (fun q2 => by rw [hk] at q2; cases q2) (fun _ => ?_)
    refine run 400 rfl ?_
    refine at_if rfl (fun q2 => by rw [hk] at q2; cases q2) (fun _ => ?_)
    refine run 400 rfl ?_
    refine at_callF [0, 1] (ha) rfl ⟨rfl, rfl, trivial⟩ rfl rfl rfl ?_
    refine run 400 rfl ?_
    refine at_callF [0, 1] (at_no_fn l res c r m.b (by simpa using hb)) rfl ⟨rfl, rfl, trivial⟩ rfl rfl rfl ?_
    refine run 400 rfl ?_
    refine at_false 77 rfl (by rw [hk]; rfl) ?_
    refine run 400 rfl ?_
    refine at_true 82 rfl (by rw [hk]; rfl) ?_
    refine run 400 rfl ?_
    exact at_ret rfl rfl (rsO l res c r) ⟨rfl, rfl⟩ ⟨rfl, rfl, trivial⟩
theorem one_sig_no2 (l res : List Tm) (c r : Nat) (m : Mv) (hk : m.k = 9) (h : inF m.a res.length = true) (hb : inF m.b res.length = false) : Contract Try.prog 60 2 (rsO l res c r) [.ptr 0 0, m.sv] fun s post => s = .tup [zSV, I 8] ∧ post = rsO l res c r := by
  have ha := at_yes_fn l res c r m.a h
  have hc := at_no_fn l res c r m.b hb
  generalize res.getD m.a.toNat .zero = u at ha
  refine contract_of ty_ok [3, 4, 5, 6, 7] Try.func60 rfl (by decide) Try.ntmps60 rfl fun z => ?_
  refine run 400 rfl ?_
  refine at_false 15 rfl (by rw [hk]; rfl) ?_
  refine run 400 rfl ?_
  refine at_ifd rfl (fun q2 => by omega) (fun _ => ?_)
  refine run 400 rfl ?_
  refine at_drawn 19 rfl rfl [(2, .no)] [20, 21, 22] rfl (by rw [hk]; rfl) ?_
  refine run 400 rfl ?_
  refine at_if rfl (fun q2 => by rw [hk] at q2; cases q2) (fun _ => ?_)
  refine run 400 rfl ?_
  refine at_if rfl (fun q2 => by rw [hk] at q2; cases q2) (fun _ => ?_)
  refine run 400 rfl ?_
  refine at_callF [0, 1] (ha) rfl ⟨rfl, rfl, trivial⟩ rfl rfl rfl ?_
  refine run 400 rfl ?_
  refine at_callF [0, 1] (hc) rfl ⟨rfl, rfl, trivial⟩ rfl rfl rfl ?_
  refine run 400 rfl ?_
  refine at_false 77 rfl (by rw [hk]; rfl) ?_
  refine run 400 rfl ?_
  refine at_true 82 rfl (by rw [hk]; rfl) ?_
  refine run 400 rfl ?_
  exact at_ret rfl rfl (rsO l res c r) ⟨rfl, rfl⟩ ⟨rfl, rfl, trivial⟩
theorem one_pair (l res : List Tm) (c r : Nat) (m : Mv) (hk : m.k = 10) (h : inF m.a res.length = true) (hb : inF m.b res.length = true) : Contract Try.prog 60 2 (rsO l res c r) [.ptr 0 0, m.sv] fun s post => s = .tup [(Tm.mk 7 0 .empty [res.getD m.a.toNat .zero, res.getD m.b.toNat .zero]).sv, I 0] ∧ post = rsO l res c r := by
  have ha := at_yes_fn l res c r m.a h
  have hc := at_yes_fn l res c r m.b hb
  generalize res.getD m.a.toNat .zero = u at ha
  generalize res.getD m.b.toNat .zero = v at hc
  refine contract_of ty_ok [3, 4, 5, 6, 7] Try.func60 rfl (by decide) Try.ntmps60 rfl fun z => ?_
  refine run 400 rfl ?_
  refine at_false 15 rfl (by rw [hk]; rfl) ?_
  refine run 400 rfl ?_
  refine at_ifd rfl (fun q2 => by omega) (fun _ => ?_)
  refine run 400 rfl ?_
  refine at_drawn 19 rfl rfl [(2, .no)] [20, 21, 22] rfl (by rw [hk]; rfl) ?_
  refine run 400 rfl ?_
  refine at_if rfl (fun q2 => by rw [hk] at q2; cases q2) (fun _ => ?_)
  refine run 400 rfl ?_
  refine at_if rfl (fun q2 => by rw [hk] at q2; cases q2) (fun _ => ?_)
  refine run 400 rfl ?_
  refine at_callF [0, 1] (ha) rfl ⟨rfl, rfl, trivial⟩ rfl rfl rfl ?_
  refine run 400 rfl ?_
  refine at_callF [0, 1] (hc) rfl ⟨rfl, rfl, trivial⟩ rfl rfl rfl ?_
  refine run 400 rfl ?_
  refine at_false 77 rfl (by rw [hk]; rfl) ?_
  refine run 400 rfl ?_
  refine at_false 82 rfl (by rw [hk]; rfl) ?_
  refine run 400 rfl ?_
  refine at_true 91 rfl (by rw [hk]; rfl) ?_
  refine run 400 rfl ?_
  refine at_if rfl (fun q2 => by rw [hk] at q2; cases q2) (fun _ => ?_)
  refine run 400 rfl ?_
  refine at_if rfl (fun q2 => by rw [hk] at q2; cases q2) (fun _ => ?_)
  refine run 400 rfl ?_
  refine at_if rfl (fun q2 => by rw [hk] at q2; cases q2) (fun _ => ?_)
  refine run 400 rfl ?_
  refine at_if rfl (fun q2 => by rw [hk] at q2; cases q2) (fun _ => ?_)
  refine run 400 rfl ?_
  refine at_if rfl (fun q2 => by rw [hk] at q2; cases q2) (fun _ => ?_)
  refine run 400 rfl ?_
  refine at_if rfl (fun q2 => by rw [hk] at q2; cases q2) (fun _ => ?_)
  refine run 400 rfl ?_
  refine at_if rfl (fun q2 => by rw [hk] at q2; cases q2) (fun _ => ?_)
  refine run 400 rfl ?_
  refine at_gro (.tl 4 [tr u, tr v]) (doesG_build ty_ok _ rfl ⟨⟨rfl, rfl, _, rfl, SVles.refl _⟩, ⟨rfl, rfl, _, rfl, SVles.refl _⟩, trivial⟩ rfl rfl (by decide)) ?_
  refine run 400 rfl ?_
  refine at_fn (T2_fn 7 u v) rfl ?_
  refine run 400 rfl ?_
  exact at_ret rfl rfl (rsO l res c r) ⟨rfl, rfl⟩ ⟨rfl, rfl, trivial⟩
theorem one_pair_no (l res : List Tm) (c r : Nat) (m : Mv) (hk : m.k = 10) (h : inF m.a res.length = false) : Contract Try.prog 60 2 (rsO l res c r) [.ptr 0 0, m.sv] fun s post => s = .tup [zSV, I 8] ∧ post = rsO l res c r := by
  have ha := at_no_fn l res c r m.a h
  by_cases hb : inF m.b res.length = true
  · refine contract_of ty_ok [3, 4, 5, 6, 7] Try.func60 rfl (by decide) Try.ntmps60 rfl fun z => ?_
    refine run 400 rfl ?_
    refine at_false 15 rfl (by rw [hk]; rfl) ?_
    refine run 400 rfl ?_
    refine at_ifd rfl (fun q2 => by omega) (fun _ => ?_)
    refine run 400 rfl ?_
    refine at_drawn 19 rfl rfl [(2, .no)] [20, 21, 22] rfl (by rw [hk]; rfl) ?_
    refine run 400 rfl ?_
    refine at_if rfl (fun q2 => by rw [hk] at q2; cases q2) (fun _ => ?_)
    refine run 400 rfl ?_
    refine at_if rfl (fun q2 => by rw [hk] at q2; cases q2) (fun _ => ?_)
    refine run 400 rfl ?_
    refine at_callF [0, 1] (ha) rfl ⟨rfl, rfl, trivial⟩ rfl rfl rfl ?_
    refine run 400 rfl ?_
    refine at_callF [0, 1] (at_yes_fn l res c r m.b hb) rfl ⟨rfl, rfl, trivial⟩ rfl rfl rfl ?_
    refine run 400 rfl ?_
    refine at_false 77 rfl (by rw [hk]; rfl) ?_
    refine run 400 rfl ?_
    refine at_false 82 rfl (by rw [hk]; rfl) ?_
    refine run 400 rfl ?_
    refine at_true 10 rfl (by rw [hk]; rfl) ?_
    refine run 400 rfl ?_
    exact at_ret rfl rfl (rsO l res c r) ⟨rfl, rfl⟩ ⟨rfl, rfl, trivial⟩
  · refine contract_of ty_ok [3, 4, 5, 6, 7] Try.func60 rfl (by decide) Try.ntmps60 rfl fun z => ?_
    refine run 400 rfl ?_
    refine at_false 15 rfl (by rw [hk]; rfl) ?_
    refine run 400 rfl ?_
    refine at_ifd rfl (fun q2 => by omega) (fun _ => ?_)
    refine run 400 rfl ?_
    refine at_drawn 19 rfl rfl [(2, .no)] [20, 21, 22] rfl (by rw [hk]; rfl) ?_
    refine run 400 rfl ?_
    refine at_if rfl (fun q2 => by rw [hk] at q2; cases q2) (fun _ => ?_)
    refine run 400 rfl ?_
    refine at_if rfl (fun q2 => by rw [hk] at q2; cases q2) (fun _ => ?_)
    refine run 400 rfl ?_
    refine at_callF [0, 1] (ha) rfl ⟨rfl, rfl, trivial⟩ rfl rfl rfl ?_
    refine run 400 rfl ?_
    refine at_callF [0, 1] (at_no_fn l res c r m.b (by simpa using hb)) rfl ⟨rfl, rfl, trivial⟩ rfl rfl rfl ?_
    refine run 400 rfl ?_
    refine at_false 77 rfl (by rw [hk]; rfl) ?_
    refine run 400 rfl ?_
    refine at_false 82 rfl (by rw [hk]; rfl) ?_
    refine run 400 rfl ?_
    refine at_true 10 rfl (by rw [hk]; rfl) ?_
    refine run 400 rfl ?_
    exact at_ret rfl rfl (rsO l res c r) ⟨rfl, rfl⟩ ⟨rfl, rfl, trivial⟩
theorem one_pair_no2 (l res : List Tm) (c r : Nat) (m : Mv) (hk : m.k = 10) (h : inF m.a res.length = true) (hb : inF m.b res.length = false) : Contract Try.prog 60 2 (rsO l res c r) [.ptr 0 0, m.sv] fun s post => s = .tup [zSV, I 8] ∧ post = rsO l res c r := by
  have ha := at_yes_fn l res c r m.a h
  have hc := at_no_fn l res c r m.b hb
  generalize res.getD m.a.toNat .zero = u at ha
  refine contract_of ty_ok [3, 4, 5, 6, 7] Try.func60 rfl (by decide) Try.ntmps60 rfl fun z => ?_
  refine run 400 rfl ?_
  refine at_false 15 rfl (by rw [hk]; rfl) ?_
  refine run 400 rfl ?_
  refine at_ifd rfl (fun q2 => by omega) (fun _ => ?_)
  refine run 400 rfl ?_
  refine at_drawn 19 rfl rfl [(2, .no)] [20, 21, 22] rfl (by rw [hk]; rfl) ?_
  refine run 400 rfl ?_
  refine at_if rfl (fun q2 => by rw [hk] at q2; cases q2) (fun _ => ?_)
  refine run 400 rfl ?_
  refine at_if rfl (fun q2 => by rw [hk] at q2; cases q2) (fun _ => ?_)
  refine run 400 rfl ?_
  refine at_callF [0, 1] (ha) rfl ⟨rfl, rfl, trivial⟩ rfl rfl rfl ?_
  refine run 400 rfl ?_
  refine at_callF [0, 1] (hc) rfl ⟨rfl, rfl, trivial⟩ rfl rfl rfl ?_
  refine run 400 rfl ?_
  refine at_false 77 rfl (by rw [hk]; rfl) ?_
  refine run 400 rfl ?_
  refine at_false 82 rfl (by rw [hk]; rfl) ?_
  refine run 400 rfl ?_
  refine at_true 91 rfl (by rw [hk]; rfl) ?_
  refine run 400 rfl ?_
  exact at_ret rfl rfl (rsO l res c r) ⟨rfl, rfl⟩ ⟨rfl, rfl, trivial⟩
end Go.Proofs.Ytmnmhehddbemkaa
namespace Go.Proofs.Ytmnmhehddbemkaa
open Go Go.Eng
set_option maxRecDepth 100000

theorem one_fn (l res : List Tm) (c r : Nat) (m : Mv) (hr : ∀ x ∈ res, Gd x) : Contract Try.prog 60 2 (rsO l res c r) [.ptr 0 0, m.sv] fun s post => s = oneS (oneF l res m) ∧ post = rsO l res c r := by
  have hkid : ∀ (n : Int) (q : Int), inF n res.length = true → (res.getD n.toNat .zero).k = q → ((res.getD n.toNat .zero).kids.length : Int) = kidsF q := by
    intro n q hn hq
    have h0 := inF_lt hn
    have hm := getD_mem (l := res) (n := n.toNat) (by omega)
    have := hr _ hm
    generalize res.getD n.toNat .zero = u at this hq
    cases this with
    | mk h1 h2 => rw [← hq]; exact h1
  by_cases hb : m.k < 1 ∨ 10 < m.k
  · have e : oneF l res m = (none, 2) := by
      have : readF m = none := by
        unfold readF
        repeat rw [if_neg (by omega)]
      rw [oneF, this]
    rw [e]
    exact one_bad l res c r m hb
  have hk : m.k = 1 ∨ m.k = 2 ∨ m.k = 3 ∨ m.k = 4 ∨ m.k = 5 ∨ m.k = 6 ∨ m.k = 7 ∨ m.k = 8 ∨ m.k = 9 ∨ m.k = 10 := by omega
  rcases hk with hk | hk | hk | hk | hk | hk | hk | hk | hk | hk
  · have er : readF m = some (.given m.a) := by unfold readF; rw [if_pos hk]
    cases hn : inF m.a l.length with
    | true =>
      have e : oneF l res m = (some (l.getD m.a.toNat .zero), 0) := by rw [oneF, er]; simp [nearF, hn, stepT]
      rw [e]; exact one_known l res c r m hk hn
    | false =>
      have e : oneF l res m = (none, 8) := by rw [oneF, er]; simp [nearF, hn]
      rw [e]; exact one_known_no l res c r m hk hn
  · have er : readF m = some (.atom m.s) := by unfold readF; rw [if_neg (by omega), if_pos hk]
    have e : oneF l res m = (some (.mk 1 0 m.s []), 0) := by rw [oneF, er]; simp [nearF, stepT]
    rw [e]; exact one_atom l res c r m hk
  · have er : readF m = some (.half m.a 7 0) := by unfold readF; rw [if_neg (by omega), if_neg (by omega), if_pos hk]
    cases hn : inF m.a res.length with
    | true =>
      by_cases hq : (res.getD m.a.toNat .zero).k = 7
      · have hl : ((res.getD m.a.toNat .zero).kids.length : Int) = 2 := hkid _ _ hn hq
        have e : oneF l res m = (some ((res.getD m.a.toNat .zero).kids.getD 0 .zero), 0) := by
          rw [oneF, er]
          dsimp only
          rw [nearF, if_pos hn, stepT, if_pos ⟨hq, by omega⟩]
          rfl
        rw [e]; exact one_left l res c r m hk hn hq (by omega)
      · have e : oneF l res m = (none, 3) := by
          rw [oneF, er]
          dsimp only
          rw [nearF, if_pos hn, stepT, if_neg (fun h => hq h.1)]
        rw [e]; exact one_left_form l res c r m hk hn hq
    | false =>
      have e : oneF l res m = (none, 8) := by
        rw [oneF, er]
        dsimp only
        rw [nearF, hn, if_neg (by decide)]
      rw [e]; exact one_left_no l res c r m hk hn
  · have er : readF m = some (.half m.a 7 1) := by unfold readF; rw [if_neg (by omega), if_neg (by omega), if_neg (by omega), if_pos hk]
    cases hn : inF m.a res.length with
    | true =>
      by_cases hq : (res.getD m.a.toNat .zero).k = 7
      · have hl : ((res.getD m.a.toNat .zero).kids.length : Int) = 2 := hkid _ _ hn hq
        have e : oneF l res m = (some ((res.getD m.a.toNat .zero).kids.getD 1 .zero), 0) := by
          rw [oneF, er]
          dsimp only
          rw [nearF, if_pos hn, stepT, if_pos ⟨hq, by omega⟩]
          rfl
        rw [e]; exact one_right l res c r m hk hn hq (by omega)
      · have e : oneF l res m = (none, 3) := by
          rw [oneF, er]
          dsimp only
          rw [nearF, if_pos hn, stepT, if_neg (fun h => hq h.1)]
        rw [e]; exact one_right_form l res c r m hk hn hq
    | false =>
      have e : oneF l res m = (none, 8) := by
        rw [oneF, er]
        dsimp only
        rw [nearF, hn, if_neg (by decide)]
      rw [e]; exact one_right_no l res c r m hk hn
  · have er : readF m = some (.half m.a 6 1) := by unfold readF; rw [if_neg (by omega), if_neg (by omega), if_neg (by omega), if_neg (by omega), if_pos hk]
    cases hn : inF m.a res.length with
    | true =>
      by_cases hq : (res.getD m.a.toNat .zero).k = 6
      · have hl : ((res.getD m.a.toNat .zero).kids.length : Int) = 2 := hkid _ _ hn hq
        have e : oneF l res m = (some ((res.getD m.a.toNat .zero).kids.getD 1 .zero), 0) := by
          rw [oneF, er]
          dsimp only
          rw [nearF, if_pos hn, stepT, if_pos ⟨hq, by omega⟩]
          rfl
        rw [e]; exact one_open l res c r m hk hn hq (by omega)
      · have e : oneF l res m = (none, 3) := by
          rw [oneF, er]
          dsimp only
          rw [nearF, if_pos hn, stepT, if_neg (fun h => hq h.1)]
        rw [e]; exact one_open_form l res c r m hk hn hq
    | false =>
      have e : oneF l res m = (none, 8) := by
        rw [oneF, er]
        dsimp only
        rw [nearF, hn, if_neg (by decide)]
      rw [e]; exact one_open_no l res c r m hk hn
  · have er : readF m = some (.one 3 m.a) := by unfold readF; rw [if_neg (by omega), if_neg (by omega), if_neg (by omega), if_neg (by omega), if_neg (by omega), if_pos hk]
    cases hn : inF m.a res.length with
    | true =>
      have e : oneF l res m = (some (.mk 3 0 .empty [res.getD m.a.toNat .zero]), 0) := by
        rw [oneF, er]
        dsimp only
        rw [nearF, if_pos hn, stepT]
      rw [e]; exact one_hash l res c r m hk hn
    | false =>
      have e : oneF l res m = (none, 8) := by
        rw [oneF, er]
        dsimp only
        rw [nearF, hn, if_neg (by decide)]
      rw [e]; exact one_hash_no l res c r m hk hn
  · have er : readF m = some (.one 4 m.a) := by unfold readF; rw [if_neg (by omega), if_neg (by omega), if_neg (by omega), if_neg (by omega), if_neg (by omega), if_neg (by omega), if_pos hk]
    cases hn : inF m.a res.length with
    | true =>
      have e : oneF l res m = (some (.mk 4 0 .empty [res.getD m.a.toNat .zero]), 0) := by
        rw [oneF, er]
        dsimp only
        rw [nearF, if_pos hn, stepT]
      rw [e]; exact one_pub l res c r m hk hn
    | false =>
      have e : oneF l res m = (none, 8) := by
        rw [oneF, er]
        dsimp only
        rw [nearF, hn, if_neg (by decide)]
      rw [e]; exact one_pub_no l res c r m hk hn
  · have er : readF m = some (.two 5 m.a m.b) := by unfold readF; rw [if_neg (by omega), if_neg (by omega), if_neg (by omega), if_neg (by omega), if_neg (by omega), if_neg (by omega), if_neg (by omega), if_pos hk]
    cases hn : inF m.a res.length with
    | true =>
      cases hn2 : inF m.b res.length with
      | true =>
        have e : oneF l res m = (some (.mk 5 0 .empty [res.getD m.a.toNat .zero, res.getD m.b.toNat .zero]), 0) := by
          rw [oneF, er]
          dsimp only
          rw [nearF, hn, hn2, if_pos (by decide), stepT]
        rw [e]; exact one_mac l res c r m hk hn hn2
      | false =>
        have e : oneF l res m = (none, 8) := by
          rw [oneF, er]
          dsimp only
          rw [nearF, hn, hn2, if_neg (by decide)]
        rw [e]; exact one_mac_no2 l res c r m hk hn hn2
    | false =>
      have e : oneF l res m = (none, 8) := by
        rw [oneF, er]
        dsimp only
        rw [nearF, hn, Bool.false_and, if_neg (by decide)]
      rw [e]; exact one_mac_no l res c r m hk hn
  · have er : readF m = some (.two 6 m.a m.b) := by unfold readF; rw [if_neg (by omega), if_neg (by omega), if_neg (by omega), if_neg (by omega), if_neg (by omega), if_neg (by omega), if_neg (by omega), if_neg (by omega), if_pos hk]
    cases hn : inF m.a res.length with
    | true =>
      cases hn2 : inF m.b res.length with
      | true =>
        have e : oneF l res m = (some (.mk 6 0 .empty [res.getD m.a.toNat .zero, res.getD m.b.toNat .zero]), 0) := by
          rw [oneF, er]
          dsimp only
          rw [nearF, hn, hn2, if_pos (by decide), stepT]
        rw [e]; exact one_sig l res c r m hk hn hn2
      | false =>
        have e : oneF l res m = (none, 8) := by
          rw [oneF, er]
          dsimp only
          rw [nearF, hn, hn2, if_neg (by decide)]
        rw [e]; exact one_sig_no2 l res c r m hk hn hn2
    | false =>
      have e : oneF l res m = (none, 8) := by
        rw [oneF, er]
        dsimp only
        rw [nearF, hn, Bool.false_and, if_neg (by decide)]
      rw [e]; exact one_sig_no l res c r m hk hn
  · have er : readF m = some (.two 7 m.a m.b) := by unfold readF; rw [if_neg (by omega), if_neg (by omega), if_neg (by omega), if_neg (by omega), if_neg (by omega), if_neg (by omega), if_neg (by omega), if_neg (by omega), if_neg (by omega), if_pos hk]
    cases hn : inF m.a res.length with
    | true =>
      cases hn2 : inF m.b res.length with
      | true =>
        have e : oneF l res m = (some (.mk 7 0 .empty [res.getD m.a.toNat .zero, res.getD m.b.toNat .zero]), 0) := by
          rw [oneF, er]
          dsimp only
          rw [nearF, hn, hn2, if_pos (by decide), stepT]
        rw [e]; exact one_pair l res c r m hk hn hn2
      | false =>
        have e : oneF l res m = (none, 8) := by
          rw [oneF, er]
          dsimp only
          rw [nearF, hn, hn2, if_neg (by decide)]
        rw [e]; exact one_pair_no2 l res c r m hk hn hn2
    | false =>
      have e : oneF l res m = (none, 8) := by
        rw [oneF, er]
        dsimp only
        rw [nearF, hn, Bool.false_and, if_neg (by decide)]
      rw [e]; exact one_pair_no l res c r m hk hn

/-- The document's run. -/
def runR (l : List Tm) : List Mv → List Tm → List Tm × Int
  | [], acc => (acc, 0)
  | m :: ms, acc => match oneF l acc m with
    | (some t, _) => if mayF t then runR l ms (acc ++ [t]) else ([], 3)
    | (none, e) => ([], e)
theorem runR_eq (l : List Tm) : ∀ (ms : List Mv) (acc : List Tm), runR l ms acc = runG l ms acc
  | [], _ => by rw [runR, runG]
  | m :: ms, acc => by
    cases hr : readF m with
    | none => simp only [runR, runG, oneF, hr]
    | some s =>
      by_cases hn : nearF s acc.length l.length = true
      · cases hs : stepT l acc s with
        | none => simp only [runR, runG, oneF, hr, if_pos hn, doesF, hs]
        | some t =>
          cases hm : mayF t with
          | true => simp only [runR, runG, oneF, hr, if_pos hn, doesF, hs, hm, if_true]; exact runR_eq l ms _
          | false => simp [runR, runG, oneF, hr, hn, doesF, hs, hm]
      · simp [runR, runG, oneF, hr, hn]
end Go.Proofs.Ytmnmhehddbemkaa
namespace Go.Proofs.Ytmnmhehddbemkaa
open Go Go.Eng
set_option maxRecDepth 100000

abbrev z0 : Tm := .mk 0 0 .empty []
theorem row_z0 : ([.int .i64 0, .int .i64 0, .str .empty, .lst 4 []] : List DV) = tr z0 := by
  show _ = [DV.int .i64 0, .int .i64 0, .str .empty, .lst 4 (rowsT [])]
  rw [rowsT_nil]
theorem set_last {α : Type} (l : List α) (x y : α) : (l ++ [x]).set l.length y = l ++ [y] := by
  rw [List.set_append_right _ _ (Nat.le_refl _), Nat.sub_self]
  rfl

theorem rrun_fn (l : List Tm) (ms : List Mv) : Gives Try.prog 22 [.lst 4 (rowsT l), .lst 4 (rowsM ms)] (.tup [.lst 4 (rowsT (runF l ms).1), I (runF l ms).2]) := by
  refine GivesP.le (Post := fun s => ∃ a, s = .tup [a, I (runF l ms).2] ∧ SVle a (.lst 4 (rowsT (runF l ms).1))) ?_ (fun s h => by
    obtain ⟨a, rfl, h⟩ := h
    exact SVle.tup ⟨h, SVle.refl _, trivial⟩)
  have hml : (rowsM ms).length = ms.length := by simp
  refine contract_of ty_ok [0, 1, 2, 3, 4, 5, 6, 7] Try.func22 rfl (by decide) Try.ntmps22 rfl fun z => ?_
  refine run 400 rfl ?_
  refine at_ifd rfl (fun h => ?_) (fun h => ?_)
  · rw [hml] at h
    have e : runF l ms = ([], 7) := by unfold runF; rw [if_pos (by omega)]
    refine run 400 rfl ?_
    exact at_ret rfl rfl [] ⟨⟨_, by rw [e], by rw [e]; exact SVle.nils⟩, rfl, rfl⟩ trivial
  rw [hml] at h
  have e : runF l ms = runG l ms [] := by unfold runF; rw [if_neg (by omega)]
  rw [e]
  refine run 400 rfl ?_
  refine at_nilSI 0 1 1 rfl rfl rfl ?_
  refine at_loop (fun x : Nat × List Tm × Nat × Nat => x.1 ≤ ms.length ∧ x.2.1.length = x.1 ∧ runG l (ms.drop x.1) x.2.1 = runG l ms [] ∧ (∀ t ∈ x.2.1, Gd t) ∧ x.2.1.length ≤ x.2.2.1 ∧ x.2.1.length * 4 + x.2.2.2 = x.2.2.1 * 4)
    (fun x => [(0, .lst 4 (rowsT l)), (1, .lst 4 (rowsM ms)), (6, .ptr 0 0), (7, I x.1)]) (fun x => rsO l x.2.1 x.2.2.1 x.2.2.2) (fun x => ms.length - x.1) [2, 3, 4, 5, 6, 7, 8, 9]
    (0, [], 0, 0) ⟨by dsimp only; omega, rfl, rfl, by simp, by simp, by simp⟩ ⟨SVle.refl _, SVle.refl _, SVle.refl _, SVle.refl _, trivial⟩ ⟨rfl, by show some _ = some (SO.buf (rowsT []) 0); rw [rowsT_nil], trivial⟩ ?_
  rintro ⟨i, acc, c, r⟩ ⟨a1, a2, a3, a4, a5, a6⟩
  dsimp only at a1 a2 a3 a4 a5 a6
  refine run 400 rfl ?_
  refine at_ifd rfl (fun g => ?_) (fun g => ?_)
  rotate_left
  · dsimp only at g
    rw [hml] at g
    have : i = ms.length := by omega
    subst this
    rw [List.drop_length] at a3
    refine run 400 rfl ?_
    refine at_pubS 4 1 4 rfl rfl (rowsT_len acc).symm a5 rowsT_sz rfl ?_
    refine at_ret rfl rfl [] ⟨⟨.lst 4 (rowsT acc), by rw [← a3, runG], by rw [← a3, runG]; exact SVle.refl _⟩, rfl, rfl⟩ trivial
  dsimp only at g
  rw [hml] at g
  have hlt : i < ms.length := by omega
  have hget := rowsM_get hlt
  have hdr : ms.drop i = ms.getD i .zero :: ms.drop (i + 1) := by
    rw [List.drop_eq_getElem_cons hlt, List.getD_eq_getElem?_getD, List.getElem?_eq_getElem hlt]
    rfl
  rw [hdr] at a3
  generalize ms.getD i .zero = m at hget a3
  refine run 400 rfl ?_
  refine at_val (.rp (mr m) 0) (does_index ty_ok _ rfl rfl rfl (by omega) (show (rowsM ms)[(i : Int).toNat]? = some (mr m) from hget) rfl) ?_
  refine run 400 rfl ?_
  have hone := one_fn l acc c r m a4
  have hstep := runR_eq l (m :: ms.drop (i + 1)) acc
  rw [runR] at hstep
  rcases hr : oneF l acc m with ⟨ot, e1⟩
  rw [hr] at hone hstep
  cases ot with
  | none =>
    have hstep : ([], e1) = runG l (m :: ms.drop (i + 1)) acc := hstep
    refine at_callF [0, 1] hone rfl ⟨rfl, rfl, trivial⟩ rfl rfl rfl ?_
    have he : e1 ≠ 0 := by
      intro h0
      subst h0
      rw [oneF] at hr
      split at hr
      · cases hr
      · split at hr
        · split at hr <;> cases hr
        · cases hr
    refine run 400 rfl ?_
    refine at_false 33 rfl (by simpa using he) ?_
    refine run 400 rfl ?_
    refine at_if rfl (fun _ => ?_) (fun q => absurd (by simpa using q) he)
    refine run 400 rfl ?_
    exact at_ret rfl rfl [] ⟨⟨.tl 0 [], by rw [← a3, ← hstep]; rfl, by rw [← a3, ← hstep]; exact SVle.nils⟩, rfl, rfl⟩ trivial
  | some t =>
    have he : e1 = 0 := by
      rw [oneF] at hr
      split at hr
      · cases hr
      · split at hr
        · split at hr
          · cases hr; rfl
          · cases hr
        · cases hr
    subst he
    have hstep : (if mayF t then runR l (ms.drop (i + 1)) (acc ++ [t]) else ([], 3)) = runG l (m :: ms.drop (i + 1)) acc := hstep
    refine at_callF [0, 1] hone rfl ⟨rfl, rfl, trivial⟩ rfl rfl rfl ?_
    refine run 400 rfl ?_
    refine at_true 33 rfl rfl ?_
    refine run 400 rfl ?_
    refine at_fn (rmay_fn t) rfl ?_
    refine run 400 rfl ?_
    refine at_if rfl (fun q => ?_) (fun q => ?_)
    · have q : mayF t = false := by simpa using q
      rw [q, if_neg (by decide)] at hstep
      refine run 400 rfl ?_
      refine at_if rfl (fun _ => ?_) (fun q => by cases q)
      refine run 400 rfl ?_
      exact at_ret rfl rfl [] ⟨⟨.tl 0 [], by rw [← a3, ← hstep], by rw [← a3, ← hstep]; exact SVle.nils⟩, rfl, rfl⟩ trivial
    · have q : mayF t = true := by simpa using q
      rw [q, if_pos rfl, runR_eq] at hstep
      refine run 400 rfl ?_
      refine at_if rfl (fun q => by cases q) (fun _ => ?_)
      refine run 400 rfl ?_
      refine at_stages ?_
      refine at_stage 7 [] rfl rfl rfl rfl rfl [(6, .gro (.tl 4 [[.int .i64 0, .int .i64 0, .str .empty, .lst 4 []]]))] [10, 11, 12] rfl (by exact doesG_build ty_ok _ rfl ⟨⟨rfl, rfl, _, rfl, ⟨SVle.refl _, SVle.refl _, SVle.refl _, fun g H x h => SVle.tl 4 [] g H x (SVle.nil 4 g H x h), trivial⟩⟩, trivial⟩ rfl rfl (by decide)) ?_
      refine at_forced [21, 22] (fun y : Nat × Nat => acc.length + 1 ≤ y.1 ∧ (acc.length + 1) * 4 + y.2 = y.1 * 4) (fun y => [(0, .lst 4 (rowsT l)), (1, .lst 4 (rowsM ms)), (6, .ptr 0 0), (7, I i), (41, .ptr 0 0), (45, t.sv), (46, I acc.length), (48, .sl 20 0 (acc.length + 1) y.1)])
        (fun y => [(0, .cells 73 [.lst 4 (rowsT l), .sl 1 0 acc.length c]), (20, .buf (rowsT acc ++ [tr z0]) y.2)]) rfl rfl rfl rfl rfl ?_ ?_
      · refine at_appendS 1 20 4 ty_ok rfl rfl rfl rfl rfl rfl rfl (rowsT_len acc).symm rowsT_sz a6 a5 (by simp) rfl (by simp; omega) (by show _ * 56 ≤ _; simp; omega) rfl ?_
        intro c' r' h1 h2
        refine run 400 rfl ?_
        exact at_joined (c', r') ⟨h1, h2⟩ ⟨SVle.refl _, SVle.refl _, SVle.refl _, SVle.refl _, SVle.refl _, SVle.refl _, SVle.refl _, SVle.refl _, trivial⟩ ⟨rfl, by rw [← row_z0]; rfl, trivial⟩
      · rintro ⟨c', r'⟩ ⟨h1, h2⟩
        dsimp only at h1 h2 ⊢
        have hsz : ∀ q ∈ rowsT acc ++ [tr z0], q.length = 4 := by
          intro q hq
          rcases List.mem_append.1 hq with hq | hq
          · exact rowsT_sz q hq
          · rw [List.mem_singleton] at hq; subst hq; rfl
        have hset : (rowsT acc ++ [tr z0]).set acc.length (tr t) = rowsT (acc ++ [t]) := by
          rw [← rowsT_len acc, set_last, rowsT_app, rowsT_cons, rowsT_nil]
        refine at_stage 5 [0, 20] rfl rfl rfl rfl rfl [(8, .val (.ptr 20 (0 + (acc.length : Int).toNat * 4))), (9, .put 20 (.buf ((rowsT acc ++ [tr z0]).set acc.length (tr t)) r'))] [30] rfl
          ⟨doesWS_row (i := acc.length) (sz := 4) ty_ok (tr t) rfl rfl rfl (fun e => by cases e) rfl (by omega) hsz (by simp [rowsT_len]) rfl, does_indexS ty_ok rfl rfl rfl (by omega) rfl⟩ ?_
        refine at_stage_end [2, 3, 4, 5, 6, 7, 8, 9] rfl ?_
        refine at_swap 1 20 ?_
        refine run 400 rfl ?_
        have hgt : Gd t := mayF_gd q
        exact at_again (i + 1, acc ++ [t], c', r') ⟨by dsimp only; omega, by simp [a2], by dsimp only; rw [hstep, a3], by
            intro x hx
            dsimp only at hx
            rcases List.mem_append.1 hx with hx | hx
            · exact a4 x hx
            · rw [List.mem_singleton] at hx; subst hx; exact hgt, by dsimp only; rw [List.length_append]; exact h1, by dsimp only; rw [List.length_append]; exact h2⟩ (by dsimp only; omega)
          ⟨SVle.refl _, SVle.refl _, SVle.refl _, SVle.of_eq (by show I ((i : Int) + 1) = I ((i + 1 : Nat) : Int); rw [Int.natCast_add]; rfl), trivial⟩
          ⟨by show some _ = some (SO.cells 73 [.lst 4 (rowsT l), .sl 1 0 (acc ++ [t]).length c']); rw [List.length_append]; rfl, by dsimp only; rw [← hset]; rfl, trivial⟩
end Go.Proofs.Ytmnmhehddbemkaa
namespace Go.Proofs.Ytmnmhehddbemkaa
open Go Go.Eng
set_option maxRecDepth 100000

theorem all_fn (l : List Tm) (h : ∀ x ∈ l, Sm x) (hl : l.length ≤ 10000000) : Gives Try.prog 24 [.lst 4 (rowsT l), .lst 4 (rowsT l)] .tt := by
  have hlen := rowsT_len l
  refine contract_of ty_ok [0, 1, 2, 3, 4, 5, 6, 7] Try.func24 rfl (by decide) Try.ntmps24 rfl fun z => ?_
  refine run 400 rfl ?_
  refine at_if rfl (fun q => by simp at q) (fun _ => ?_)
  refine run 400 rfl ?_
  refine at_loop (fun i : Nat => i ≤ l.length) (fun i => [(0, .lst 4 (rowsT l)), (1, .lst 4 (rowsT l)), (5, I i)]) (fun _ => []) (fun i => l.length - i) [0, 1, 2, 3, 4, 5, 6, 7]
    0 (by omega) ⟨SVle.refl _, SVle.refl _, SVle.refl _, trivial⟩ trivial ?_
  intro i hi
  refine run 400 rfl ?_
  refine at_ifd rfl (fun g => ?_) (fun g => ?_)
  rotate_left
  · refine run 400 rfl ?_
    exact at_ret rfl rfl [] ⟨rfl, rfl, rfl⟩ trivial
  rw [hlen] at g
  have hlt : i < l.length := by omega
  have hget := rowsT_get hlt
  have hmem := getD_mem hlt
  generalize l.getD i .zero = u at hget hmem
  refine run 400 rfl ?_
  refine at_drawn 10 rfl rfl [(2, .val (.rp (tr u) 0)), (6, .val (.rp (tr u) 0)), (8, .sv (.bl (same u u)))] [20, 21, 22] rfl
    ⟨same_fn u u (h u hmem), does_index ty_ok _ rfl rfl rfl (by omega) (show (rowsT l)[(i : Int).toNat]? = some (tr u) from hget) rfl, does_index ty_ok _ rfl rfl rfl (by omega) (show (rowsT l)[(i : Int).toNat]? = some (tr u) from hget) rfl⟩ ?_
  refine run 400 rfl ?_
  refine at_if rfl (fun q => by rw [same_iff.2 rfl] at q; cases q) (fun _ => ?_)
  refine run 400 rfl ?_
  exact at_again (i + 1) (by omega) (by omega) ⟨SVle.refl _, SVle.refl _, SVle.of_eq (by show I ((i : Int) + 1) = I ((i + 1 : Nat) : Int); rw [Int.natCast_add]; rfl), trivial⟩ trivial

theorem runF_bnd (l : List Tm) (ms : List Mv) : (runF l ms).1.length ≤ 1024 := by
  by_cases h : (runF l ms).2 = 0
  · rw [runF_len l ms h]
    by_cases h2 : 1024 < ms.length
    · unfold runF at h; rw [if_pos h2] at h; cases h
    · omega
  · rw [runF_err l ms h]; simp
def provesF (l : List Tm) (ms : List Mv) (t : Tm) : Bool := ((runF l ms).2 == 0) && decide (0 < (runF l ms).1.length) && same ((runF l ms).1.getD ((runF l ms).1.length - 1) .zero) t

theorem proves_fn (l : List Tm) (ms : List Mv) (t : Tm) (hl : l.length ≤ 1000000) : Gives Try.prog 25 [.lst 4 (rowsT l), .lst 4 (rowsM ms), t.sv] (.bl (provesF l ms t)) := by
  have hR := run_fn l ms hl
  have hsm := runF_sm l ms
  unfold provesF
  have hlen := rowsT_len (runF l ms).1
  have hbd := runF_bnd l ms
  generalize runF l ms = R at hR hsm hlen hbd
  obtain ⟨out, e⟩ := R
  dsimp only at hR hsm hlen hbd ⊢
  by_cases he : e = 0
  · by_cases h0 : 0 < out.length
    · have hlt : out.length - 1 < out.length := by omega
      have hget := rowsT_get hlt
      have hmem := getD_mem hlt
      have hS := tsame_fn (out.getD (out.length - 1) .zero) t (hsm _ hmem)
      generalize out.getD (out.length - 1) .zero = u at hget hmem hS
      have hb : ((e == 0) && decide (0 < out.length) && same u t) = same u t := by simp [he, h0]
      rw [hb]
      refine contract_of ty_ok [0, 1, 2, 3, 4, 5, 6, 7] Try.func25 rfl (by decide) Try.ntmps25 rfl fun z => ?_
      refine run 400 rfl ?_
      refine at_fn hR rfl ?_
      refine run 400 rfl ?_
      refine at_drawn 18 rfl rfl [(1, .yes), (5, .yes), (12, .val (.rp (tr u) 0)), (15, .sv (.bl (same u t)))] [20, 21, 22] rfl
        ⟨hS, does_index ty_ok _ rfl rfl rfl (by omega) (show (rowsT out)[(((rowsT out).length : Int) - 1).toNat]? = some (tr u) by rw [hlen, show ((out.length : Int) - 1).toNat = out.length - 1 by omega]; exact hget) rfl, by simp only [inR]; omega, by simp; omega, by show (e == 0) = true; simp [he]⟩ ?_
      refine run 400 rfl ?_
      exact at_ret rfl rfl [] ⟨rfl, rfl, rfl⟩ trivial
    · have hb : ((e == 0) && decide (0 < out.length) && same (out.getD (out.length - 1) .zero) t) = false := by simp [h0]
      rw [hb]
      refine Gives.le (a := .ff) ?_ (SVle.ff rfl)
      refine contract_of ty_ok [0, 1, 2, 3, 4, 5, 6, 7] Try.func25 rfl (by decide) Try.ntmps25 rfl fun z => ?_
      refine run 400 rfl ?_
      refine at_fn hR rfl ?_
      refine run 400 rfl ?_
      refine at_drawn 18 rfl rfl [(1, .yes), (5, .no)] [20, 21, 22] rfl ⟨by show decide ((0 : Int) < ((rowsT out).length : Int)) = false; rw [hlen, decide_eq_false_iff_not]; omega, by show (e == 0) = true; simp [he]⟩ ?_
      refine run 400 rfl ?_
      exact at_ret rfl rfl [] ⟨rfl, rfl, rfl⟩ trivial
  · have hb : ((e == 0) && decide (0 < out.length) && same (out.getD (out.length - 1) .zero) t) = false := by simp [he]
    rw [hb]
    refine Gives.le (a := .ff) ?_ (SVle.ff rfl)
    refine contract_of ty_ok [0, 1, 2, 3, 4, 5, 6, 7] Try.func25 rfl (by decide) Try.ntmps25 rfl fun z => ?_
    refine run 400 rfl ?_
    refine at_fn hR rfl ?_
    refine run 400 rfl ?_
    refine at_drawn 18 rfl rfl [(1, .no)] [20, 21, 22] rfl (by show (e == 0) = false; simp [he]) ?_
    refine run 400 rfl ?_
    exact at_ret rfl rfl [] ⟨rfl, rfl, rfl⟩ trivial
theorem rproves_fn (l : List Tm) (ms : List Mv) (t : Tm) : Gives Try.prog 26 [.lst 4 (rowsT l), .lst 4 (rowsM ms), t.sv] (.bl (provesF l ms t)) := by
  have hR := rrun_fn l ms
  have hsm := runF_sm l ms
  unfold provesF
  have hlen := rowsT_len (runF l ms).1
  have hbd := runF_bnd l ms
  generalize runF l ms = R at hR hsm hlen hbd
  obtain ⟨out, e⟩ := R
  dsimp only at hR hsm hlen hbd ⊢
  by_cases he : e = 0
  · by_cases h0 : 0 < out.length
    · have hlt : out.length - 1 < out.length := by omega
      have hget := rowsT_get hlt
      have hmem := getD_mem hlt
      have hS := same_fn (out.getD (out.length - 1) .zero) t (hsm _ hmem)
      generalize out.getD (out.length - 1) .zero = u at hget hmem hS
      have hb : ((e == 0) && decide (0 < out.length) && same u t) = same u t := by simp [he, h0]
      rw [hb]
      refine contract_of ty_ok [0, 1, 2, 3, 4, 5, 6, 7] Try.func26 rfl (by decide) Try.ntmps26 rfl fun z => ?_
      refine run 400 rfl ?_
      refine at_fn hR rfl ?_
      refine run 400 rfl ?_
      refine at_drawn 18 rfl rfl [(1, .yes), (5, .yes), (12, .val (.rp (tr u) 0)), (15, .sv (.bl (same u t)))] [20, 21, 22] rfl
        ⟨hS, does_index ty_ok _ rfl rfl rfl (by omega) (show (rowsT out)[(((rowsT out).length : Int) - 1).toNat]? = some (tr u) by rw [hlen, show ((out.length : Int) - 1).toNat = out.length - 1 by omega]; exact hget) rfl, by simp only [inR]; omega, by simp; omega, by show (e == 0) = true; simp [he]⟩ ?_
      refine run 400 rfl ?_
      exact at_ret rfl rfl [] ⟨rfl, rfl, rfl⟩ trivial
    · have hb : ((e == 0) && decide (0 < out.length) && same (out.getD (out.length - 1) .zero) t) = false := by simp [h0]
      rw [hb]
      refine Gives.le (a := .ff) ?_ (SVle.ff rfl)
      refine contract_of ty_ok [0, 1, 2, 3, 4, 5, 6, 7] Try.func26 rfl (by decide) Try.ntmps26 rfl fun z => ?_
      refine run 400 rfl ?_
      refine at_fn hR rfl ?_
      refine run 400 rfl ?_
      refine at_drawn 18 rfl rfl [(1, .yes), (5, .no)] [20, 21, 22] rfl ⟨by show decide ((0 : Int) < ((rowsT out).length : Int)) = false; rw [hlen, decide_eq_false_iff_not]; omega, by show (e == 0) = true; simp [he]⟩ ?_
      refine run 400 rfl ?_
      exact at_ret rfl rfl [] ⟨rfl, rfl, rfl⟩ trivial
  · have hb : ((e == 0) && decide (0 < out.length) && same (out.getD (out.length - 1) .zero) t) = false := by simp [he]
    rw [hb]
    refine Gives.le (a := .ff) ?_ (SVle.ff rfl)
    refine contract_of ty_ok [0, 1, 2, 3, 4, 5, 6, 7] Try.func26 rfl (by decide) Try.ntmps26 rfl fun z => ?_
    refine run 400 rfl ?_
    refine at_fn hR rfl ?_
    refine run 400 rfl ?_
    refine at_drawn 18 rfl rfl [(1, .no)] [20, 21, 22] rfl (by show (e == 0) = false; simp [he]) ?_
    refine run 400 rfl ?_
    exact at_ret rfl rfl [] ⟨rfl, rfl, rfl⟩ trivial

theorem oneT_fn (ks : List Int) (hl : ks.length ≤ 9223372036854775807) : Gives Try.prog 23 [.lst 1 (ints ks)] (genT ks 4 0).1.sv := by
  refine contract_of ty_ok [0, 1, 2, 3, 4, 5, 6, 7] Try.func23 rfl (by decide) Try.ntmps23 rfl fun z => ?_
  refine run 400 rfl ?_
  refine at_metF 1 (term_fn ks hl 4 (by omega) 0 (by omega) (by omega)) rfl rfl rfl ?_
  refine run 400 rfl ?_
  exact at_ret rfl rfl [] ⟨rfl, rfl, rfl⟩ trivial
end Go.Proofs.Ytmnmhehddbemkaa
namespace Go.Proofs.Ytmnmhehddbemkaa
open Go Go.Eng
set_option maxRecDepth 100000

theorem has_self (a : Tm) : hasT a a = true := by
  cases a
  rw [hasT, same_iff.2 rfl, Bool.true_or]
theorem ints_gt {l : List Int} {i : Nat} {u : Int} (h : l[i]? = some u) : (ints l)[((i : Int)).toNat]? = some [.int .i64 u] := ints_at' h

theorem termParts_fn (ns ms : List Int) (h1 : ns.length ≤ 9223372036854775807) (h2 : ms.length ≤ 9223372036854775807) : Gives Try.prog 12 [.lst 1 (ints ns), .lst 1 (ints ms)] .tt := by
  have hA := oneT_fn ns h1
  have hB := oneT_fn ms h2
  obtain ⟨ga, sa⟩ := genT_gd ns 4 0 (by omega)
  obtain ⟨gb, sb⟩ := genT_gd ms 4 0 (by omega)
  generalize (genT ns 4 0).1 = a at hA ga sa
  generalize (genT ms 4 0).1 = b at hB gb sb
  have ha := ga.sm
  have hb := gb.sm
  have hN := nonces_fn a ha (by omega)
  have hR := rnon_fn a ha (by omega)
  have hln := rnonT_len a
  generalize rnonT a = L at hN hR hln
  have hll := ints_len L
  have hsT : Sm (Tm.mk 7 0 .empty [b, a]) := .mk (by simp) (by intro t ht; simp at ht; rcases ht with rfl | rfl; exact hb; exact ha)
  have hP : Gives Try.prog 49 [(Tm.mk 7 0 .empty [b, a]).sv, a.sv] .tt := gives_is (c := true) (has_fn (.mk 7 0 .empty [b, a]) a hsT) (by
    rw [hasT, hasL, hasL, has_self a]; simp)
  refine contract_of ty_ok [0, 1, 2, 3, 4, 5, 6, 7] Try.func12 rfl (by decide) Try.ntmps12 rfl fun z => ?_
  refine run 400 rfl ?_
  refine at_fn known37_fn rfl ?_
  refine run 400 rfl ?_
  refine at_fn hA rfl ?_
  refine run 400 rfl ?_
  refine at_fn hB rfl ?_
  refine run 400 rfl ?_
  refine at_drawn 4 rfl rfl [(1, .sv (.tl 1 (ints L))), (3, .sv (.lst 1 (ints L)))] [20, 21, 22] rfl ⟨hR, hN⟩ ?_
  refine run 400 rfl ?_
  refine at_if rfl (fun q => by simp at q) (fun _ => ?_)
  refine run 400 rfl ?_
  refine at_loop (fun i : Nat => i ≤ L.length) (fun i => [(5, .ptr 0 0), (6, .ptr 1 0), (7, .lst 1 (ints L)), (8, .lst 1 (ints L)), (9, I i)]) (fun _ => [(0, own33 a), (1, own33 b)]) (fun i => L.length - i) [2, 3, 4, 5, 6, 7]
    0 (by omega) ⟨SVle.refl _, SVle.refl _, SVle.tl _ _, SVle.refl _, SVle.refl _, trivial⟩ ⟨rfl, rfl, trivial⟩ ?_
  intro i hi
  refine run 400 rfl ?_
  refine at_ifd rfl (fun g => ?_) (fun g => ?_)
  · rw [hll] at g
    have hlt : i < L.length := by omega
    obtain ⟨u, hu⟩ : ∃ u, L[i]? = some u := ⟨_, List.getElem?_eq_getElem hlt⟩
    have hget := ints_gt hu
    refine run 400 rfl ?_
    refine at_drawn 9 rfl rfl [(2, .val (.rp [.int .i64 u] 0)), (6, .val (.rp [.int .i64 u] 0))] [20, 21, 22] rfl
      ⟨does_index ty_ok _ rfl rfl rfl (by omega) hget rfl, does_index ty_ok _ rfl rfl rfl (by omega) hget rfl⟩ ?_
    refine run 400 rfl ?_
    refine at_if rfl (fun q => by simp at q) (fun _ => ?_)
    refine run 400 rfl ?_
    exact at_again (i + 1) (by omega) (by omega) ⟨SVle.refl _, SVle.refl _, SVle.refl _, SVle.refl _, SVle.of_eq (by show I ((i : Int) + 1) = I ((i + 1 : Nat) : Int); rw [Int.natCast_add]; rfl), trivial⟩ ⟨rfl, rfl, trivial⟩
  refine run 400 rfl ?_
  refine at_drawn 40 rfl rfl [(1, .sv (I (szT a))), (3, .sv (I (szT a))), (5, .yes), (8, .sv (.bl (same a b))), (11, .sv (.bl (same a b))), (14, .yes), (17, .sv (.bl (decide (ordT a b < 0)))), (20, .sv (.bl (decide (ordT a b < 0)))), (23, .yes), (26, .sv (.bl (hasT b a))), (29, .sv (.bl (hasT b a))), (32, .yes), (35, .gro (.tl 4 [tr b, tr a])), (36, .sv (Tm.mk 7 0 .empty [b, a]).sv), (38, .sv .tt)] [20, 21, 22] rfl
    ⟨hP, T2_fn 7 b a, doesG_build ty_ok _ rfl ⟨⟨rfl, rfl, _, rfl, SVles.refl _⟩, ⟨rfl, rfl, _, rfl, SVles.refl _⟩, trivial⟩ rfl rfl (by decide), by simp, rhas_fn b a ha, has_fn a b ha, by simp, less_fn a b ha, tless_fn a b ha, by simp, same_fn a b ha, tsame_fn a b ha, by simp, rsize_fn a ha (by omega), size_fn a ha (by omega)⟩ ?_
  refine run 400 rfl ?_
  exact at_ret rfl rfl [] ⟨rfl, rfl, rfl⟩ trivial
end Go.Proofs.Ytmnmhehddbemkaa
namespace Go.Proofs.Ytmnmhehddbemkaa
open Go Go.Eng

set_option maxRecDepth 100000 in
theorem termsG_fn (ns : List Int) (most : Nat) (hl : ns.length ≤ 9223372036854775807) (hm : most ≤ 1000) : Contract Try.prog 17 0 [] [.lst 1 (ints ns), I most] fun s post => s = .gl 0 4 (rowsT (genL ns most 0)) ∧ post = [(0, .tok 4)] := by
  refine contract_of ty_ok [5, 1, 2, 3, 4, 6, 7] Try.func17 rfl (by decide) Try.ntmps17 rfl fun z => ?_
  refine run 400 rfl ?_
  refine at_name 6 0 4 rfl (.inr rfl) ?_
  refine at_loop (fun x : List Tm × Nat × Int => x.2.1 ≤ most ∧ x.1.length = x.2.1 ∧ 0 ≤ x.2.2 ∧ x.2.2 ≤ ns.length ∧ x.1 ++ genL ns (most - x.2.1) x.2.2 = genL ns most 0)
    (fun x => [(1, I most), (5, .ptr 5 0), (6, .gl 0 4 (rowsT x.1)), (7, I x.2.1)]) (fun x => [(5, tape ns x.2.2), (0, .tok 4)]) (fun x => most - x.2.1) [1, 2, 3, 4, 6, 7]
    ([], 0, 0) ⟨by simp, rfl, by simp, by simp, by simp⟩ ⟨SVle.refl _, SVle.refl _, SVle.of_eq (by show SV.gl 0 4 [] = SV.gl 0 4 (rowsT []); rw [rowsT_nil]), SVle.refl _, trivial⟩ ⟨rfl, rfl, trivial⟩ ?_
  rintro ⟨acc, i, j⟩ ⟨a1, a2, a3, a4, a5⟩
  dsimp only at a1 a2 a3 a4 a5
  refine run 400 rfl ?_
  refine at_split 14 rfl (fun h => ?_) (fun h => ?_)
  rotate_left
  · rw [decide_eq_false_iff_not] at h
    dsimp only at h
    have e : most - i = 0 := by omega
    rw [e, genL, List.append_nil] at a5
    refine run 400 rfl ?_
    exact at_ret rfl rfl [(0, .tok 4)] ⟨by rw [← a5], rfl⟩ ⟨rfl, trivial⟩
  rw [decide_eq_true_eq] at h
  dsimp only at h
  refine run 400 rfl ?_
  refine at_metF 5 (more_fn ns j) rfl rfl rfl ?_
  refine run 400 rfl ?_
  obtain ⟨q, hq⟩ : ∃ q, most - i = q + 1 := ⟨most - i - 1, by omega⟩
  rw [hq, genL] at a5
  refine at_ifd rfl (fun h2 => ?_) (fun h2 => ?_)
  rotate_left
  · rw [if_neg h2, List.append_nil] at a5
    refine run 400 rfl ?_
    exact at_ret rfl rfl [(0, .tok 4)] ⟨by rw [← a5], rfl⟩ ⟨rfl, trivial⟩
  rw [if_pos h2] at a5
  have ht := term_fn ns hl 3 (by omega) j a3 a4
  have ht2 := genT_le ns 3 j ⟨a3, a4⟩
  generalize genT ns 3 j = u at ht ht2 a5
  obtain ⟨u, j'⟩ := u
  dsimp only at ht ht2 a5
  have hlen : (rowsT acc).length = acc.length := rowsT_len acc
  refine run 400 rfl ?_
  refine at_metF 5 ht rfl rfl rfl ?_
  refine run 400 rfl ?_
  refine at_gro (.tl 4 [tr u]) (doesG_build ty_ok _ rfl ⟨⟨rfl, rfl, _, rfl, SVles.refl _⟩, trivial⟩ rfl rfl (by decide)) ?_
  refine at_grow 0 0 4 (rowsT acc ++ [tr u]) rfl (doesU_append ty_ok rfl rfl rfl rfl rfl rfl rfl (by simp; omega) (by show _ * 56 ≤ _; simp; omega)) rfl ?_
  refine run 400 rfl ?_
  exact at_again (acc ++ [u], i + 1, j') ⟨by dsimp only; omega, by simp [a2], by dsimp only; omega, by dsimp only; omega, by dsimp only; rw [← a5, List.append_assoc, show most - (i + 1) = q by omega]; rfl⟩ (by dsimp only; omega)
    ⟨SVle.refl _, SVle.refl _, SVle.of_eq (by show SV.gl 0 4 (rowsT acc ++ [tr u]) = SV.gl 0 4 (rowsT (acc ++ [u])); rw [rowsT_app, rowsT_cons, rowsT_nil]), SVle.of_eq (by show I ((i : Int) + 1) = I ((i + 1 : Nat) : Int); rw [Int.natCast_add]; rfl), trivial⟩ ⟨rfl, rfl, trivial⟩

set_option maxRecDepth 100000
theorem rsort_len (l : List Tm) : (rsortF l).length ≤ l.length := by
  have h := cmp_rsort (l := l) (l' := rsortF l) ((rsort_ss l).1.imp fun h => by rw [ord_anti]; omega) (rsort_ss l).2
  have : ∀ (l acc : List Tm), (l.foldl addF acc).length ≤ acc.length + l.length := by
    intro l
    induction l with
    | nil => intro acc; simp
    | cons t l ih =>
      intro acc
      have := ih (addF acc t)
      have := addF_len acc t
      simp only [List.foldl_cons, List.length_cons]
      omega
  have := this l []
  simpa [rsortF] using this

theorem termSort_fn (ns : List Int) (h1 : ns.length ≤ 9223372036854775807) : Gives Try.prog 14 [.lst 1 (ints ns)] .tt := by
  have hT := terms_fn ns 20 h1 (by omega)
  have hgl := genL_gd ns 20 0 (by omega)
  have hll := genL_len ns 20 0
  generalize genL ns 20 0 = l at hT hgl hll
  have hsm : ∀ t ∈ l, Sm t := fun t ht => (hgl.1 t ht).sm
  have hS := sort_fn l (by omega) hsm
  have hR := rsort_fn l hsm (by omega)
  have hrl := rsort_len l
  obtain ⟨hss, hmem⟩ := rsort_ss l
  have hxsm : ∀ t ∈ rsortF l, Sm t := fun t ht => hsm t ((hmem t).1 ht)
  have hrr : rsortF (l ++ rsortF l) = rsortF l := by
    obtain ⟨h1, h2⟩ := rsort_ss (l ++ rsortF l)
    exact ss_ext totT h1 hss fun x => by
      rw [h2, List.mem_append, hmem, or_self]
  have hS2 := sort_fn (l ++ rsortF l) (by simp; omega) (fun t ht => (List.mem_append.1 ht).elim (hsm t) (hxsm t))
  rw [hrr] at hS2
  generalize rsortF l = x at *
  have hxl := rowsT_len x
  have hrl' := rowsT_len l
  have hAll := all_fn x hxsm (by omega)
  have hAll2 := hAll.weak (args' := [.tl 4 (rowsT x), .lst 4 (rowsT x)]) ⟨SVle.tl _ _, SVle.refl _, trivial⟩
  have hAll3 := hAll.weak (args' := [.tl 4 (rowsT x), .tl 4 (rowsT x)]) ⟨SVle.tl _ _, SVle.tl _ _, trivial⟩
  refine contract_of ty_ok [0, 1, 2, 3, 4, 5, 6, 7] Try.func14 rfl (by decide) Try.ntmps14 rfl fun z => ?_
  refine run 400 rfl ?_
  refine at_fn known37_fn rfl ?_
  refine run 400 rfl ?_
  refine at_fn hT rfl ?_
  refine run 400 rfl ?_
  refine at_fn hS rfl ?_
  refine run 400 rfl ?_
  refine at_fn hR rfl ?_
  refine at_fn hAll2 rfl ?_
  refine run 400 rfl ?_
  refine at_loop (fun i : Nat => 1 ≤ i) (fun i => [(3, .lst 4 (rowsT l)), (4, .tl 4 (rowsT x)), (5, I i)]) (fun _ => []) (fun i => x.length - i) [0, 1, 2, 3, 4, 5, 6, 7]
    1 (by omega) ⟨SVle.refl _, SVle.refl _, SVle.refl _, trivial⟩ trivial ?_
  intro i hi
  refine run 400 rfl ?_
  refine at_ifd rfl (fun g => ?_) (fun g => ?_)
  · rw [hxl] at g
    have hlt : i < x.length := by omega
    have hget := rowsT_get hlt
    have hmu := getD_mem hlt
    have hget2 := rowsT_get (show i - 1 < x.length by omega)
    have hlt2 : i - 1 < x.length := by omega
    have hmv := getD_mem hlt2
    have hord : ordT (x.getD (i - 1) .zero) (x.getD i .zero) < 0 := by
      have := List.pairwise_iff_getElem.1 hss (i - 1) i hlt2 hlt (by omega)
      rw [List.getD_eq_getElem?_getD, List.getD_eq_getElem?_getD, List.getElem?_eq_getElem hlt, List.getElem?_eq_getElem hlt2]
      exact this
    generalize x.getD i .zero = u at hget hmu hord
    generalize x.getD (i - 1) .zero = v at hget2 hmv hord
    refine run 400 rfl ?_
    refine at_drawn 11 rfl rfl [(3, .val (.rp (tr v) 0)), (7, .val (.rp (tr u) 0)), (9, .sv .tt)] [20, 21, 22] rfl
      ⟨gives_is (c := true) (tless_fn v u (hxsm v hmv)) (by simp [hord]), does_index ty_ok _ rfl rfl rfl (by omega) (show (rowsT x)[(i : Int).toNat]? = some (tr u) from hget) rfl, does_index ty_ok _ rfl rfl rfl (by omega) (show (rowsT x)[((i : Int) - 1).toNat]? = some (tr v) by rw [show ((i : Int) - 1).toNat = i - 1 by omega]; exact hget2) rfl, by constructor <;> omega⟩ ?_
    refine run 400 rfl ?_
    exact at_again (i + 1) (by omega) (by omega) ⟨SVle.refl _, SVle.refl _, SVle.of_eq (by show I ((i : Int) + 1) = I ((i + 1 : Nat) : Int); rw [Int.natCast_add]; rfl), trivial⟩ trivial
  refine run 400 rfl ?_
  refine at_gro (.tl 4 []) (doesG_build ty_ok _ rfl trivial rfl rfl (by decide)) ?_
  refine run 400 rfl ?_
  refine at_name 34 5 4 rfl (.inl rfl) ?_
  refine at_grow 5 5 4 ([] ++ rowsT l) rfl (doesU_append ty_ok rfl rfl rfl rfl rfl rfl rfl (by simp; omega) (by show _ * 56 ≤ _; simp; omega)) rfl ?_
  refine run 400 rfl ?_
  refine at_grow 5 5 4 (rowsT l ++ rowsT x) rfl (doesU_append ty_ok rfl rfl rfl rfl rfl rfl rfl (by omega) (by show _ * 56 ≤ _; omega)) rfl ?_
  refine at_deg 5 ?_
  rw [← rowsT_app]
  refine at_fn hS2 rfl ?_
  refine run 400 rfl ?_
  refine at_fn hAll3 rfl ?_
  refine run 400 rfl ?_
  exact at_ret rfl rfl [] ⟨rfl, rfl, rfl⟩ trivial
end Go.Proofs.Ytmnmhehddbemkaa
namespace Go.Proofs.Ytmnmhehddbemkaa
open Go Go.Eng
set_option maxRecDepth 100000

theorem getD_eq {l : List Tm} {i : Nat} (h : i < l.length) : l[i]? = some (l.getD i .zero) := by
  rw [List.getD_eq_getElem?_getD, List.getElem?_eq_getElem h]; rfl

theorem one_of (u v : Tm) : (if ordT u v < 0 then (1 : Int) else 0) + (if ordT v u < 0 then 1 else 0) + (if same u v then 1 else 0) = 1 := by
  rcases totT.tri u v with h | h | h
  · have h2 := ord_anti u v
    have hs : ¬ same u v = true := fun q => by rw [same_iff.1 q, ord_irr] at h; omega
    rw [if_pos h, if_neg (by omega), if_neg hs]; rfl
  · subst h
    rw [ord_irr, if_neg (by omega), if_pos (same_iff.2 rfl)]; rfl
  · have h : ordT v u < 0 := h
    have h2 := ord_anti u v
    have hs : ¬ same u v = true := fun q => by rw [same_iff.1 q, ord_irr] at h; omega
    rw [if_neg (by omega), if_pos h, if_neg hs]; rfl

theorem termOrder_fn (ns ms ks : List Int) (h1 : ns.length ≤ 9223372036854775807) (h2 : ms.length ≤ 9223372036854775807) (h3 : ks.length ≤ 9223372036854775807) : Gives Try.prog 13 [.lst 1 (ints ns), .lst 1 (ints ms), .lst 1 (ints ks)] .tt := by
  have hT := termsG_fn ns 2 h1 (by omega)
  have hgl := genL_gd ns 2 0 (by omega)
  have hll := genL_len ns 2 0
  have hA := oneT_fn ms h2
  have hB := oneT_fn ks h3
  have ga := (genT_gd ms 4 0 (by omega)).1.sm
  have gb := (genT_gd ks 4 0 (by omega)).1.sm
  have hsm : ∀ t ∈ genL ns 2 0, Sm t := fun t ht => (hgl.1 t ht).sm
  generalize genL ns 2 0 = l0 at hT hsm hll
  generalize (genT ms 4 0).1 = a at hA ga
  generalize (genT ks 4 0).1 = b at hB gb
  have hl0 := rowsT_len l0
  refine contract_of ty_ok [0, 1, 2, 3, 4, 5, 6, 7] Try.func13 rfl (by decide) Try.ntmps13 rfl fun z => ?_
  refine run 400 rfl ?_
  refine at_fn known37_fn rfl ?_
  refine run 400 rfl ?_
  refine at_callF [0] hT rfl trivial rfl rfl rfl ?_
  refine run 400 rfl ?_
  refine at_fn hA rfl ?_
  refine run 400 rfl ?_
  refine at_fn hB rfl ?_
  refine at_gro (.tl 4 [tr a, tr b]) (doesG_build ty_ok _ rfl ⟨⟨rfl, rfl, _, rfl, SVles.refl _⟩, ⟨rfl, rfl, _, rfl, SVles.refl _⟩, trivial⟩ rfl rfl (by decide)) ?_
  refine run 400 rfl ?_
  refine at_grow 0 0 4 (rowsT l0 ++ [tr a, tr b]) rfl (doesU_append ty_ok rfl rfl rfl rfl rfl rfl rfl (by simp; omega) (by show _ * 56 ≤ _; simp; omega)) rfl ?_
  refine at_deg 0 ?_
  rw [show rowsT l0 ++ [tr a, tr b] = rowsT (l0 ++ [a, b]) by rw [rowsT_app, rowsT_cons, rowsT_cons, rowsT_nil]]
  have hsm : ∀ t ∈ l0 ++ [a, b], Sm t := fun t ht => by
    rcases List.mem_append.1 ht with h | h
    · exact hsm t h
    · simp at h; rcases h with rfl | rfl; exact ga; exact gb
  have hlen : (l0 ++ [a, b]).length ≤ 10 := by simp; omega
  generalize l0 ++ [a, b] = l at hsm hlen
  have hrl := rowsT_len l
  refine run 400 rfl ?_
  refine at_loop (fun i : Nat => i ≤ l.length) (fun i => [(7, .lst 4 (rowsT l)), (8, I i)]) (fun _ => []) (fun i => l.length - i) [0, 1, 2, 3, 4, 5, 6, 7]
    0 (by omega) ⟨SVle.refl _, SVle.refl _, trivial⟩ trivial ?_
  intro i hi
  refine run 400 rfl ?_
  refine at_ifd rfl (fun g => ?_) (fun g => ?_)
  rotate_left
  · refine run 400 rfl ?_
    exact at_ret rfl rfl [] ⟨rfl, rfl, rfl⟩ trivial
  rw [hrl] at g
  have hlt : i < l.length := by omega
  have hget := rowsT_get hlt
  have hmu := hsm _ (getD_mem hlt)
  generalize l.getD i .zero = u at hget hmu
  have hgi : (rowsT l)[(i : Int).toNat]? = some (tr u) := hget
  refine run 400 rfl ?_
  refine at_loop (fun k : Nat => k ≤ l.length) (fun k => [(7, .lst 4 (rowsT l)), (8, I i), (9, I k)]) (fun _ => []) (fun k => l.length - k) [0, 1, 2, 3, 4, 5, 6, 7]
    0 (by omega) ⟨SVle.refl _, SVle.refl _, SVle.refl _, trivial⟩ trivial ?_
  intro k hk
  refine run 400 rfl ?_
  refine at_ifd rfl (fun g2 => ?_) (fun g2 => ?_)
  rotate_left
  · refine run 400 rfl ?_
    exact at_again (i + 1) (by omega) (by omega) ⟨SVle.refl _, SVle.of_eq (by show I ((i : Int) + 1) = I ((i + 1 : Nat) : Int); rw [Int.natCast_add]; rfl), trivial⟩ trivial
  rw [hrl] at g2
  have hlt2 : k < l.length := by omega
  have hget2 := rowsT_get hlt2
  have hmv := hsm _ (getD_mem hlt2)
  generalize l.getD k .zero = v at hget2 hmv
  have hgk : (rowsT l)[(k : Int).toNat]? = some (tr v) := hget2
  refine run 400 rfl ?_
  have h1 := one_of u v
  refine at_drawn 9 rfl rfl [(2, .val (.rp (tr u) 0)), (6, .val (.rp (tr v) 0)), (8, .sv (.bl (decide (ordT u v < 0))))] [20, 21, 22] rfl
    ⟨tless_fn u v hmu, does_index ty_ok _ rfl rfl rfl (by omega) hgk rfl, does_index ty_ok _ rfl rfl rfl (by omega) hgi rfl⟩ ?_
  refine run 400 rfl ?_
  refine at_join (fun n : Int => n = if ordT u v < 0 then 1 else 0) (fun n => [(7, .lst 4 (rowsT l)), (8, I i), (9, I k), (10, I n)]) (fun _ => []) [0, 1, 2, 3, 4, 5, 6, 7] ?_ ?_
  · refine at_ifd rfl (fun q => ?_) (fun q => ?_)
    · refine run 400 rfl ?_
      exact at_joined 1 (if_pos q).symm ⟨SVle.refl _, SVle.refl _, SVle.refl _, SVle.refl _, trivial⟩ trivial
    · refine run 400 rfl ?_
      exact at_joined 0 (if_neg q).symm ⟨SVle.refl _, SVle.refl _, SVle.refl _, SVle.refl _, trivial⟩ trivial
  intro n1 hn1
  have hb1 : 0 ≤ n1 ∧ n1 ≤ 1 := by rw [hn1]; split <;> omega
  refine run 400 rfl ?_
  refine at_drawn 9 rfl rfl [(2, .val (.rp (tr v) 0)), (6, .val (.rp (tr u) 0)), (8, .sv (.bl (decide (ordT v u < 0))))] [20, 21, 22] rfl
    ⟨tless_fn v u hmv, does_index ty_ok _ rfl rfl rfl (by omega) hgi rfl, does_index ty_ok _ rfl rfl rfl (by omega) hgk rfl⟩ ?_
  refine run 400 rfl ?_
  refine at_join (fun n : Int => n = n1 + if ordT v u < 0 then 1 else 0) (fun n => [(7, .lst 4 (rowsT l)), (8, I i), (9, I k), (10, I n)]) (fun _ => []) [0, 1, 2, 3, 4, 5, 6, 7] ?_ ?_
  · refine at_ifd rfl (fun q => ?_) (fun q => ?_)
    · refine run 400 rfl ?_
      exact at_joined (n1 + 1) (by rw [if_pos q]) ⟨SVle.refl _, SVle.refl _, SVle.refl _, SVle.refl _, trivial⟩ trivial
    · refine run 400 rfl ?_
      exact at_joined n1 (by rw [if_neg q]; omega) ⟨SVle.refl _, SVle.refl _, SVle.refl _, SVle.refl _, trivial⟩ trivial
  intro n2 hn2
  have hb2 : 0 ≤ n2 ∧ n2 ≤ 2 := by rw [hn2]; split <;> omega
  refine run 400 rfl ?_
  refine at_drawn 9 rfl rfl [(2, .val (.rp (tr u) 0)), (6, .val (.rp (tr v) 0)), (8, .sv (.bl (same u v)))] [20, 21, 22] rfl
    ⟨tsame_fn u v hmu, does_index ty_ok _ rfl rfl rfl (by omega) hgk rfl, does_index ty_ok _ rfl rfl rfl (by omega) hgi rfl⟩ ?_
  refine run 400 rfl ?_
  refine at_join (fun n : Int => n = n2 + if same u v then 1 else 0) (fun n => [(7, .lst 4 (rowsT l)), (8, I i), (9, I k), (10, I n)]) (fun _ => []) [0, 1, 2, 3, 4, 5, 6, 7] ?_ ?_
  · refine at_if rfl (fun q => ?_) (fun q => ?_)
    · refine run 400 rfl ?_
      exact at_joined (n2 + 1) (by rw [if_pos q]) ⟨SVle.refl _, SVle.refl _, SVle.refl _, SVle.refl _, trivial⟩ trivial
    · refine run 400 rfl ?_
      exact at_joined n2 (by rw [if_neg (by simp [q])]; omega) ⟨SVle.refl _, SVle.refl _, SVle.refl _, SVle.refl _, trivial⟩ trivial
  intro n3 hn3
  obtain rfl : n3 = 1 := by rw [hn3, hn2, hn1]; exact h1
  refine run 400 rfl ?_
  refine at_if rfl (fun q => by simp at q) (fun _ => ?_)
  refine run 400 rfl ?_
  refine at_loop (fun j : Nat => j ≤ l.length) (fun j => [(7, .lst 4 (rowsT l)), (8, I i), (9, I k), (11, I j)]) (fun _ => []) (fun j => l.length - j) [0, 1, 2, 3, 4, 5, 6, 7]
    0 (by omega) ⟨SVle.refl _, SVle.refl _, SVle.refl _, SVle.refl _, trivial⟩ trivial ?_
  intro j hj
  refine run 400 rfl ?_
  refine at_ifd rfl (fun g3 => ?_) (fun g3 => ?_)
  rotate_left
  · refine run 400 rfl ?_
    exact at_again (k + 1) (by omega) (by omega) ⟨SVle.refl _, SVle.refl _, SVle.of_eq (by show I ((k : Int) + 1) = I ((k + 1 : Nat) : Int); rw [Int.natCast_add]; rfl), trivial⟩ trivial
  rw [hrl] at g3
  have hlt3 : j < l.length := by omega
  have hget3 := rowsT_get hlt3
  generalize l.getD j .zero = w at hget3
  have hgj : (rowsT l)[(j : Int).toNat]? = some (tr w) := hget3
  have hstep : ∀ (o : List (Nat × SV)) , True := fun _ => trivial
  refine run 400 rfl ?_
  by_cases q1 : ordT u v < 0
  · by_cases q2 : ordT v w < 0
    · refine at_drawn 32 rfl rfl [(2, .val (.rp (tr u) 0)), (6, .val (.rp (tr v) 0)), (8, .sv .tt), (12, .val (.rp (tr v) 0)), (16, .val (.rp (tr w) 0)), (18, .sv .tt), (23, .val (.rp (tr u) 0)), (27, .val (.rp (tr w) 0)), (29, .sv .tt)] [20, 21, 22] rfl
        ⟨gives_is (c := true) (tless_fn u w hmu) (by simp [ord_trans q1 q2]), does_index ty_ok _ rfl rfl rfl (by omega) hgj rfl, does_index ty_ok _ rfl rfl rfl (by omega) hgi rfl, gives_is (c := true) (tless_fn v w hmv) (by simp [q2]), does_index ty_ok _ rfl rfl rfl (by omega) hgj rfl, does_index ty_ok _ rfl rfl rfl (by omega) hgk rfl, gives_is (c := true) (tless_fn u v hmu) (by simp [q1]), does_index ty_ok _ rfl rfl rfl (by omega) hgk rfl, does_index ty_ok _ rfl rfl rfl (by omega) hgi rfl⟩ ?_
      refine run 400 rfl ?_
      exact at_again (j + 1) (by omega) (by omega) ⟨SVle.refl _, SVle.refl _, SVle.refl _, SVle.of_eq (by show I ((j : Int) + 1) = I ((j + 1 : Nat) : Int); rw [Int.natCast_add]; rfl), trivial⟩ trivial
    · refine at_drawn 32 rfl rfl [(2, .val (.rp (tr u) 0)), (6, .val (.rp (tr v) 0)), (8, .sv .tt), (12, .val (.rp (tr v) 0)), (16, .val (.rp (tr w) 0)), (18, .sv .ff)] [20, 21, 22] rfl
        ⟨gives_is (c := false) (tless_fn v w hmv) (by simp [q2]), does_index ty_ok _ rfl rfl rfl (by omega) hgj rfl, does_index ty_ok _ rfl rfl rfl (by omega) hgk rfl, gives_is (c := true) (tless_fn u v hmu) (by simp [q1]), does_index ty_ok _ rfl rfl rfl (by omega) hgk rfl, does_index ty_ok _ rfl rfl rfl (by omega) hgi rfl⟩ ?_
      refine run 400 rfl ?_
      exact at_again (j + 1) (by omega) (by omega) ⟨SVle.refl _, SVle.refl _, SVle.refl _, SVle.of_eq (by show I ((j : Int) + 1) = I ((j + 1 : Nat) : Int); rw [Int.natCast_add]; rfl), trivial⟩ trivial
  · refine at_drawn 32 rfl rfl [(2, .val (.rp (tr u) 0)), (6, .val (.rp (tr v) 0)), (8, .sv .ff)] [20, 21, 22] rfl
      ⟨gives_is (c := false) (tless_fn u v hmu) (by simp [q1]), does_index ty_ok _ rfl rfl rfl (by omega) hgk rfl, does_index ty_ok _ rfl rfl rfl (by omega) hgi rfl⟩ ?_
    refine run 400 rfl ?_
    exact at_again (j + 1) (by omega) (by omega) ⟨SVle.refl _, SVle.refl _, SVle.refl _, SVle.of_eq (by show I ((j : Int) + 1) = I ((j + 1 : Nat) : Int); rw [Int.natCast_add]; rfl), trivial⟩ trivial
end Go.Proofs.Ytmnmhehddbemkaa
/- The proof engine: a list of plain zeroes is made. -/
namespace Go.Eng

theorem made_rep (v : Value) (m : Nat) : (madeCells #[v] m).toList = List.replicate m v := by
  unfold madeCells
  rw [Array.toList_map, Array.toList_range]
  apply List.ext_getElem
  · simp
  · intro i h1 h2
    simp [Nat.mod_one]
theorem Dens.rep {g : Nat → Value} {H : Hp} {c : SV} {v : Value} (h : Den g H c v) : ∀ m : Nat, Dens g H (List.replicate m c) (List.replicate m v)
  | 0 => trivial
  | m + 1 => ⟨h, Dens.rep h m⟩
theorem noKs_rep {k : Nat} {c : SV} (h : c.noK k = true) : ∀ m : Nat, SV.noKs k (List.replicate m c) = true
  | 0 => rfl
  | m + 1 => by rw [List.replicate_succ, SV.noKs, h, noKs_rep h m]; rfl

theorem at_makeZ {E : Stc} {T : Nat → TI} {all rest : List Oper} {o : Oper} {s : List Fr} {env : List (Nat × SV)} {own : List (Nat × SO)} {nx : List Nat} {t : Nat} {x y : Operand} {kx ky : IntKind} {n : Int} (k : Nat) (c : SV) (hT : ∀ t, T t = tiOf E.P t) (ho : o.op = .makeSlice t x y) (hx : ev env x = .int kx n) (hy : ev env y = .int ky n)
    (h0 : 0 ≤ n) (hb : ((T (T t).elem).bytes : Int) * n ≤ 281474976710656) (h63 : n ≤ 9223372036854775807) (hc : constsS (T (T t).elem).zero = [c]) (hck : c.noK k = true) (kk : Sat E (.ops all rest) s (put o.dst (.arr k n.toNat) env) ((k, .cells (T t).elem (List.replicate n.toNat c)) :: own) nx)
    (hkT : lstT T t 1 = true := by rfl) (hones : SV.ones (constsS (T (T t).elem).zero) = true := by rfl) (hm : Nat.ble E.cx.m0 k = true := by rfl) (hE : freshE k env = true := by rfl) (hO : freshO k own = true := by rfl)
    (hg : guardK all o.guard env true false false = true := by rfl) (hd : dstLt o.dst E.n = true := by rfl) : Sat E (.ops all (o :: rest)) s env own nx := by
  intro a w hat
  have hwant : Region.wanted o (yielded all.toArray a.tmps) = true := by
    rcases guardK_wanted (E := E) (all := all) (o := o) (env := env) (own := own) (yes := true) (no := false) (stuck := false) with ⟨_, hw⟩ | ⟨h, _⟩ | h
    · exact hw a w hat
    · rw [hg] at h; cases h
    · rw [hg] at h; cases h
  unfold wpList
  rw [if_pos hwant]
  refine .inl ?_
  obtain ⟨hdf, g, H, hdn⟩ := hat
  obtain ⟨hk, hz, hk2, hz2, hz0⟩ := lstT_spec hT hkT
  rw [hT (T t).elem, hT t] at hb hones hc
  obtain ⟨i1, h1⟩ := slice_ti hk
  obtain ⟨i2, d2, h2⟩ := ti_spec hk2
  obtain ⟨z, hz3, hz4⟩ := zero_spec h2 hz2
  have hzs : z.cells.size = 1 := by rw [← hz0, hz4, Array.length_toList]
  have hsz : 1 = i2.size := by rw [← hz, h2.size]
  rw [h2.bytes] at hb
  have e1 : a.eval x = .int kx n := by have := hdn.ev x; rw [hx] at this; exact this
  have e2 : a.eval y = .int ky n := by have := hdn.ev y; rw [hy] at this; exact this
  have hr := run_make (P := E.P) w t _ i2 z h1.und h2.info hz3 kx ky n n h0 (Int.le_refl _) hb h63
  have hzd := constsS_den g H (tiOf E.P (tiOf E.P t).elem).zero
  obtain ⟨v, hv⟩ : ∃ v, z.cells = #[v] := by
    match h : z.cells with
    | ⟨[v]⟩ => exact ⟨v, rfl⟩
    | ⟨[]⟩ => rw [h] at hzs; simp at hzs
    | ⟨_ :: _ :: _⟩ => rw [h] at hzs; simp at hzs
  rw [hc, hz4, hv] at hzd
  have hcv : Den g H c v := hzd.1
  have hv1 : v.oneCell' = true := by
    have := (constsS_den g H (tiOf E.P (tiOf E.P t).elem).zero).oneCells hones
    rw [hz4, hv] at this
    exact this v (by simp)
  have hrep : (madeCells z.cells n.toNat).toList = List.replicate n.toNat v := by rw [hv, made_rep]
  have hone : ∀ x ∈ (madeCells z.cells n.toNat).toList, x.oneCell' = true := by
    rw [hrep]
    intro x hx
    rw [(List.mem_replicate.1 hx).2]
    exact hv1
  have hcs : Dens g H (List.replicate n.toNat c) (madeCells z.cells n.toNat).toList := by
    rw [hrep]
    exact Dens.rep hcv _
  have hd2 := hdn.new' (t := (T t).elem) (Nat.le_of_ble_eq_true hm) (noKs_rep hck _) hE hO hcs hone
  unfold Oper.wp
  have hrun : (execOp a.eval o).run E.P w = .ok (.value (.slice (some ⟨w.heap.size, 0, none⟩) n.toNat n.toNat)) (w.alloc (.cells (madeCells z.cells n.toNat) (T t).elem)) := by
    rw [hT t]
    rw [← hsz, Nat.mul_one] at hr
    simp [execOp, ho, e1, e2, hr]
  rw [hrun]
  rw [Array.toArray_toList] at hd2
  exact kk _ _ (At.put hdf hd2 ⟨w.heap.size, upd_same _ _ _, rfl⟩ fun d e => by rw [e] at hd; exact Nat.blt_eq.mp hd)
end Go.Eng
namespace Go.Proofs.Ytmnmhehddbemkaa
open Go Go.Eng
set_option maxRecDepth 100000

/-- A tree of Pairs. -/
def fullT : Nat → Tm
  | 0 => .mk 2 1 .empty []
  | n + 1 => .mk 7 0 .empty [fullT n, fullT n]
theorem fullT_spec : ∀ n, allR (fullT n) = true ∧ dpT (fullT n) = n + 1 ∧ szT (fullT n) + 1 = 2 ^ (n + 1)
  | 0 => ⟨by
      have e : seq ByteArray.empty .empty = true := seq_self _
      simp [fullT, allR, allRL, rightF, kidsF, Tm.k, Tm.n, Tm.s, Tm.kids, e], by simp [fullT, dpT, dpL], by simp [fullT, szT, szL]⟩
  | n + 1 => by
    obtain ⟨h1, h2, h3⟩ := fullT_spec n
    refine ⟨by rw [fullT, allR, allRL, allRL, allRL, h1, right_k2 _ _ _ (by omega)]; rfl, by rw [fullT, dpT, dpL, dpL, dpL]; omega, ?_⟩
    rw [fullT, szT, szL, szL, szL, Nat.pow_succ]
    omega
def pubT : Nat → Tm
  | 0 => fullT 5
  | n + 1 => .mk 4 0 .empty [pubT n]
theorem pubT_spec : ∀ n, allR (pubT n) = true ∧ dpT (pubT n) = n + 6 ∧ szT (pubT n) = n + 63
  | 0 => by
    obtain ⟨h1, h2, h3⟩ := fullT_spec 5
    exact ⟨h1, h2, by show szT (fullT 5) = _; omega⟩
  | n + 1 => by
    obtain ⟨h1, h2, h3⟩ := pubT_spec n
    refine ⟨by rw [pubT, allR, allRL, allRL, h1, right_k1 _ _ (by omega)]; rfl, by rw [pubT, dpT, dpL, dpL]; omega, ?_⟩
    rw [pubT, szT, szL, szL]
    omega
theorem tow_spec : ∀ n, allR (tow n) = true ∧ dpT (tow n) = n + 1 ∧ szT (tow n) = n + 1
  | 0 => ⟨by rw [tow, allR, allRL, right_ax]; rfl, by simp [tow, dpT, dpL], by simp [tow, szT, szL]⟩
  | n + 1 => by
    obtain ⟨h1, h2, h3⟩ := tow_spec n
    refine ⟨by rw [tow, allR, allRL, allRL, h1, right_h]; rfl, by rw [tow, dpT, dpL, dpL]; omega, ?_⟩
    rw [tow, szT, szL, szL]
    omega
theorem may_towF (n : Nat) (h : n ≤ 20) : mayF (tow n) = decide (((n : Int) + 1) ≤ 16) := by
  obtain ⟨h1, h2, h3⟩ := tow_spec n
  rw [mayF_iff, h1, h2, h3, Bool.true_and, decide_eq_decide]
  omega
theorem may_pub (n : Nat) (h : n ≤ 8) : mayF (pubT n) = decide ((63 + ((n : Int) + 12) - 12) ≤ 64) := by
  obtain ⟨h1, h2, h3⟩ := pubT_spec n
  rw [mayF_iff, h1, h2, h3, Bool.true_and, decide_eq_decide]
  omega
theorem bytesS_size (ns : List Int) : (bytesS ns).size = ns.length := by
  have : ∀ (ns : List Int) (r : ByteArray), (ns.foldl (fun r n => r.push (UInt8.ofNat n.toNat)) r).size = r.size + ns.length := by
    intro ns
    induction ns with
    | nil => intro r; rfl
    | cons n ns ih =>
      intro r
      rw [List.foldl_cons, ih, ByteArray.size_push, List.length_cons]
      omega
  have := this ns .empty
  simpa [bytesS] using this
theorem may_leaf (k n : Int) (s : ByteArray) : mayF (.mk k n s []) = rightF (.mk k n s []) := by
  rw [mayF_iff, allR, allRL]
  simp [szT, szL, dpT, dpL]
theorem may_atomB (s : ByteArray) (h : 0 < s.size) : mayF (.mk 1 0 s []) = decide ((s.size : Int) ≤ 1024) := by
  have e : seq s .empty = false := by
    cases h2 : seq s .empty with
    | false => rfl
    | true => have := seq_eq h2; subst this; simp at h
  rw [may_leaf]
  simp [rightF, kidsF, Tm.k, Tm.n, Tm.s, Tm.kids, e]
theorem may_nonce (n : Int) (h : n ≠ 0) : mayF (.mk 2 n .empty []) = (decide (0 < n) && decide (n ≤ 1073741824)) := by
  have e : seq ByteArray.empty .empty = true := seq_self _
  rw [may_leaf]
  simp [rightF, kidsF, Tm.k, Tm.n, Tm.s, Tm.kids, e, h]

theorem full_fn : ∀ n : Nat, n ≤ 10 → Gives Try.prog 53 [I n] (fullT n).sv
  | 0, _ => by
    refine contract_of ty_ok [0, 1, 2, 3, 4, 5, 6, 7] Try.func53 rfl (by decide) Try.ntmps53 rfl fun z => ?_
    refine run 400 rfl ?_
    refine at_if rfl (fun _ => ?_) (fun q => by cases q)
    refine run 400 rfl ?_
    refine at_fn (N_fn 1) rfl ?_
    refine run 400 rfl ?_
    exact at_ret rfl rfl [] ⟨rfl, rfl, rfl⟩ trivial
  | n + 1, h => by
    have ih := full_fn n (by omega)
    have e : ((n + 1 : Nat) : Int) - 1 = n := by omega
    refine contract_of ty_ok [0, 1, 2, 3, 4, 5, 6, 7] Try.func53 rfl (by decide) Try.ntmps53 rfl fun z => ?_
    refine run 400 rfl ?_
    refine at_if rfl (fun q => by simp at q; omega) (fun _ => ?_)
    refine run 400 rfl ?_
    rw [e]
    refine at_fn ih rfl ?_
    refine run 400 rfl ?_
    rw [e]
    refine at_fn ih rfl ?_
    refine at_gro (.tl 4 [tr (fullT n), tr (fullT n)]) (doesG_build ty_ok _ rfl ⟨⟨rfl, rfl, _, rfl, SVles.refl _⟩, ⟨rfl, rfl, _, rfl, SVles.refl _⟩, trivial⟩ rfl rfl (by decide)) ?_
    refine at_fn (T2_fn 7 (fullT n) (fullT n)) rfl ?_
    refine run 400 rfl ?_
    exact at_ret rfl rfl [] ⟨rfl, rfl, rfl⟩ trivial
end Go.Proofs.Ytmnmhehddbemkaa
namespace Go.Proofs.Ytmnmhehddbemkaa
open Go Go.Eng
set_option maxRecDepth 100000

theorem flat_zero : ∀ n : Nat, (List.replicate n (SV.int .u8 0)) = flatU (bytesR (List.replicate n 0))
  | 0 => rfl
  | n + 1 => by
    have := flat_zero n
    rw [List.replicate_succ, this, List.replicate_succ]
    rfl

theorem termBounds_fn (n : Int) : Gives Try.prog 15 [I n] .tt := by
  have hw := within52 n 8 (by omega)
  have hw0 : 0 ≤ n % 8 ∧ n % 8 < 8 := ⟨Int.emod_nonneg _ (by omega), Int.emod_lt_of_pos _ (by omega)⟩
  obtain ⟨w, e⟩ : ∃ w : Nat, n % 8 = w := ⟨(n % 8).toNat, by omega⟩
  rw [e] at hw hw0
  have hF := full_fn 5 (by omega)
  have hX : Gives Try.prog 36 [.str ⟨#[120]⟩] ax.sv := A_fn _
  have m1 := may_towF (12 + w) (by omega)
  have m2 := may_pub w (by omega)
  have k1 := may_fn (tow (12 + w))
  have k2 := may_fn (pubT w)
  refine contract_of ty_ok [0, 1, 2, 3, 4, 5, 6, 7] Try.func15 rfl (by decide) Try.ntmps15 rfl fun z => ?_
  refine run 400 rfl ?_
  refine at_fn known37_fn rfl ?_
  refine run 400 rfl ?_
  refine at_fn hw rfl ?_
  refine run 400 rfl ?_
  refine at_fn hX rfl ?_
  refine at_fn hF rfl ?_
  refine run 400 rfl ?_
  refine at_loop (fun i : Nat => i ≤ 12 + w) (fun i => [(0, I n), (3, I (12 + w)), (4, .ptr 0 0), (5, .ptr 1 0), (6, I i)]) (fun i => [(0, own33 (tow i)), (1, own33 (fullT 5))]) (fun i => 12 + w - i) [2, 3, 4, 5, 6, 7]
    0 (by omega) ⟨SVle.refl _, SVle.refl _, SVle.refl _, SVle.refl _, SVle.refl _, trivial⟩ ⟨rfl, rfl, trivial⟩ ?_
  intro i hi
  refine run 400 rfl ?_
  refine at_ifd rfl (fun g => ?_) (fun g => ?_)
  · refine run 400 rfl ?_
    refine at_gro (.tl 4 [tr (tow i)]) (doesG_build ty_ok _ rfl ⟨⟨rfl, rfl, _, rfl, SVles.refl _⟩, trivial⟩ rfl rfl (by decide)) ?_
    refine at_fn (T1_fn 3 (tow i)) rfl ?_
    refine run 400 rfl ?_
    exact at_again (i + 1) (by omega) (by omega) ⟨SVle.refl _, SVle.refl _, SVle.refl _, SVle.refl _, SVle.of_eq (by show I ((i : Int) + 1) = I ((i + 1 : Nat) : Int); rw [Int.natCast_add]; rfl), trivial⟩ ⟨rfl, rfl, trivial⟩
  obtain rfl : i = 12 + w := by omega
  refine run 400 rfl ?_
  refine at_loop (fun i : Nat => i ≤ w) (fun i => [(0, I n), (3, I (12 + w)), (4, .ptr 0 0), (5, .ptr 1 0), (7, I i)]) (fun i => [(0, own33 (tow (12 + w))), (1, own33 (pubT i))]) (fun i => w - i) [2, 3, 4, 5, 6, 7]
    0 (by omega) ⟨SVle.refl _, SVle.refl _, SVle.refl _, SVle.refl _, SVle.refl _, trivial⟩ ⟨rfl, rfl, trivial⟩ ?_
  intro i hi
  refine run 400 rfl ?_
  refine at_ifd rfl (fun g => ?_) (fun g => ?_)
  · refine run 400 rfl ?_
    refine at_gro (.tl 4 [tr (pubT i)]) (doesG_build ty_ok _ rfl ⟨⟨rfl, rfl, _, rfl, SVles.refl _⟩, trivial⟩ rfl rfl (by decide)) ?_
    refine at_fn (T1_fn 4 (pubT i)) rfl ?_
    refine run 400 rfl ?_
    exact at_again (i + 1) (by omega) (by omega) ⟨SVle.refl _, SVle.refl _, SVle.refl _, SVle.refl _, SVle.of_eq (by show I ((i : Int) + 1) = I ((i + 1 : Nat) : Int); rw [Int.natCast_add]; rfl), trivial⟩ ⟨rfl, rfl, trivial⟩
  obtain rfl : i = w := by omega
  refine run 400 rfl ?_
  refine at_fn hw rfl ?_
  refine run 400 rfl ?_
  refine at_fn hw rfl ?_
  refine run 400 rfl ?_
  refine at_fn k1 rfl ?_
  refine run 400 rfl ?_
  refine at_true 46 rfl (by rw [m1]; simp) ?_
  refine run 400 rfl ?_
  refine at_fn k2 rfl ?_
  refine run 400 rfl ?_
  refine at_true 55 rfl (by rw [m2]; simp; omega) ?_
  refine run 400 rfl ?_
  refine at_makeZ 3 (.int .u8 0) ty_ok rfl rfl rfl (by omega) (show ((1 : Nat) : Int) * (1020 + (i : Int)) ≤ 281474976710656 by omega) (by omega) rfl rfl ?_
  refine at_closeB 3 (ty := 5) (r := 0) (rows := bytesR (List.replicate (1020 + (i : Int)).toNat 0)) (by rw [bufC]; show some (SO.cells 5 _) = _; rw [← flat_zero]; simp [anys]) rfl ?_
  refine at_less [(57, .sl 3 0 (1020 + (i : Int)).toNat (1020 + (i : Int)).toNat), (55, .tt), (8, I (1020 + i)), (9, I (1073741820 + i))] [(3, .buf (bytesR (List.replicate (1020 + (i : Int)).toNat 0)) 0)] [4, 5, 6, 7] ⟨SVle.arr _ _, SVle.refl _, SVle.refl _, SVle.refl _, trivial⟩ ⟨rfl, trivial⟩ ?_
  refine at_pubT 57 3 1 (bytesR (List.replicate (1020 + (i : Int)).toNat 0)) [] rfl rfl (List.append_nil _).symm (by simp) (fun r hr => by obtain ⟨x, _, rfl⟩ := List.mem_map.1 hr; rfl) rfl ?_
  refine at_val (.str (bytesS (List.replicate (1020 + (i : Int)).toNat 0))) (does_bytesStr ty_ok rfl rfl rfl rfl rfl) ?_
  have hsz := bytesS_size (List.replicate (1020 + (i : Int)).toNat 0)
  rw [List.length_replicate] at hsz
  generalize bytesS (List.replicate (1020 + (i : Int)).toNat 0) = bs at hsz
  have m3 := may_atomB bs (by omega)
  have k3 := may_fn (.mk 1 0 bs [])
  refine at_fn (A_fn bs) rfl ?_
  refine at_fn k3 rfl ?_
  refine run 400 rfl ?_
  refine at_true 65 rfl (by rw [m3, hsz]; simp; omega) ?_
  refine run 400 rfl ?_
  have m4 := may_nonce (1073741820 + i) (by omega)
  have k4 := may_fn (.mk 2 (1073741820 + i) .empty [])
  refine at_fn (N_fn (1073741820 + i)) rfl ?_
  refine at_fn k4 rfl ?_
  refine run 400 rfl ?_
  refine at_true 73 rfl (by rw [m4]; simp; omega) ?_
  refine run 400 rfl ?_
  have k5 : Gives Try.prog 39 [(Tm.mk 2 (-1) .empty []).sv] .ff := gives_is (c := false) (may_fn (.mk 2 (-1) .empty [])) (may_nonce (-1) (by omega))
  refine at_fn (N_fn (-1)) rfl ?_
  refine at_fn k5 rfl ?_
  refine run 400 rfl ?_
  exact at_ret rfl rfl [] ⟨rfl, rfl, rfl⟩ trivial
end Go.Proofs.Ytmnmhehddbemkaa
namespace Go.Proofs.Ytmnmhehddbemkaa
open Go Go.Eng
set_option maxRecDepth 100000

/-- Nothing is longer than anything may be. -/
inductive Bd : Tm → Prop
  | mk {k n : Int} {s : ByteArray} {l : List Tm} (hs : s.size ≤ 9223372036854775807) (hl : l.length ≤ 9223372036854775807) (h : ∀ t ∈ l, Bd t) : Bd (.mk k n s l)

theorem ok_rows {n : Nat} (ih : ∀ ds, okT Try.prog n 33 ds → ∃ t, ds = tr t ∧ Bd t) : ∀ (rows : List (List DV)), (∀ r ∈ rows, okT Try.prog n 33 r) → ∃ l : List Tm, rows = rowsT l ∧ ∀ t ∈ l, Bd t
  | [], _ => ⟨[], rowsT_nil.symm, by simp⟩
  | r :: rows, h => by
    obtain ⟨t, rfl, ht⟩ := ih r (h r (by simp))
    obtain ⟨l, rfl, hl⟩ := ok_rows ih rows fun q hq => h q (by simp [hq])
    exact ⟨t :: l, (rowsT_cons t l).symm, fun u hu => (List.mem_cons.1 hu).elim (fun e => e ▸ ht) (hl u)⟩
theorem cells33 : Try.prog.cellsOf 33 = 4 := by kernel_rfl
theorem cells24 : Try.prog.cellsOf 24 = 1 := by kernel_rfl
theorem ok_term : ∀ {n : Nat} {ds : List DV}, okT Try.prog n 33 ds → ∃ t : Tm, ds = tr t ∧ Bd t := by
  intro n
  induction n using Nat.strongRecOn with
  | _ n ih =>
    intro ds h
    cases n with
    | zero => exact h.elim
    | succ n =>
      simp only [okT, Try.underlying33, cells33] at h
      obtain ⟨hl, h⟩ := h
      obtain ⟨a, b, c, d, rfl⟩ : ∃ a b c d, ds = [a, b, c, d] := by
        match ds, hl with
        | [a, b, c, d], _ => exact ⟨a, b, c, d, rfl⟩
      have h0 := h 0 _ rfl
      have h1 := h 1 _ rfl
      have h2 := h 2 _ rfl
      have h3 := h 3 _ rfl
      simp [cells3, cells9, cells24] at h0 h1 h2 h3
      obtain ⟨x0, e0⟩ := ok_int h0
      obtain ⟨x1, e1⟩ := ok_int h1
      have h2' : ∃ s : ByteArray, c = .str s ∧ s.size ≤ 9223372036854775807 := by
        cases n with
        | zero => exact h2.elim
        | succ n =>
          simp only [okT, Try.underlying9] at h2
          obtain ⟨s, e, hs⟩ := h2
          exact ⟨s, by simpa using e, hs⟩
      obtain ⟨s, rfl, hs⟩ := h2'
      have h3' : ∃ l : List Tm, d = .lst 4 (rowsT l) ∧ l.length ≤ 9223372036854775807 ∧ ∀ t ∈ l, Bd t := by
        cases n with
        | zero => exact h3.elim
        | succ n =>
          simp only [okT, Try.underlying24, cells33] at h3
          obtain ⟨rows, e, hm, hr⟩ := h3
          obtain ⟨l, rfl, hb⟩ := ok_rows (fun ds hds => ih n (by omega) hds) rows fun r hr' => (hr r hr').2
          exact ⟨l, by simpa using e, by rw [rowsT_len] at hm; exact hm, hb⟩
      obtain ⟨l, rfl, hl2, hb⟩ := h3'
      simp only [List.cons.injEq, and_true] at e0 e1
      exact ⟨.mk x0 x1 s l, by rw [e0, e1], .mk hs hl2 hb⟩

theorem few_fn : ∀ (t : Tm), Bd t → ∀ left : Int, 0 ≤ left → left ≤ 6000 → GivesP Try.prog 38 [t.sv, I left] fun s => ∃ r : Int, s = I r ∧ -9223372036854775808 ≤ r ∧ r ≤ 6000 := by
  intro t
  induction t using Tm.ind with
  | h k n s l ih =>
    intro hb left h0 h1
    cases hb with
    | mk hs hl hk =>
    have hrl := rowsT_len l
    have hs' : (Tm.mk k n s l).s.size ≤ 9223372036854775807 := hs
    refine contract_of ty_ok [0, 1, 2, 3, 4, 5, 6, 7] Try.func38 rfl (by decide) Try.ntmps38 rfl fun z => ?_
    refine run 400 rfl ?_
    refine at_loop (fun p : Nat × Int => p.1 ≤ l.length ∧ -9223372036854775808 ≤ p.2 ∧ p.2 ≤ 6000) (fun p => [(1, I p.2), (2, .ptr 0 0), (5, I p.1)]) (fun _ => [(0, .cells 33 [I k, I n, .str s, .lst 4 (rowsT l)])]) (fun p => l.length - p.1) [1, 2, 3, 4, 5, 6, 7]
      (0, left - 1 - s.size) ⟨by dsimp only; omega, by dsimp only; omega, by dsimp only; omega⟩ ⟨SVle.refl _, SVle.refl _, SVle.refl _, trivial⟩ ⟨rfl, trivial⟩ ?_
    rintro ⟨i, r⟩ ⟨a1, a2, a3⟩
    dsimp only at a1 a2 a3
    refine run 400 rfl ?_
    refine at_split 17 rfl (fun g => ?_) (fun g => ?_)
    rotate_left
    · refine run 400 rfl ?_
      exact at_ret rfl rfl [] ⟨⟨r, rfl, a2, a3⟩, rfl, rfl⟩ trivial
    have g : (i : Int) < l.length := by
      have := of_decide_eq_true g
      dsimp only at this
      rw [hrl] at this
      exact this
    have hlt : i < l.length := by omega
    refine run 400 rfl ?_
    refine at_ifd rfl (fun g2 => ?_) (fun g2 => ?_)
    rotate_left
    · refine run 400 rfl ?_
      exact at_ret rfl rfl [] ⟨⟨r, rfl, a2, a3⟩, rfl, rfl⟩ trivial
    have hget := rowsT_get hlt
    have hmem := getD_mem hlt
    generalize l.getD i .zero = u at hget hmem
    refine run 400 rfl ?_
    refine at_val (.rp (tr u) 0) (does_index ty_ok _ rfl rfl rfl (by omega) (show (rowsT l)[(i : Int).toNat]? = some (tr u) from hget) rfl) ?_
    refine run 400 rfl ?_
    refine at_pure (ih u hmem (hk u hmem) r g2 a3) rfl ?_
    rintro sv ⟨r', rfl, b1, b2⟩
    refine run 400 rfl ?_
    exact at_again (i + 1, r') ⟨by dsimp only; omega, b1, b2⟩ (by dsimp only; omega) ⟨SVle.refl _, SVle.refl _, SVle.of_eq (by show I ((i : Int) + 1) = I ((i + 1 : Nat) : Int); rw [Int.natCast_add]; rfl), trivial⟩ ⟨rfl, trivial⟩

theorem termMay_fn (t : Tm) (ns : List Int) (hb : Bd t) (h1 : ns.length ≤ 9223372036854775807) : Gives Try.prog 11 [t.sv, .lst 1 (ints ns)] .tt := by
  have hO := oneT_fn ns h1
  have hm : Gives Try.prog 39 [(genT ns 4 0).1.sv] .tt := gives_is (c := true) (may_fn _) (gen4_may ns)
  generalize (genT ns 4 0).1 = one at hO hm
  have hH := (may_fn (.mk 3 0 .empty [t])).weak (args' := [.agg [I 3, I 0, .str .empty, .tl 4 [tr t]]]) ⟨SVle.agg ⟨SVle.refl _, SVle.refl _, SVle.refl _, by rw [rowsT_cons, rowsT_nil]; exact SVle.tl _ _, trivial⟩, trivial⟩
  refine contract_of ty_ok [0, 1, 2, 3, 4, 5, 6, 7] Try.func11 rfl (by decide) Try.ntmps11 rfl fun z => ?_
  refine run 400 rfl ?_
  refine at_fn known37_fn rfl ?_
  refine run 400 rfl ?_
  refine at_pure (few_fn t hb 6000 (by omega) (by omega)) rfl ?_
  rintro sv ⟨r, rfl, b1, b2⟩
  refine run 400 rfl ?_
  refine at_ifd rfl (fun _ => ?_) (fun _ => ?_)
  · refine run 400 rfl ?_
    exact at_ret rfl rfl [] ⟨rfl, rfl, rfl⟩ trivial
  refine run 400 rfl ?_
  refine at_drawn 21 rfl rfl [(1, .sv (.bl (mayF t))), (3, .sv (.bl (mayF t))), (5, .yes), (7, .sv one.sv), (8, .sv .tt), (12, .gro (.tl 4 [tr t])), (14, .sv (.bl (mayF (.mk 3 0 .empty [t])))), (16, .gro (.tl 4 [tr t])), (17, .sv (Tm.mk 3 0 .empty [t]).sv), (18, .sv (.bl (mayF (.mk 3 0 .empty [t]))))] [20, 21, 22] rfl
    ⟨rmay_fn _, T1_fn 3 t, doesG_build ty_ok _ rfl ⟨⟨rfl, rfl, _, rfl, SVles.refl _⟩, trivial⟩ rfl rfl (by decide), hH, doesG_build ty_ok _ rfl ⟨⟨rfl, rfl, _, rfl, SVles.refl _⟩, trivial⟩ rfl rfl (by decide), hm, hO, by simp, rmay_fn t, may_fn t⟩ ?_
  refine run 400 rfl ?_
  refine at_true 4 rfl (by simp) ?_
  exact at_ret rfl rfl [] ⟨rfl, rfl, rfl⟩ trivial
end Go.Proofs.Ytmnmhehddbemkaa
