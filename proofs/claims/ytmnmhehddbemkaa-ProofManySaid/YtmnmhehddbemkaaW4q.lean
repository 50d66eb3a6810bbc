import Derived.Test.YtmnmhehddbemkaaW4p
namespace Go.Proofs.Ytmnmhehddbemkaa
open Go Go.Eng

abbrev n1 : Tm := .mk 2 1 .empty []
theorem may_n1 : mayF n1 = true := by
  have hr : rightF n1 = true := by
    simp [rightF, kidsF, seq_self]
    exact .inr ⟨by show (0 : Int) < 1; omega, by show (1 : Int) ≤ 1073741824; omega⟩
  simp [mayF, mayT, hr, mayL]
theorem tl01 (sz : Nat) : SVle (.tl 0 []) (.tl sz []) := SVle.nil sz
theorem put_fn : Gives Try.prog 92 [n1.sv] (.lst 1 (bytesR ([2] ++ numB 1 4))) := by
  have hp := (puts0_fn 1).weak (args' := [.tl 0 [], n1.sv]) ⟨SVle.nil 1, SVle.refl _, trivial⟩
  have hm := may_fn n1
  rw [may_n1] at hm
  refine contract_of ty_ok [0, 1, 2, 3, 4, 5, 6, 7] Try.func92 rfl (by decide) Try.ntmps92 rfl fun z => ?_
  refine run 400 rfl ?_
  refine at_fn hm rfl ?_
  refine run 400 rfl ?_
  refine at_if rfl (fun h => by cases h) (fun h => ?_)
  refine run 400 rfl ?_
  refine at_fn hp rfl ?_
  refine run 400 rfl ?_
  exact at_ret rfl rfl [] ⟨rfl, rfl, rfl⟩ trivial
theorem key_fn : Gives Try.prog 66 [n1.sv] (.str (bytesS ([2] ++ numB 1 4))) := by
  refine contract_of ty_ok [0, 1, 2, 3, 4, 5, 6, 7] Try.func66 rfl (by decide) Try.ntmps66 rfl fun z => ?_
  refine run 400 rfl ?_
  refine at_fn put_fn rfl ?_
  refine at_val (.str (bytesS ([2] ++ numB 1 4))) (does_bytesStr ty_ok (ns := [2] ++ numB 1 4) rfl rfl rfl rfl rfl) ?_
  refine run 400 rfl ?_
  exact at_ret rfl rfl [] ⟨rfl, rfl, rfl⟩ trivial

theorem z33 : (Try.prog.info? 33).bind (·.zero) = some (.agg #[.int .i64 0, .int .i64 0, .string .empty, .slice none 0 0]) := by kernel_rfl
abbrev canPre : List (Nat × SO) := [(0, .cells 85 [.mp 2]), (1, .cells 55 [.clo 65 [.ptr 0 0, .ptr 1 0]]), (2, .obj noMap)]

set_option maxRecDepth 100000 in
theorem can1_fn : Contract Try.prog 65 3 canPre [n1.sv, .ptr 0 0, .ptr 1 0] fun s post => s = .ff ∧ post = canPre := by
  refine contract_of ty_ok [3, 4, 5, 6, 7] Try.func65 rfl (by decide) Try.ntmps65 rfl fun z => ?_
  refine run 400 rfl ?_
  refine at_drawn 9 rfl rfl [(2, .sv (.str (bytesS ([2] ++ numB 1 4)))), (3, .val (.tup [.agg [I 0, I 0, .str .empty, .lst 4 []], .ff])), (7, .forget), (8, .forget)] [20, 21, 22] rfl
    ⟨does_lookup0 _ Try.underlying85 Try.underlying9 z33 rfl rfl rfl rfl (fun g H => ⟨_, rfl, rfl, rfl, rfl, ⟨none, 0, rfl, Nat.le_refl _, fun _ => ⟨rfl, rfl⟩, fun p hp => by cases hp⟩, trivial⟩), key_fn⟩ ?_
  refine run 400 rfl ?_
  refine at_if rfl (fun h => by cases h) (fun h => ?_)
  refine run 400 rfl ?_
  refine at_if rfl (fun h => ?_) (fun h => ?_)
  · refine run 400 rfl ?_
    exact at_ret rfl rfl canPre ⟨rfl, rfl⟩ ⟨rfl, rfl, rfl, trivial⟩
  · have h : ((rowsT []).length : Int) ≠ 0 := by simpa using h
    rw [rowsT_nil] at h
    exact absurd rfl h

set_option maxRecDepth 100000 in
theorem open0_fn : Contract Try.prog 63 0 [] [.tl 0 []] fun s post => s = .mp 0 ∧ post = [(0, .obj noMap)] := by
  refine contract_of ty_ok [1, 2, 3, 4, 5, 6] Try.func63 rfl (by decide) Try.ntmps63 rfl fun z => ?_
  refine run 400 rfl ?_
  refine at_mkmap 0 rfl ?_
  refine run 400 rfl ?_
  refine at_loop (fun _ : Unit => True) (fun _ => [(3, .ptr 1 0), (10, I 0), (11, I 0)]) (fun _ => [(0, .obj noMap), (1, .cells 85 [.mp 0])]) (fun _ => 0) [3, 4, 5, 6]
    () trivial ⟨SVle.refl _, SVle.refl _, SVle.refl _, trivial⟩ ⟨rfl, rfl, trivial⟩ ?_
  intro _ _
  refine run 400 rfl ?_
  refine at_ifd rfl (fun g => absurd g (by omega)) (fun g => ?_)
  refine run 400 rfl ?_
  exact at_ret rfl rfl [(0, .obj noMap)] ⟨rfl, rfl⟩ ⟨rfl, trivial⟩

def r3 (a b c : Nat) : Nat → Nat := fun k => bif Nat.beq k 0 then a else bif Nat.beq k 1 then b else c

set_option maxRecDepth 100000 in
theorem can0_fn : Gives Try.prog 31 [.tl 0 [], n1.sv] .ff := by
  refine contract_of ty_ok [0, 1, 2, 3, 4, 6] Try.func31 rfl (by decide) Try.ntmps31 rfl fun z => ?_
  refine run 400 rfl ?_
  refine at_mapF 5 open0_fn rfl ?_
  refine run 400 rfl ?_
  refine at_call (r3 1 2 5) can1_fn rfl rfl ⟨rfl, rfl, rfl, trivial⟩ ?_ ?_ ?_
  · rintro _ _ ⟨rfl, rfl⟩
    refine ⟨rfl, rfl, rfl, ?_⟩
    refine run 400 rfl ?_
    exact at_ret rfl rfl [] ⟨rfl, rfl, rfl⟩ trivial
  · intro i j hi hj e
    have key : ∀ i, (ownq canPre i).isSome = true → i = 0 ∨ i = 1 ∨ i = 2 := by
      intro i hi
      match i, hi with
      | 0, _ => exact .inl rfl
      | 1, _ => exact .inr (.inl rfl)
      | 2, _ => exact .inr (.inr rfl)
      | i + 3, hi => exact absurd hi (by show ¬ (false = true); simp)
    rcases key i hi with rfl | rfl | rfl <;> rcases key j hj with rfl | rfl | rfl <;> first | rfl | (exact absurd e (by decide))
  · intro k hk
    match k, hk with
    | 0, _ => rfl
    | 1, _ => rfl
    | 2, _ => rfl

theorem way0_fn : Gives Try.prog 27 [.tl 0 [], n1.sv] (.tup [.tl 0 [], .ff]) := by
  refine contract_of ty_ok [0, 1, 2, 3, 4, 5, 6, 7] Try.func27 rfl (by decide) Try.ntmps27 rfl fun z => ?_
  refine run 400 rfl ?_
  refine at_fn can0_fn rfl ?_
  refine run 400 rfl ?_
  exact at_ret rfl rfl [] ⟨rfl, rfl, rfl⟩ trivial
end Go.Proofs.Ytmnmhehddbemkaa
