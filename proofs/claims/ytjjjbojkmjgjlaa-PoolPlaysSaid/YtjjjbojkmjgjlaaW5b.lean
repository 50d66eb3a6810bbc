import Derived.Test.YtjjjbojkmjgjlaaW5
namespace Go.Proofs.Ytjjjbojkmjgjlaa
open Go Go.Eng

theorem known_fn : Gives Try.prog 8 [] .tt := by
  refine contract_of ty_ok [0, 1, 2, 3, 4, 5, 6, 7] Try.func8 rfl (by decide) Try.ntmps8 rfl fun z => ?_
  refine run 400 rfl ?_
  refine at_fn new_fn rfl ?_
  refine run 400 rfl ?_
  refine at_fn (nonce_yes 1 1 0 (by omega)) rfl ?_
  refine run 400 rfl ?_
  refine at_fn (conn_yes (1 + 1) 1 0 (by omega)) rfl ?_
  refine run 400 rfl ?_
  refine at_true 21 rfl rfl ?_
  refine run 400 rfl ?_
  refine at_true 28 rfl rfl ?_
  refine run 400 rfl ?_
  refine at_true 36 rfl rfl ?_
  refine run 400 rfl ?_
  refine at_fn (live_fn 1 2) rfl ?_
  refine run 400 rfl ?_
  refine at_true 39 rfl rfl ?_
  refine run 400 rfl ?_
  refine at_fn (live_fn 2 2) rfl ?_
  refine run 400 rfl ?_
  refine at_true 43 rfl rfl ?_
  refine run 400 rfl ?_
  refine at_fn (until_fn 2 3 (by omega)) rfl ?_
  refine run 400 rfl ?_
  refine at_true 47 rfl rfl ?_
  refine run 400 rfl ?_
  refine at_fn (tick_fn (1 + 1) 1 0 4 (by omega)) rfl ?_
  refine run 400 rfl ?_
  refine at_true 52 rfl rfl ?_
  refine run 400 rfl ?_
  refine at_true 0 rfl rfl ?_
  exact at_ret rfl rfl [] ⟨rfl, rfl, rfl⟩ trivial
end Go.Proofs.Ytjjjbojkmjgjlaa
