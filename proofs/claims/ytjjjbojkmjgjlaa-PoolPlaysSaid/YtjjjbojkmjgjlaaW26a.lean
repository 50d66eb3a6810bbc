import Derived.Test.YtjjjbojkmjgjlaaW26
namespace Go.Proofs.Ytjjjbojkmjgjlaa
open Go Go.Eng

abbrev m3 : Mg := ⟨3, 0, .empty, false, .empty⟩
theorem k1 : Gives Try.prog 29 [.tl 0 [], .agg [I 3, I 0, .str .empty, .ff, .str .empty]] (.lst 5 (msgs [m3])) :=
  (send_less [] m3 (by decide)).weak ⟨fun g H x h => SVle.tl 5 [] g H x (SVle.nil 5 g H x h), SVle.agg ⟨SVle.refl _, SVle.refl _, SVle.refl _, SVle.ff rfl, SVle.refl _, trivial⟩, trivial⟩
theorem k2 : Gives Try.prog 25 [.lst 5 (msgs [m3]), I 0] (.tup [.lst 5 [], m3.sv, .tt]) := take_yes [m3] 0 (by decide) (by decide)
theorem k3 : Gives Try.prog 25 [.tl 0 [], I 0] (.tup [.tl 5 [], zsv, .ff]) := (take_no [] 0 (by decide) (by decide)).weak ⟨fun g H x h => SVle.tl 5 [] g H x (SVle.nil 5 g H x h), SVle.refl _, trivial⟩

set_option maxRecDepth 100000 in
theorem known26_fn : Gives Try.prog 22 [] .tt := by
  refine contract_of ty_ok [0, 1, 2, 3, 4, 5, 6, 7] Try.func22 rfl (by decide) Try.ntmps22 rfl fun z => ?_
  refine run 400 rfl ?_
  refine at_fn k1 rfl ?_
  refine run 400 rfl ?_
  refine at_fn k2 rfl ?_
  refine run 400 rfl ?_
  refine at_fn k3 rfl ?_
  refine run 400 rfl ?_
  refine at_fn (ask_yes 1 4 0 1 _ _ (by omega)) rfl ?_
  refine run 400 rfl ?_
  refine at_true 33 rfl rfl ?_
  refine run 400 rfl ?_
  refine at_true 38 rfl rfl ?_
  refine run 400 rfl ?_
  refine at_true 43 rfl rfl ?_
  refine run 400 rfl ?_
  refine at_true 58 rfl (by simp [seq]) ?_
  refine run 400 rfl ?_
  refine at_true 63 rfl rfl ?_
  refine run 400 rfl ?_
  refine at_fn (back_fn 1 2 _ _) rfl ?_
  refine run 400 rfl ?_
  refine at_true 0 rfl (by simp [seq]) ?_
  exact at_ret rfl rfl [] ⟨rfl, rfl, rfl⟩ trivial

theorem seq_self (a : ByteArray) : seq a a = true := by simp [seq]

structure AS where
  i : Int
  b : Int
  last : Int

set_option maxRecDepth 100000 in
theorem poolAsks_fn (n f : Int) (h d : ByteArray) (near : Bool) : Gives Try.prog 7 [I n, I f, .str h, .str d, .bl near] .tt := by
  refine contract_of ty_ok [0, 1, 2, 3, 4, 5, 6, 7] Try.func7 rfl (by decide) Try.ntmps7 rfl fun z => ?_
  refine run 400 rfl ?_
  refine at_fn known26_fn rfl ?_
  refine run 400 rfl ?_
  refine at_fn (within31 n 1000 (by omega)) rfl ?_
  refine run 400 rfl ?_
  refine at_join (fun b : Int => 1 ≤ b ∧ b ≤ 1073741825) (fun _ => [(0, I n), (1, I f), (2, .str h), (3, .str d), (11, .ptr 0 0)]) (fun b => [(0, .cells 25 [I 5, I b, I 3])]) [1, 2, 3, 4, 5, 6] ?_ ?_
  · refine at_if rfl (fun h1 => ?_) (fun h1 => ?_)
    · refine run 400 rfl ?_
      refine at_fn (within31 n 4 (by omega)) rfl ?_
      refine run 400 rfl ?_
      exact at_joined (1073741822 + n % 4) (by omega) ⟨SVle.refl _, SVle.refl _, SVle.refl _, SVle.refl _, SVle.refl _, trivial⟩ ⟨rfl, trivial⟩
    · refine run 400 rfl ?_
      exact at_joined (1 + n % 1000) (by omega) ⟨SVle.refl _, SVle.refl _, SVle.refl _, SVle.refl _, SVle.refl _, trivial⟩ ⟨rfl, trivial⟩
  intro b0 hb0
  refine run 400 rfl ?_
  refine at_loop (fun x : AS => 0 ≤ x.i ∧ x.i ≤ 5 ∧ 1 ≤ x.b ∧ x.b ≤ 1073741825 ∧ 0 ≤ x.last ∧ x.last < x.b) (fun x => [(0, I n), (1, I f), (2, .str h), (3, .str d), (11, .ptr 0 0), (12, I x.last), (13, I x.i)]) (fun x => [(0, .cells 25 [I 5, I x.b, I 3])]) (fun x => (5 - x.i).toNat) [1, 2, 3, 4, 5, 6]
    ⟨0, b0, 0⟩ (by dsimp only; omega) ⟨SVle.refl _, SVle.refl _, SVle.refl _, SVle.refl _, SVle.refl _, SVle.refl _, SVle.refl _, trivial⟩ ⟨rfl, trivial⟩ ?_
  rintro ⟨i, b, last⟩ ⟨a1, a2, a3, a4, a5, a6⟩
  dsimp only at a1 a2 a3 a4 a5 a6
  refine run 400 rfl ?_
  refine at_ifd rfl (fun h2 => ?_) (fun h2 => ?_)
  rotate_left
  · refine run 400 rfl ?_
    refine at_fn (back_fn n f h d) rfl ?_
    refine run 400 rfl ?_
    refine at_fn (backR_fn n f h d) rfl ?_
    refine run 400 rfl ?_
    refine at_true 10 rfl (by simp [seq]) ?_
    exact at_ret rfl rfl [] ⟨rfl, rfl, rfl⟩ trivial
  dsimp only at h2
  refine run 400 rfl ?_
  by_cases hb : 1073741824 < b
  · refine at_fn (ask_no 5 b 3 f h d (by omega)) rfl ?_
    refine run 400 rfl ?_
    refine at_fn (askR_no 5 b 3 f h d (by omega)) rfl ?_
    refine run 400 rfl ?_
    refine at_false 56 rfl (by simp [seq]) ?_
    refine run 400 rfl ?_
    refine at_false 61 rfl (by simp) ?_
    refine run 400 rfl ?_
    refine at_false 66 rfl (by simp) ?_
    refine run 400 rfl ?_
    refine at_false 83 rfl (by simp) ?_
    refine run 400 rfl ?_
    refine at_drawn_st 4 [0] rfl rfl [] [20, 21, 22] rfl trivial ?_
    refine run 400 rfl ?_
    exact at_again ⟨i + 1, b, 0⟩ (by dsimp only; omega) (by dsimp only; omega) ⟨SVle.refl _, SVle.refl _, SVle.refl _, SVle.refl _, SVle.refl _, SVle.refl _, SVle.refl _, trivial⟩ ⟨rfl, trivial⟩
  · refine at_fn (ask_yes 5 b 3 f h d (by omega)) rfl ?_
    refine run 400 rfl ?_
    refine at_fn (askR_yes 5 b 3 f h d (by omega)) rfl ?_
    refine run 400 rfl ?_
    refine at_false 56 rfl (by simp [seq]) ?_
    refine run 400 rfl ?_
    refine at_false 61 rfl (by simp) ?_
    refine run 400 rfl ?_
    refine at_false 66 rfl (by simp) ?_
    refine run 400 rfl ?_
    refine at_false 75 rfl (decide_eq_false (by dsimp only; omega)) ?_
    refine run 400 rfl ?_
    refine at_drawn_st 4 [0] rfl rfl [] [20, 21, 22] rfl trivial ?_
    refine run 400 rfl ?_
    exact at_again ⟨i + 1, b + 1, b⟩ (by dsimp only; omega) (by dsimp only; omega) ⟨SVle.refl _, SVle.refl _, SVle.refl _, SVle.refl _, SVle.refl _, SVle.refl _, SVle.refl _, trivial⟩ ⟨rfl, trivial⟩
end Go.Proofs.Ytjjjbojkmjgjlaa
