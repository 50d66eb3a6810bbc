import Derived.Test.YtmnmhehddbemkaaW4k
namespace Go.Proofs.Ytmnmhehddbemkaa
open Go Go.Eng

/-- A move as a step. -/
inductive St where
  | given (n : Int)
  | atom (s : ByteArray)
  | half (a k d : Int)
  | one (k a : Int)
  | two (k a b : Int)
abbrev St.ty : St → Nat
  | .given _ => 125
  | .atom _ => 126
  | .half _ _ _ => 108
  | .one _ _ => 128
  | .two _ _ _ => 130
abbrev St.v : St → Value
  | .given n => .int .i64 n
  | .atom s => .string s
  | .half a k d => .agg #[.int .i64 a, .int .i64 k, .int .i64 d]
  | .one k a => .agg #[.int .i64 k, .int .i64 a]
  | .two k a b => .agg #[.int .i64 k, .int .i64 a, .int .i64 b]
abbrev St.sv : St → SV
  | .given n => I n
  | .atom s => .str s
  | .half a k d => .agg [I a, I k, I d]
  | .one k a => .agg [I k, I a]
  | .two k a b => .agg [I k, I a, I b]
theorem St.den (s : St) (g : Nat → Value) (H : Hp) : Den g H s.sv s.v := by
  cases s with
  | given n => rfl
  | atom s => rfl
  | half a k d => exact ⟨_, rfl, rfl, rfl, rfl, trivial⟩
  | one k a => exact ⟨_, rfl, rfl, rfl, trivial⟩
  | two k a b => exact ⟨_, rfl, rfl, rfl, rfl, trivial⟩
abbrev optV : Option St → Value
  | none => .nilIface
  | some s => .iface s.ty s.v

def readF (m : Mv) : Option St := if m.k = 1 then some (.given m.a) else if m.k = 2 then some (.atom m.s) else if m.k = 3 then some (.half m.a 7 0) else if m.k = 4 then some (.half m.a 7 1) else if m.k = 5 then some (.half m.a 6 1)
  else if m.k = 6 then some (.one 3 m.a) else if m.k = 7 then some (.one 4 m.a) else if m.k = 8 then some (.two 5 m.a m.b) else if m.k = 9 then some (.two 6 m.a m.b) else if m.k = 10 then some (.two 7 m.a m.b) else none

set_option maxRecDepth 100000 in
theorem read_fn (m : Mv) : Gives Try.prog 84 [m.sv] (.val (optV (readF m))) := by
  refine contract_of ty_ok [0, 1, 2, 3, 4, 5, 6, 7] Try.func84 rfl (by decide) Try.ntmps84 rfl fun z => ?_
  refine run 400 rfl ?_
  refine at_split 5 rfl (fun h1 => ?_) (fun h1 => ?_)
  · have e : readF m = some (.given m.a) := by simp at h1; rw [readF, if_pos h1]
    refine run 400 rfl ?_
    refine at_val (.val (.iface 125 (St.v (.given m.a)))) (does_iface ty_ok (St.v (.given m.a)) rfl rfl rfl) ?_
    refine run 400 rfl ?_
    exact at_ret rfl rfl [] ⟨by rw [e], rfl, rfl⟩ trivial
  refine run 400 rfl ?_
  refine at_split 10 rfl (fun h2 => ?_) (fun h2 => ?_)
  · have e : readF m = some (.atom m.s) := by simp at h1 h2; rw [readF, if_neg h1, if_pos h2]
    refine run 400 rfl ?_
    refine at_val (.val (.iface 126 (St.v (.atom m.s)))) (does_iface ty_ok (St.v (.atom m.s)) rfl rfl rfl) ?_
    refine run 400 rfl ?_
    exact at_ret rfl rfl [] ⟨by rw [e], rfl, rfl⟩ trivial
  refine run 400 rfl ?_
  refine at_split 15 rfl (fun h3 => ?_) (fun h3 => ?_)
  · have e : readF m = some (.half m.a 7 0) := by simp at h1 h2 h3; rw [readF, if_neg h1, if_neg h2, if_pos h3]
    refine run 400 rfl ?_
    refine at_val (.val (.iface 108 (St.v (.half m.a 7 0)))) (does_iface ty_ok (St.v (.half m.a 7 0)) rfl rfl rfl) ?_
    refine run 400 rfl ?_
    exact at_ret rfl rfl [] ⟨by rw [e], rfl, rfl⟩ trivial
  refine run 400 rfl ?_
  refine at_split 21 rfl (fun h4 => ?_) (fun h4 => ?_)
  · have e : readF m = some (.half m.a 7 1) := by simp at h1 h2 h3 h4; rw [readF, if_neg h1, if_neg h2, if_neg h3, if_pos h4]
    refine run 400 rfl ?_
    refine at_val (.val (.iface 108 (St.v (.half m.a 7 1)))) (does_iface ty_ok (St.v (.half m.a 7 1)) rfl rfl rfl) ?_
    refine run 400 rfl ?_
    exact at_ret rfl rfl [] ⟨by rw [e], rfl, rfl⟩ trivial
  refine run 400 rfl ?_
  refine at_split 27 rfl (fun h5 => ?_) (fun h5 => ?_)
  · have e : readF m = some (.half m.a 6 1) := by simp at h1 h2 h3 h4 h5; rw [readF, if_neg h1, if_neg h2, if_neg h3, if_neg h4, if_pos h5]
    refine run 400 rfl ?_
    refine at_val (.val (.iface 108 (St.v (.half m.a 6 1)))) (does_iface ty_ok (St.v (.half m.a 6 1)) rfl rfl rfl) ?_
    refine run 400 rfl ?_
    exact at_ret rfl rfl [] ⟨by rw [e], rfl, rfl⟩ trivial
  refine run 400 rfl ?_
  refine at_split 33 rfl (fun h6 => ?_) (fun h6 => ?_)
  · have e : readF m = some (.one 3 m.a) := by simp at h1 h2 h3 h4 h5 h6; rw [readF, if_neg h1, if_neg h2, if_neg h3, if_neg h4, if_neg h5, if_pos h6]
    refine run 400 rfl ?_
    refine at_val (.val (.iface 128 (St.v (.one 3 m.a)))) (does_iface ty_ok (St.v (.one 3 m.a)) rfl rfl rfl) ?_
    refine run 400 rfl ?_
    exact at_ret rfl rfl [] ⟨by rw [e], rfl, rfl⟩ trivial
  refine run 400 rfl ?_
  refine at_split 39 rfl (fun h7 => ?_) (fun h7 => ?_)
  · have e : readF m = some (.one 4 m.a) := by simp at h1 h2 h3 h4 h5 h6 h7; rw [readF, if_neg h1, if_neg h2, if_neg h3, if_neg h4, if_neg h5, if_neg h6, if_pos h7]
    refine run 400 rfl ?_
    refine at_val (.val (.iface 128 (St.v (.one 4 m.a)))) (does_iface ty_ok (St.v (.one 4 m.a)) rfl rfl rfl) ?_
    refine run 400 rfl ?_
    exact at_ret rfl rfl [] ⟨by rw [e], rfl, rfl⟩ trivial
  refine run 400 rfl ?_
  refine at_split 45 rfl (fun h8 => ?_) (fun h8 => ?_)
  · have e : readF m = some (.two 5 m.a m.b) := by simp at h1 h2 h3 h4 h5 h6 h7 h8; rw [readF, if_neg h1, if_neg h2, if_neg h3, if_neg h4, if_neg h5, if_neg h6, if_neg h7, if_pos h8]
    refine run 400 rfl ?_
    refine at_val (.val (.iface 130 (St.v (.two 5 m.a m.b)))) (does_iface ty_ok (St.v (.two 5 m.a m.b)) rfl rfl rfl) ?_
    refine run 400 rfl ?_
    exact at_ret rfl rfl [] ⟨by rw [e], rfl, rfl⟩ trivial
  refine run 400 rfl ?_
  refine at_split 53 rfl (fun h9 => ?_) (fun h9 => ?_)
  · have e : readF m = some (.two 6 m.a m.b) := by simp at h1 h2 h3 h4 h5 h6 h7 h8 h9; rw [readF, if_neg h1, if_neg h2, if_neg h3, if_neg h4, if_neg h5, if_neg h6, if_neg h7, if_neg h8, if_pos h9]
    refine run 400 rfl ?_
    refine at_val (.val (.iface 130 (St.v (.two 6 m.a m.b)))) (does_iface ty_ok (St.v (.two 6 m.a m.b)) rfl rfl rfl) ?_
    refine run 400 rfl ?_
    exact at_ret rfl rfl [] ⟨by rw [e], rfl, rfl⟩ trivial
  refine run 400 rfl ?_
  refine at_split 61 rfl (fun h10 => ?_) (fun h10 => ?_)
  · have e : readF m = some (.two 7 m.a m.b) := by simp at h1 h2 h3 h4 h5 h6 h7 h8 h9 h10; rw [readF, if_neg h1, if_neg h2, if_neg h3, if_neg h4, if_neg h5, if_neg h6, if_neg h7, if_neg h8, if_neg h9, if_pos h10]
    refine run 400 rfl ?_
    refine at_val (.val (.iface 130 (St.v (.two 7 m.a m.b)))) (does_iface ty_ok (St.v (.two 7 m.a m.b)) rfl rfl rfl) ?_
    refine run 400 rfl ?_
    exact at_ret rfl rfl [] ⟨by rw [e], rfl, rfl⟩ trivial
  refine run 400 rfl ?_
  have e : readF m = none := by simp at h1 h2 h3 h4 h5 h6 h7 h8 h9 h10; rw [readF, if_neg h1, if_neg h2, if_neg h3, if_neg h4, if_neg h5, if_neg h6, if_neg h7, if_neg h8, if_neg h9, if_neg h10]
  exact at_ret rfl rfl [] ⟨by rw [e], rfl, rfl⟩ trivial

def inF (n most : Int) : Bool := decide (0 ≤ n) && decide (n < most)
theorem in_fn (n most : Int) : Gives Try.prog 155 [I n, I most] (.bl (inF n most)) := by
  have key : ∀ b : Bool, inF n most = b → Gives Try.prog 155 [I n, I most] (cond b .tt .ff) := by
    intro b hb
    refine contract_of ty_ok [0, 1, 2, 3, 4, 5, 6, 7] Try.func155 rfl (by decide) Try.ntmps155 rfl fun z => ?_
    refine run 400 rfl ?_
    refine at_split 7 rfl (fun h1 => ?_) (fun h1 => ?_)
    · have hb : decide (n < most) = b := by rw [← hb, inF, h1, Bool.true_and]
      refine run 400 rfl ?_
      refine at_split 4 rfl (fun h2 => ?_) (fun h2 => ?_)
      · rw [h2] at hb
        subst hb
        exact at_ret rfl rfl [] ⟨rfl, rfl, rfl⟩ trivial
      · rw [h2] at hb
        subst hb
        exact at_ret rfl rfl [] ⟨rfl, rfl, rfl⟩ trivial
    · have hb : b = false := by rw [← hb, inF, h1, Bool.false_and]
      subst hb
      refine run 400 rfl ?_
      exact at_ret rfl rfl [] ⟨rfl, rfl, rfl⟩ trivial
  cases hm : inF n most with
  | false => exact (key false hm).le (SVle.ff rfl)
  | true => exact (key true hm).le (SVle.tt rfl)

def nearF : St → Int → Int → Bool
  | .given n, _, known => inF n known
  | .atom _, _, _ => true
  | .half a _ _, res, _ => inF a res
  | .one _ a, res, _ => inF a res
  | .two _ a b, res, _ => inF a res && inF b res

theorem near156 (n res known : Int) : Gives Try.prog 156 [I n, I res, I known] (.bl (nearF (.given n) res known)) := by
  refine contract_of ty_ok [0, 1, 2, 3, 4, 5, 6, 7] Try.func156 rfl (by decide) Try.ntmps156 rfl fun z => ?_
  refine run 400 rfl ?_
  refine at_fn (in_fn n known) rfl ?_
  refine run 400 rfl ?_
  exact at_ret rfl rfl [] ⟨rfl, rfl, rfl⟩ trivial
theorem near157 (s : ByteArray) (res known : Int) : Gives Try.prog 157 [.str s, I res, I known] (.bl (nearF (.atom s) res known)) := by
  have : Gives Try.prog 157 [.str s, I res, I known] .tt := by
    refine contract_of ty_ok [0, 1, 2, 3, 4, 5, 6, 7] Try.func157 rfl (by decide) Try.ntmps157 rfl fun z => ?_
    refine run 400 rfl ?_
    exact at_ret rfl rfl [] ⟨rfl, rfl, rfl⟩ trivial
  exact this.le (SVle.tt rfl)
theorem near154 (a k d res known : Int) : Gives Try.prog 154 [.agg [I a, I k, I d], I res, I known] (.bl (nearF (.half a k d) res known)) := by
  refine contract_of ty_ok [0, 1, 2, 3, 4, 5, 6, 7] Try.func154 rfl (by decide) Try.ntmps154 rfl fun z => ?_
  refine run 400 rfl ?_
  refine at_fn (in_fn a res) rfl ?_
  refine run 400 rfl ?_
  exact at_ret rfl rfl [] ⟨rfl, rfl, rfl⟩ trivial
theorem near158 (k a res known : Int) : Gives Try.prog 158 [.agg [I k, I a], I res, I known] (.bl (nearF (.one k a) res known)) := by
  refine contract_of ty_ok [0, 1, 2, 3, 4, 5, 6, 7] Try.func158 rfl (by decide) Try.ntmps158 rfl fun z => ?_
  refine run 400 rfl ?_
  refine at_fn (in_fn a res) rfl ?_
  refine run 400 rfl ?_
  exact at_ret rfl rfl [] ⟨rfl, rfl, rfl⟩ trivial
theorem near159 (k a b res known : Int) : Gives Try.prog 159 [.agg [I k, I a, I b], I res, I known] (.bl (nearF (.two k a b) res known)) := by
  cases h1 : inF a res with
  | false =>
    have : Gives Try.prog 159 [.agg [I k, I a, I b], I res, I known] .ff := by
      refine contract_of ty_ok [0, 1, 2, 3, 4, 5, 6, 7] Try.func159 rfl (by decide) Try.ntmps159 rfl fun z => ?_
      refine run 400 rfl ?_
      refine at_fn (in_fn a res) rfl ?_
      refine run 400 rfl ?_
      refine at_false 11 rfl h1 ?_
      refine run 400 rfl ?_
      exact at_ret rfl rfl [] ⟨rfl, rfl, rfl⟩ trivial
    exact this.le (SVle.ff (by simp [nearF, h1]))
  | true =>
    have : Gives Try.prog 159 [.agg [I k, I a, I b], I res, I known] (.bl (inF b res)) := by
      refine contract_of ty_ok [0, 1, 2, 3, 4, 5, 6, 7] Try.func159 rfl (by decide) Try.ntmps159 rfl fun z => ?_
      refine run 400 rfl ?_
      refine at_fn (in_fn a res) rfl ?_
      refine run 400 rfl ?_
      refine at_true 11 rfl h1 ?_
      refine run 400 rfl ?_
      refine at_fn (in_fn b res) rfl ?_
      refine run 400 rfl ?_
      exact at_ret rfl rfl [] ⟨rfl, rfl, rfl⟩ trivial
    exact this.le (SVle.of_eq (by simp [nearF, h1]))

def nearId : St → Nat
  | .given _ => 156
  | .atom _ => 157
  | .half _ _ _ => 154
  | .one _ _ => 158
  | .two _ _ _ => 159
theorem near_fn (s : St) (res known : Int) : Gives Try.prog (nearId s) [s.sv, I res, I known] (.bl (nearF s res known)) := by
  cases s with
  | given n => exact near156 n res known
  | atom s => exact near157 s res known
  | half a k d => exact near154 a k d res known
  | one k a => exact near158 k a res known
  | two k a b => exact near159 k a b res known
theorem near_meth (s : St) : methB Try.prog s.ty "countersign/proof.near" (nearId s) = true := by
  cases s <;> kernel_rfl

end Go.Proofs.Ytmnmhehddbemkaa
