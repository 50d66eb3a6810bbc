import Derived.Test.YtjjjbojkmjgjlaaW5b
namespace Go.Proofs.Ytjjjbojkmjgjlaa
open Go Go.Eng

def drwN (a b c : Int) : SV := .tup [I (noF a), src (nxF a) b c, .bl (decide (a ≤ 1073741824))]
def drwC (a b c : Int) : SV := .tup [I (noF b), src a (nxF b) c, .bl (decide (b ≤ 1073741824))]
theorem leN_no {a b c : Int} (h : 1073741824 < a) : SVle (.tup [I 0, src a b c, .ff]) (drwN a b c) := by
  rw [drwN, noF, nxF, if_pos h, if_pos h]
  exact SVle.tup ⟨SVle.refl _, SVle.refl _, SVle.ff (decide_eq_false (by omega)), trivial⟩
theorem leN_yes {a b c : Int} (h : a ≤ 1073741824) : SVle (.tup [I a, src (a + 1) b c, .tt]) (drwN a b c) := by
  rw [drwN, noF, nxF, if_neg (by omega), if_neg (by omega)]
  exact SVle.tup ⟨SVle.refl _, SVle.refl _, SVle.tt (decide_eq_true (by omega)), trivial⟩
theorem leC_no {a b c : Int} (h : 1073741824 < b) : SVle (.tup [I 0, src a b c, .ff]) (drwC a b c) := by
  rw [drwC, noF, nxF, if_pos h, if_pos h]
  exact SVle.tup ⟨SVle.refl _, SVle.refl _, SVle.ff (decide_eq_false (by omega)), trivial⟩
theorem leC_yes {a b c : Int} (h : b ≤ 1073741824) : SVle (.tup [I b, src a (b + 1) c, .tt]) (drwC a b c) := by
  rw [drwC, noF, nxF, if_neg (by omega), if_neg (by omega)]
  exact SVle.tup ⟨SVle.refl _, SVle.refl _, SVle.tt (decide_eq_true (by omega)), trivial⟩
theorem nonce_fn (a b c : Int) (h : -4611686018427387904 ≤ a ∧ a ≤ 4611686018427387904) : Gives Try.prog 10 [src a b c] (drwN a b c) := by
  by_cases h1 : 1073741824 < a
  · exact (nonce_no a b c (by omega)).le (leN_no h1)
  · exact (nonce_yes a b c (by omega)).le (leN_yes (by omega))
theorem nonceR_fn (a b c : Int) (h : -4611686018427387904 ≤ a ∧ a ≤ 4611686018427387904) : Gives Try.prog 11 [src a b c] (drwN a b c) := by
  by_cases h1 : 1073741824 < a
  · exact (nonceR_no a b c (by omega)).le (leN_no h1)
  · exact (nonceR_yes a b c (by omega)).le (leN_yes (by omega))
theorem conn_fn (a b c : Int) (h : -4611686018427387904 ≤ b ∧ b ≤ 4611686018427387904) : Gives Try.prog 12 [src a b c] (drwC a b c) := by
  by_cases h1 : 1073741824 < b
  · exact (conn_no a b c (by omega)).le (leC_no h1)
  · exact (conn_yes a b c (by omega)).le (leC_yes (by omega))
theorem connR_fn (a b c : Int) (h : -4611686018427387904 ≤ b ∧ b ≤ 4611686018427387904) : Gives Try.prog 13 [src a b c] (drwC a b c) := by
  by_cases h1 : 1073741824 < b
  · exact (connR_no a b c (by omega)).le (leC_no h1)
  · exact (connR_yes a b c (by omega)).le (leC_yes (by omega))

set_option maxRecDepth 100000 in
theorem drawAll_fn (a b now by' til : Int) (near : Bool) : Gives Try.prog 3 [I a, I b, I now, I by', I til, .bl near] .tt := by
  refine contract_of ty_ok [0, 1, 2, 3, 4, 5, 6, 7] Try.func3 rfl (by decide) Try.ntmps3 rfl fun z => ?_
  refine run 400 rfl ?_
  refine at_fn known_fn rfl ?_
  refine run 400 rfl ?_
  refine at_fn (within9 a 1073741825 (by omega)) rfl ?_
  refine run 400 rfl ?_
  refine at_fn (within9 b 1073741825 (by omega)) rfl ?_
  refine run 400 rfl ?_
  refine at_fn (within9 now 1099511627777 (by omega)) rfl ?_
  refine run 400 rfl ?_
  refine at_join (fun x : Int × Int × Int => (1 ≤ x.1 ∧ x.1 ≤ 1073741825) ∧ (1 ≤ x.2.1 ∧ x.2.1 ≤ 1073741825) ∧ 0 ≤ x.2.2 ∧ x.2.2 ≤ 1099511627776)
    (fun x => [(3, I by'), (4, I til), (13, .ptr 0 0)]) (fun x => [(0, .cells 25 [I x.1, I x.2.1, I x.2.2])]) [1, 2, 3, 4, 5, 6] ?_ ?_
  · refine at_if rfl (fun h1 => ?_) (fun h1 => ?_)
    · refine run 400 rfl ?_
      refine at_fn (within9 a 3 (by omega)) rfl ?_
      refine run 400 rfl ?_
      refine at_fn (within9 b 3 (by omega)) rfl ?_
      refine run 400 rfl ?_
      refine at_fn (within9 now 5 (by omega)) rfl ?_
      refine run 400 rfl ?_
      exact at_joined (1073741823 + a % 3, 1073741823 + b % 3, 1099511627776 - now % 5) ⟨by dsimp only; omega, by dsimp only; omega, by dsimp only; omega⟩ ⟨SVle.refl _, SVle.refl _, SVle.refl _, trivial⟩ ⟨rfl, trivial⟩
    · refine run 400 rfl ?_
      exact at_joined (1 + a % 1073741825, 1 + b % 1073741825, now % 1099511627777) ⟨by dsimp only; omega, by dsimp only; omega, by dsimp only; omega⟩ ⟨SVle.refl _, SVle.refl _, SVle.refl _, trivial⟩ ⟨rfl, trivial⟩
  rintro ⟨n, c, t⟩ ⟨hn, hc, ht⟩
  dsimp only at hn hc ht
  refine run 400 rfl ?_
  refine at_fn (nonce_fn n c t (by omega)) rfl ?_
  refine run 400 rfl ?_
  refine at_fn (nonceR_fn n c t (by omega)) rfl ?_
  refine run 400 rfl ?_
  refine at_fn (conn_fn n c t (by omega)) rfl ?_
  refine run 400 rfl ?_
  refine at_fn (connR_fn n c t (by omega)) rfl ?_
  refine run 400 rfl ?_
  refine at_drawn 64 rfl rfl [(3, .yes), (8, .yes), (13, .yes), (18, .yes), (23, .yes), (28, .yes), (37, .yes), (48, .yes), (59, .yes),
    (31, .sv (src n c (unF t by'))), (34, .sv (src n c (unF t by'))), (41, .sv (I (unF t by'))), (45, .sv (I (unF t by'))), (52, .sv (.bl (decide (t < til)))), (56, .sv (.bl (decide (t < til)))), (60, .sv (src 1 1 0)), (61, .sv (src 1 1 0)), (63, .yes)]
    [20, 21, 22] rfl ?_ ?_
  · exact ⟨rfl, newR_fn, new_fn, beq_self_eq_true _, liveR_fn _ _, live_fn _ _, beq_self_eq_true _, untilR_fn _ _ ht, until_fn _ _ ht,
      by simp, tickR_fn _ _ _ _ ht, tick_fn _ _ _ _ ht, by simp, by simp, by simp, by simp, by simp, beq_self_eq_true (noF n)⟩
  refine run 400 rfl ?_
  exact at_ret rfl rfl [] ⟨rfl, rfl, rfl⟩ trivial

set_option maxRecDepth 100000 in
theorem drawLives_fn (now life later : Int) : Gives Try.prog 5 [I now, I life, I later] .tt := by
  have u1 : ∀ a b : Int, 0 ≤ a → a ≤ 1073741824 + 1048576 → 0 ≤ b → b < 1048576 → unF a b = a + b := by
    intro a b h1 h2 h3 h4
    unfold unF
    split
    · omega
    · rw [if_neg (by omega)]
  refine contract_of ty_ok [0, 1, 2, 3, 4, 5, 6, 7] Try.func5 rfl (by decide) Try.ntmps5 rfl fun z => ?_
  have ha : 0 ≤ now % 1073741824 ∧ now % 1073741824 < 1073741824 := by omega
  have hb : 0 ≤ life % 1048576 ∧ life % 1048576 < 1048576 := by omega
  have hc : 0 ≤ later % 1048576 ∧ later % 1048576 < 1048576 := by omega
  refine run 400 rfl ?_
  refine at_fn known_fn rfl ?_
  refine run 400 rfl ?_
  refine at_fn (within9 now 1073741824 (by omega)) rfl ?_
  refine run 400 rfl ?_
  refine at_fn (within9 life 1048576 (by omega)) rfl ?_
  refine run 400 rfl ?_
  refine at_fn (within9 later 1048576 (by omega)) rfl ?_
  refine run 400 rfl ?_
  generalize now % 1073741824 = a at *
  generalize life % 1048576 = b at *
  generalize later % 1048576 = c at *
  have e1 := until_fn a b (by omega)
  rw [u1 a b (by omega) (by omega) (by omega) (by omega)] at e1
  have tk : ∀ x y : Int, 0 ≤ x → x ≤ 1073741824 + 1048576 → 0 ≤ y → y < 1048576 → Gives Try.prog 14 [src 1 1 x, I y] (src 1 1 (x + y)) := by
    intro x y h1 h2 h3 h4
    have := tick_fn 1 1 x y (by omega)
    rw [u1 x y h1 h2 h3 h4] at this
    exact this
  have eM : Gives Try.prog 16 [I 1099511627776, I b] (I 1099511627776) := by
    have := until_fn 1099511627776 b (by omega)
    unfold unF at this
    by_cases h : b ≤ 0
    · rw [if_pos h] at this
      exact this
    · rw [if_neg h, if_pos (by omega)] at this
      exact this
  have k1 : Gives Try.prog 14 [src 1 1 (a + c), I (0 - b)] (src 1 1 (a + c)) := by
    have := tick_fn 1 1 (a + c) (0 - b) (by omega)
    rw [unF, if_pos (by omega)] at this
    exact this
  have k2 : Gives Try.prog 16 [I a, I (-1 - b)] (I a) := by
    have := until_fn a (-1 - b) (by omega)
    rw [unF, if_pos (by omega)] at this
    exact this
  refine at_fn e1 rfl ?_
  refine run 400 rfl ?_
  refine at_fn (tk a c (by omega) (by omega) (by omega) (by omega)) rfl ?_
  refine run 400 rfl ?_
  refine at_fn (tk a c (by omega) (by omega) (by omega) (by omega)) rfl ?_
  refine run 400 rfl ?_
  refine at_fn (tk (a + c) b (by omega) (by omega) (by omega) (by omega)) rfl ?_
  refine run 400 rfl ?_
  refine at_drawn 57 rfl rfl [(5, .yes), (15, .yes), (25, .yes), (35, .yes), (43, .yes), (51, .yes), (56, .yes),
    (9, .sv (.bl (decide (a + c < a + b)))), (30, .sv (src 1 1 (a + b))), (32, .sv (src 1 1 (a + b + c))), (39, .sv (I a)), (47, .sv (src 1 1 (a + c))), (53, .sv (I 1099511627776)), (54, .sv (.bl (decide ((1099511627776 : Int) < 1099511627776))))] [20, 21, 22] rfl ?_ ?_
  · exact ⟨by decide, live_fn _ _, eM, by simp, k1, by show _ ∧ _; omega, beq_self_eq_true a, k2, by show _ ∧ _; omega,
      by simp; omega, tk (a + b) c (by omega) (by omega) (by omega) (by omega), tk a b (by omega) (by omega) (by omega) (by omega), by simp; omega,
      by show _ ∧ _; omega, by show _ ∧ _; omega, by rw [beq_iff_eq, decide_eq_decide]; omega, live_fn _ _, beq_self_eq_true (a + b), by show _ ∧ _; omega⟩
  refine run 400 rfl ?_
  exact at_ret rfl rfl [] ⟨rfl, rfl, rfl⟩ trivial
end Go.Proofs.Ytjjjbojkmjgjlaa
