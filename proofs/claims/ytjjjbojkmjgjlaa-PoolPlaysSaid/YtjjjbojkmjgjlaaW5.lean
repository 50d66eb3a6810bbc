import Derived.Test.YtjjjbojkmjgjlaaBridge
import Derived.Test.YtjjjbojkmjgjlaaTy
namespace Go.Proofs.Ytjjjbojkmjgjlaa
open Go Go.Eng

abbrev src (a b c : Int) : SV := .agg [.int .i64 a, .int .i64 b, .int .i64 c]
abbrev I (n : Int) : SV := .int .i64 n
def nxF (n : Int) : Int := if 1073741824 < n then n else n + 1
def noF (n : Int) : Int := if 1073741824 < n then 0 else n
def unF (now life : Int) : Int := if life ≤ 0 then now else if 1099511627776 - now < life then 1099511627776 else now + life

theorem tmod_val (a n : Int) (h : 0 < n) : (if a.tmod n < 0 then a.tmod n + n else a.tmod n) = a % n ∧ -n < a.tmod n ∧ a.tmod n < n := by
  have h1 := Int.emod_nonneg a (show n ≠ 0 by omega)
  have h2 := Int.emod_lt_of_pos a h
  rw [Int.tmod_eq_emod]
  by_cases hc : 0 ≤ a ∨ n ∣ a
  · simp only [if_pos hc, Int.natCast_zero, Int.sub_zero]
    rw [if_neg (by omega)]
    omega
  · simp only [if_neg hc]
    have e : (n.natAbs : Int) = n := by omega
    have : (if 0 ≤ a ∨ n ∣ a then 0 else n.natAbs) = n.natAbs := if_neg hc
    rw [if_pos (by omega)]
    omega

theorem within9 (a n : Int) (h : 0 < n ∧ n ≤ 4611686018427387904) : Gives Try.prog 9 [I a, I n] (I (a % n)) := by
  refine contract_of ty_ok [0, 1, 2, 3, 4, 5, 6, 7] Try.func9 rfl (by decide) Try.ntmps9 rfl fun z => ?_
  obtain ⟨hv, h3, h4⟩ := tmod_val a n h.1
  rw [← hv]
  refine run 400 rfl ?_
  refine at_ifd rfl (fun h1 => ?_) (fun h1 => ?_)
  · refine run 400 rfl ?_
    refine run 400 rfl ?_
    exact at_ret rfl rfl [] ⟨by rw [if_pos h1], rfl, rfl⟩ trivial
  · refine run 400 rfl ?_
    exact at_ret rfl rfl [] ⟨by rw [if_neg h1], rfl, rfl⟩ trivial

theorem within31 (a n : Int) (h : 0 < n ∧ n ≤ 4611686018427387904) : Gives Try.prog 31 [I a, I n] (I (a % n)) := by
  refine contract_of ty_ok [0, 1, 2, 3, 4, 5, 6, 7] Try.func31 rfl (by decide) Try.ntmps31 rfl fun z => ?_
  obtain ⟨hv, h3, h4⟩ := tmod_val a n h.1
  rw [← hv]
  refine run 400 rfl ?_
  refine at_ifd rfl (fun h1 => ?_) (fun h1 => ?_)
  · refine run 400 rfl ?_
    refine run 400 rfl ?_
    exact at_ret rfl rfl [] ⟨by rw [if_pos h1], rfl, rfl⟩ trivial
  · refine run 400 rfl ?_
    exact at_ret rfl rfl [] ⟨by rw [if_neg h1], rfl, rfl⟩ trivial

theorem within38 (a n : Int) (h : 0 < n ∧ n ≤ 4611686018427387904) : Gives Try.prog 38 [I a, I n] (I (a % n)) := by
  refine contract_of ty_ok [0, 1, 2, 3, 4, 5, 6, 7] Try.func38 rfl (by decide) Try.ntmps38 rfl fun z => ?_
  obtain ⟨hv, h3, h4⟩ := tmod_val a n h.1
  rw [← hv]
  refine run 400 rfl ?_
  refine at_ifd rfl (fun h1 => ?_) (fun h1 => ?_)
  · refine run 400 rfl ?_
    refine run 400 rfl ?_
    exact at_ret rfl rfl [] ⟨by rw [if_pos h1], rfl, rfl⟩ trivial
  · refine run 400 rfl ?_
    exact at_ret rfl rfl [] ⟨by rw [if_neg h1], rfl, rfl⟩ trivial

theorem next_fn (n : Int) (h : -4611686018427387904 ≤ n ∧ n ≤ 4611686018427387904) : Gives Try.prog 36 [I n] (I (nxF n)) := by
  refine contract_of ty_ok [0, 1, 2, 3, 4, 5, 6, 7] Try.func36 rfl (by decide) Try.ntmps36 rfl fun z => ?_
  refine run 400 rfl ?_
  refine at_ifd rfl (fun h1 => ?_) (fun h1 => ?_)
  · refine run 400 rfl ?_
    exact at_ret rfl rfl [] ⟨by rw [nxF, if_pos h1], rfl, rfl⟩ trivial
  · refine run 400 rfl ?_
    refine run 400 rfl ?_
    exact at_ret rfl rfl [] ⟨by rw [nxF, if_neg h1], rfl, rfl⟩ trivial

theorem drawn_same (n a b c : Int) : Gives Try.prog 37 [I n, src a b c, src a b c] (.tup [I 0, src a b c, .ff]) := by
  refine contract_of ty_ok [0, 1, 2, 3, 4, 5, 6, 7] Try.func37 rfl (by decide) Try.ntmps37 rfl fun z => ?_
  refine run 400 rfl ?_
  refine at_if rfl (fun h1 => ?_) (fun h1 => ?_)
  · refine run 400 rfl ?_
    refine at_drawn 2 rfl rfl [] [20, 21, 22] rfl trivial ?_
    refine run 400 rfl ?_
    exact at_ret rfl rfl [] ⟨rfl, rfl, rfl⟩ trivial
  · simp at h1

theorem drawn_new (n a b c a' b' c' : Int) (h : ¬ (a' = a ∧ b' = b ∧ c' = c)) : Gives Try.prog 37 [I n, src a b c, src a' b' c'] (.tup [I n, src a' b' c', .tt]) := by
  refine contract_of ty_ok [0, 1, 2, 3, 4, 5, 6, 7] Try.func37 rfl (by decide) Try.ntmps37 rfl fun z => ?_
  refine run 400 rfl ?_
  refine at_if rfl (fun h1 => ?_) (fun h1 => ?_)
  · simp at h1
    exact absurd h1 h
  · refine run 400 rfl ?_
    refine at_drawn 3 rfl rfl [] [20, 21, 22] rfl trivial ?_
    refine run 400 rfl ?_
    exact at_ret rfl rfl [] ⟨rfl, rfl, rfl⟩ trivial

theorem nonce_no (a b c : Int) (h : 1073741824 < a ∧ a ≤ 4611686018427387904) : Gives Try.prog 10 [src a b c] (.tup [I 0, src a b c, .ff]) := by
  refine contract_of ty_ok [0, 1, 2, 3, 4, 5, 6, 7] Try.func10 rfl (by decide) Try.ntmps10 rfl fun z => ?_
  have hn := next_fn a (by omega)
  rw [nxF, if_pos h.1] at hn
  refine run 400 rfl ?_
  refine at_fn hn rfl ?_
  refine run 400 rfl ?_
  refine at_fn (drawn_same a a b c) rfl ?_
  refine run 400 rfl ?_
  exact at_ret rfl rfl [] ⟨rfl, rfl, rfl⟩ trivial

theorem nonce_yes (a b c : Int) (h : -4611686018427387904 ≤ a ∧ a ≤ 1073741824) : Gives Try.prog 10 [src a b c] (.tup [I a, src (a + 1) b c, .tt]) := by
  refine contract_of ty_ok [0, 1, 2, 3, 4, 5, 6, 7] Try.func10 rfl (by decide) Try.ntmps10 rfl fun z => ?_
  have hn := next_fn a (by omega)
  rw [nxF, if_neg (by omega)] at hn
  refine run 400 rfl ?_
  refine at_fn hn rfl ?_
  refine run 400 rfl ?_
  refine at_fn (drawn_new a a b c (a + 1) b c (by omega)) rfl ?_
  refine run 400 rfl ?_
  exact at_ret rfl rfl [] ⟨rfl, rfl, rfl⟩ trivial

theorem nonceR_no (a b c : Int) (h : 1073741824 < a) : Gives Try.prog 11 [src a b c] (.tup [I 0, src a b c, .ff]) := by
  refine contract_of ty_ok [0, 1, 2, 3, 4, 5, 6, 7] Try.func11 rfl (by decide) Try.ntmps11 rfl fun z => ?_
  refine run 400 rfl ?_
  refine at_ifd rfl (fun h1 => ?_) (fun h1 => absurd h h1)
  refine run 400 rfl ?_
  refine at_drawn 2 rfl rfl [] [20, 21, 22] rfl trivial ?_
  refine run 400 rfl ?_
  exact at_ret rfl rfl [] ⟨rfl, rfl, rfl⟩ trivial

theorem nonceR_yes (a b c : Int) (h : -4611686018427387904 ≤ a ∧ a ≤ 1073741824) : Gives Try.prog 11 [src a b c] (.tup [I a, src (a + 1) b c, .tt]) := by
  refine contract_of ty_ok [0, 1, 2, 3, 4, 5, 6, 7] Try.func11 rfl (by decide) Try.ntmps11 rfl fun z => ?_
  refine run 400 rfl ?_
  refine at_ifd rfl (fun h1 => absurd h1 (by omega)) (fun h1 => ?_)
  refine run 400 rfl ?_
  refine run 400 rfl ?_
  refine at_drawn 3 rfl rfl [] [20, 21, 22] rfl trivial ?_
  refine run 400 rfl ?_
  exact at_ret rfl rfl [] ⟨rfl, rfl, rfl⟩ trivial

theorem conn_no (a b c : Int) (h : 1073741824 < b ∧ b ≤ 4611686018427387904) : Gives Try.prog 12 [src a b c] (.tup [I 0, src a b c, .ff]) := by
  refine contract_of ty_ok [0, 1, 2, 3, 4, 5, 6, 7] Try.func12 rfl (by decide) Try.ntmps12 rfl fun z => ?_
  have hn := next_fn b (by omega)
  rw [nxF, if_pos h.1] at hn
  refine run 400 rfl ?_
  refine at_fn hn rfl ?_
  refine run 400 rfl ?_
  refine at_fn (drawn_same b a b c) rfl ?_
  refine run 400 rfl ?_
  exact at_ret rfl rfl [] ⟨rfl, rfl, rfl⟩ trivial

theorem conn_yes (a b c : Int) (h : -4611686018427387904 ≤ b ∧ b ≤ 1073741824) : Gives Try.prog 12 [src a b c] (.tup [I b, src a (b + 1) c, .tt]) := by
  refine contract_of ty_ok [0, 1, 2, 3, 4, 5, 6, 7] Try.func12 rfl (by decide) Try.ntmps12 rfl fun z => ?_
  have hn := next_fn b (by omega)
  rw [nxF, if_neg (by omega)] at hn
  refine run 400 rfl ?_
  refine at_fn hn rfl ?_
  refine run 400 rfl ?_
  refine at_fn (drawn_new b a b c a (b + 1) c (by omega)) rfl ?_
  refine run 400 rfl ?_
  exact at_ret rfl rfl [] ⟨rfl, rfl, rfl⟩ trivial

theorem connR_no (a b c : Int) (h : 1073741824 < b) : Gives Try.prog 13 [src a b c] (.tup [I 0, src a b c, .ff]) := by
  refine contract_of ty_ok [0, 1, 2, 3, 4, 5, 6, 7] Try.func13 rfl (by decide) Try.ntmps13 rfl fun z => ?_
  refine run 400 rfl ?_
  refine at_ifd rfl (fun h1 => ?_) (fun h1 => absurd h h1)
  refine run 400 rfl ?_
  refine at_drawn 2 rfl rfl [] [20, 21, 22] rfl trivial ?_
  refine run 400 rfl ?_
  exact at_ret rfl rfl [] ⟨rfl, rfl, rfl⟩ trivial

theorem connR_yes (a b c : Int) (h : -4611686018427387904 ≤ b ∧ b ≤ 1073741824) : Gives Try.prog 13 [src a b c] (.tup [I b, src a (b + 1) c, .tt]) := by
  refine contract_of ty_ok [0, 1, 2, 3, 4, 5, 6, 7] Try.func13 rfl (by decide) Try.ntmps13 rfl fun z => ?_
  refine run 400 rfl ?_
  refine at_ifd rfl (fun h1 => absurd h1 (by omega)) (fun h1 => ?_)
  refine run 400 rfl ?_
  refine run 400 rfl ?_
  refine at_drawn 3 rfl rfl [] [20, 21, 22] rfl trivial ?_
  refine run 400 rfl ?_
  exact at_ret rfl rfl [] ⟨rfl, rfl, rfl⟩ trivial

theorem until_fn (now life : Int) (h : 0 ≤ now ∧ now ≤ 1099511627776) : Gives Try.prog 16 [I now, I life] (I (unF now life)) := by
  refine contract_of ty_ok [0, 1, 2, 3, 4, 5, 6, 7] Try.func16 rfl (by decide) Try.ntmps16 rfl fun z => ?_
  refine run 400 rfl ?_
  refine at_ifd rfl (fun h1 => ?_) (fun h1 => ?_)
  · refine run 400 rfl ?_
    exact at_ret rfl rfl [] ⟨by rw [unF, if_pos h1], rfl, rfl⟩ trivial
  refine run 400 rfl ?_
  refine at_false 12 rfl (decide_eq_false (by omega)) ?_
  refine run 400 rfl ?_
  refine at_true 19 rfl (decide_eq_true (by omega)) ?_
  refine run 400 rfl ?_
  refine at_ifd rfl (fun h2 => ?_) (fun h2 => ?_)
  · refine run 400 rfl ?_
    exact at_ret rfl rfl [] ⟨by rw [unF, if_neg h1, if_pos h2], rfl, rfl⟩ trivial
  · refine run 400 rfl ?_
    refine run 400 rfl ?_
    exact at_ret rfl rfl [] ⟨by rw [unF, if_neg h1, if_neg h2], rfl, rfl⟩ trivial

theorem untilR_fn (now life : Int) (h : 0 ≤ now ∧ now ≤ 1099511627776) : Gives Try.prog 17 [I now, I life] (I (unF now life)) := by
  refine contract_of ty_ok [0, 1, 2, 3, 4, 5, 6, 7] Try.func17 rfl (by decide) Try.ntmps17 rfl fun z => ?_
  refine run 400 rfl ?_
  refine at_ifd rfl (fun h1 => ?_) (fun h1 => ?_)
  · refine run 400 rfl ?_
    exact at_ret rfl rfl [] ⟨by rw [unF]; congr 1; revert h1; split <;> split <;> intro h1 <;> first | omega | (split <;> omega), rfl, rfl⟩ trivial
  · refine run 400 rfl ?_ (by simp only [All, inR]; revert h1; split <;> omega)
    exact at_ret rfl rfl [] ⟨by rw [unF]; congr 1; revert h1; split <;> split <;> intro h1 <;> first | omega | (split <;> omega), rfl, rfl⟩ trivial

theorem tick_fn (a b now by' : Int) (h : 0 ≤ now ∧ now ≤ 1099511627776) : Gives Try.prog 14 [src a b now, I by'] (src a b (unF now by')) := by
  refine contract_of ty_ok [0, 1, 2, 3, 4, 5, 6, 7] Try.func14 rfl (by decide) Try.ntmps14 rfl fun z => ?_
  refine run 400 rfl ?_
  refine at_fn (until_fn now by' h) rfl ?_
  refine run 400 rfl ?_
  exact at_ret rfl rfl [] ⟨rfl, rfl, rfl⟩ trivial

theorem tickR_fn (a b now by' : Int) (h : 0 ≤ now ∧ now ≤ 1099511627776) : Gives Try.prog 15 [src a b now, I by'] (src a b (unF now by')) := by
  refine contract_of ty_ok [0, 1, 2, 3, 4, 5, 6, 7] Try.func15 rfl (by decide) Try.ntmps15 rfl fun z => ?_
  refine run 400 rfl ?_
  refine at_fn (untilR_fn now by' h) rfl ?_
  refine run 400 rfl ?_
  exact at_ret rfl rfl [] ⟨rfl, rfl, rfl⟩ trivial

theorem live_fn (a b : Int) : Gives Try.prog 18 [I a, I b] (.bl (decide (a < b))) := by
  refine contract_of ty_ok [0, 1, 2, 3, 4, 5, 6, 7] Try.func18 rfl (by decide) Try.ntmps18 rfl fun z => ?_
  refine run 400 rfl ?_
  exact at_ret rfl rfl [] ⟨rfl, rfl, rfl⟩ trivial

theorem liveR_fn (a b : Int) : Gives Try.prog 19 [I a, I b] (.bl (decide (a < b))) := by
  refine contract_of ty_ok [0, 1, 2, 3, 4, 5, 6, 7] Try.func19 rfl (by decide) Try.ntmps19 rfl fun z => ?_
  refine run 400 rfl ?_
  exact at_ret rfl rfl [] ⟨rfl, rfl, rfl⟩ trivial

theorem new_fn : Gives Try.prog 20 [] (src 1 1 0) := by
  refine contract_of ty_ok [0, 1, 2, 3, 4, 5, 6, 7] Try.func20 rfl (by decide) Try.ntmps20 rfl fun z => ?_
  refine run 400 rfl ?_
  exact at_ret rfl rfl [] ⟨rfl, rfl, rfl⟩ trivial

theorem newR_fn : Gives Try.prog 21 [] (src 1 1 0) := by
  refine contract_of ty_ok [0, 1, 2, 3, 4, 5, 6, 7] Try.func21 rfl (by decide) Try.ntmps21 rfl fun z => ?_
  refine run 400 rfl ?_
  exact at_ret rfl rfl [] ⟨rfl, rfl, rfl⟩ trivial

end Go.Proofs.Ytjjjbojkmjgjlaa