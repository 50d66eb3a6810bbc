import Derived.Test.YtjjjbojkmjgjlaaW26b
namespace Go.Proofs.Ytjjjbojkmjgjlaa
open Go Go.Eng

theorem take_out (l : List Mg) (k : Int) (hl : l.length ≤ 60) : ∃ (L : List Mg) (M : Mg) (B : Bool), L.length ≤ 60 ∧ takeR l k = .tup [.lst 5 (msgs L), M.sv, .bl B] := by
  refine ⟨_, _, _, ?_, rfl⟩
  split
  · simp [takeL]; omega
  · exact hl

theorem send_len (l : List Mg) (m : Mg) : ((((msgs (sendF l m)).length : Int) == ((msgs l).length : Int) + 1) != decide (((msgs l).length : Int) < 32)) = false := by
  unfold sendF
  by_cases h : 32 ≤ l.length
  · rw [if_pos h]
    have h1 : decide (((msgs l).length : Int) < 32) = false := decide_eq_false (by simp; omega)
    rw [h1]
    simp
    omega
  · rw [if_neg h]
    have h1 : decide (((msgs l).length : Int) < 32) = true := decide_eq_true (by simp; omega)
    rw [h1]
    simp

theorem send_60 (l : List Mg) (m : Mg) (hl : l.length ≤ 60) : (sendF l m).length ≤ 60 := by
  unfold sendF
  split
  · exact hl
  · simp; omega

structure PS where
  l : List Mg
  i : Int
  j : Int

set_option maxRecDepth 100000 in
theorem poolPlays_fn (ns : List Int) (raw : List Mg) (at' : Int) (hl : ns.length ≤ 9223372036854775807) (hr : raw.length ≤ 9223372036854775807) : Gives Try.prog 6 [.lst 1 (ints ns), .lst 5 (msgs raw), I at'] .tt := by
  have hlen : (msgs raw).length = raw.length := by simp
  refine contract_of ty_ok [0, 1, 2, 3, 4, 5, 6, 7] Try.func6 rfl (by decide) Try.ntmps6 rfl fun z => ?_
  refine run 400 rfl ?_
  refine at_fn known26_fn rfl ?_
  refine run 400 rfl ?_
  refine at_ifd rfl (fun h1 => ?_) (fun h1 => ?_)
  · refine run 400 rfl ?_
    exact at_ret rfl rfl [] ⟨rfl, rfl, rfl⟩ trivial
  rw [hlen] at h1
  refine run 400 rfl ?_
  refine at_loop (fun x : PS => x.l.length ≤ 60 ∧ 0 ≤ x.i ∧ x.i ≤ 80 ∧ 0 ≤ x.j ∧ x.j ≤ ns.length) (fun x => [(2, I at'), (7, .ptr 0 0), (8, .lst 5 (msgs x.l)), (9, I x.i)]) (fun x => [(0, tape ns x.j)]) (fun x => (80 - x.i).toNat) [1, 2, 3, 4, 5, 6, 7, 8, 9]
    ⟨raw, 0, 0⟩ (by dsimp only; omega) ⟨SVle.refl _, SVle.refl _, SVle.refl _, SVle.refl _, trivial⟩ ⟨rfl, trivial⟩ ?_
  rintro ⟨l, i, j⟩ ⟨a1, a2, a3, a4, a5⟩
  dsimp only at a1 a2 a3 a4 a5
  have hll : (msgs l).length = l.length := by simp
  refine run 400 rfl ?_
  refine at_split 30 rfl (fun h2 => ?_) (fun h2 => ?_)
  rotate_left
  · refine run 400 rfl ?_
    exact at_ret rfl rfl [] ⟨rfl, rfl, rfl⟩ trivial
  rw [decide_eq_true_eq] at h2
  dsimp only at h2
  refine run 400 rfl ?_
  refine at_met 0 (more_fn ns j) rfl rfl (fun _ => rfl) fun _ _ => ?_
  refine run 400 rfl ?_
  refine at_ifd rfl (fun h3 => ?_) (fun h3 => ?_)
  rotate_left
  · refine run 400 rfl ?_
    exact at_ret rfl rfl [] ⟨rfl, rfl, rfl⟩ trivial
  refine run 400 rfl ?_
  refine at_met 0 (next24_fn ns j 3 hl (by omega) (by omega)) rfl rfl (fun _ => rfl) fun x1 hx1 => ?_
  obtain ⟨v1, j1⟩ := x1
  unfold nextP at hx1
  dsimp only at hx1
  refine run 400 rfl ?_
  refine at_join (fun y : Int × Int => 0 ≤ y.2 ∧ y.2 ≤ ns.length) (fun y => [(2, I at'), (7, .ptr 0 0), (8, .lst 5 (msgs l)), (9, I i), (10, I y.1)]) (fun y => [(0, tape ns y.2)]) [1, 2, 3, 4, 5, 6, 7, 8, 9] ?_ ?_
  · refine at_ifd rfl (fun h4 => ?_) (fun h4 => ?_)
    · refine run 400 rfl ?_
      refine at_met 0 (next24_fn ns j1 _ hl (by omega) ?_) rfl rfl (fun _ => rfl) fun x2 hx2 => ?_
      · rw [hll]; omega
      obtain ⟨v2, j2⟩ := x2
      unfold nextP at hx2
      dsimp only at hx2
      refine run 400 rfl ?_
      exact at_joined (v2 - 1, j2) (by dsimp only; omega) ⟨SVle.refl _, SVle.refl _, SVle.refl _, SVle.refl _, SVle.refl _, trivial⟩ ⟨rfl, trivial⟩
    · refine run 400 rfl ?_
      exact at_joined (at', j1) (by dsimp only; omega) ⟨SVle.refl _, SVle.refl _, SVle.refl _, SVle.refl _, SVle.refl _, trivial⟩ ⟨rfl, trivial⟩
  rintro ⟨k, j2⟩ hj2
  dsimp only at hj2
  have ht := take_fn l k (by omega)
  have htR := takeR_fn l k (by omega)
  obtain ⟨L, M, B, hL, hLe⟩ := take_out l k a1
  rw [hLe] at ht htR
  refine run 400 rfl ?_
  refine at_fn ht rfl ?_
  refine run 400 rfl ?_
  refine at_fn htR rfl ?_
  refine run 400 rfl ?_
  refine at_fn (same_fn L (by omega)) rfl ?_
  refine run 400 rfl ?_
  refine at_false 69 rfl (by simp [seq]) ?_
  refine run 400 rfl ?_
  refine at_false 73 rfl (by simp) ?_
  refine run 400 rfl ?_
  refine at_met 0 (next24_fn ns j2 3 hl (by omega) (by omega)) rfl rfl (fun _ => rfl) fun x3 hx3 => ?_
  obtain ⟨v3, j3⟩ := x3
  unfold nextP at hx3
  dsimp only at hx3
  refine run 400 rfl ?_
  refine at_join (fun y : List Mg => y.length ≤ 60) (fun y => [(2, I at'), (7, .ptr 0 0), (8, .lst 5 (msgs y)), (9, I i)]) (fun _ => [(0, tape ns j3)]) [1, 2, 3, 4, 5, 6, 7, 8, 9] ?_ ?_
  · refine at_if rfl (fun h4 => ?_) (fun h4 => ?_)
    · refine run 400 rfl ?_
      exact at_joined L hL ⟨SVle.refl _, SVle.refl _, SVle.refl _, SVle.refl _, trivial⟩ ⟨rfl, trivial⟩
    · refine run 400 rfl ?_
      exact at_joined l a1 ⟨SVle.refl _, SVle.refl _, SVle.refl _, SVle.refl _, trivial⟩ ⟨rfl, trivial⟩
  intro l2 hl2
  have hl2l : (msgs l2).length = l2.length := by simp
  refine run 400 rfl ?_
  refine at_met 0 (msg_fn ns j3 hl (by omega)) rfl rfl (fun _ => rfl) fun x4 hx4 => ?_
  obtain ⟨m, j4⟩ := x4
  dsimp only at hx4
  refine run 400 rfl ?_
  refine at_fn (send_fn l2 m (by omega)) rfl ?_
  refine run 400 rfl ?_
  refine at_fn (sendR_fn l2 m) rfl ?_
  refine run 400 rfl ?_
  have h60 := send_60 l2 m hl2
  have hsl := send_len l2 m
  generalize sendF l2 m = l3 at h60 hsl
  refine at_fn (same_fn l3 (by omega)) rfl ?_
  refine run 400 rfl ?_
  refine at_false 100 rfl hsl ?_
  refine run 400 rfl ?_
  exact at_again ⟨l3, i + 1, j4⟩ (by dsimp only; omega) (by dsimp only; omega) ⟨SVle.refl _, SVle.refl _, SVle.refl _, SVle.refl _, trivial⟩ ⟨rfl, trivial⟩

end Go.Proofs.Ytjjjbojkmjgjlaa
