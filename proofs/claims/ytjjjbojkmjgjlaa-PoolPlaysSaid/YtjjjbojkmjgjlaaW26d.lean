import Derived.Test.YtjjjbojkmjgjlaaW26c
import Derived.Test.YtjjjbojkmjgjlaaSee
namespace Go.Proofs.Ytjjjbojkmjgjlaa
open Go Go.Eng

theorem ok_int {n : Nat} {ds : List DV} (h : okT Try.prog n 3 ds) : ∃ m, ds = [.int .i64 m] := by
  cases n with
  | zero => exact h.elim
  | succ n =>
    simp only [okT, Try.underlying3] at h
    obtain ⟨m, rfl, _⟩ := h
    exact ⟨m, rfl⟩
theorem ok_str {n : Nat} {ds : List DV} (h : okT Try.prog n 9 ds) : ∃ m, ds = [.str m] := by
  cases n with
  | zero => exact h.elim
  | succ n =>
    simp only [okT, Try.underlying9] at h
    obtain ⟨m, rfl, _⟩ := h
    exact ⟨m, rfl⟩
theorem ok_bool {n : Nat} {ds : List DV} (h : okT Try.prog n 4 ds) : ∃ m, ds = [.bl m] := by
  cases n with
  | zero => exact h.elim
  | succ n =>
    simp only [okT, Try.underlying4] at h
    exact h
theorem cells3 : Try.prog.cellsOf 3 = 1 := by kernel_rfl
theorem cells4 : Try.prog.cellsOf 4 = 1 := by kernel_rfl
theorem cells9 : Try.prog.cellsOf 9 = 1 := by kernel_rfl
theorem cells41 : Try.prog.cellsOf 41 = 5 := by kernel_rfl

theorem ok_msg {n : Nat} {r : List DV} (h : okT Try.prog n 41 r) : ∃ m : Mg, r = m.row := by
  cases n with
  | zero => exact h.elim
  | succ n =>
    simp only [okT, Try.underlying41, cells41] at h
    obtain ⟨hl, h⟩ := h
    obtain ⟨a, b, c, d, e, rfl⟩ : ∃ a b c d e, r = [a, b, c, d, e] := by
      match r, hl with
      | [a, b, c, d, e], _ => exact ⟨a, b, c, d, e, rfl⟩
    have h0 := h 0 _ rfl
    have h1 := h 1 _ rfl
    have h2 := h 2 _ rfl
    have h3 := h 3 _ rfl
    have h4 := h 4 _ rfl
    simp [cells3, cells4, cells9] at h0 h1 h2 h3 h4
    obtain ⟨x0, e0⟩ := ok_int h0
    obtain ⟨x1, e1⟩ := ok_int h1
    obtain ⟨x2, e2⟩ := ok_str h2
    obtain ⟨x3, e3⟩ := ok_bool h3
    obtain ⟨x4, e4⟩ := ok_str h4
    simp only [List.cons.injEq, and_true] at e0 e1 e2 e3 e4
    exact ⟨⟨x0, x1, x2, x3, x4⟩, by rw [e0, e1, e2, e3, e4]⟩

theorem rows_of {X : Type} {f : X → List DV} {Q : List DV → Prop} (hQ : ∀ r, Q r → ∃ x, r = f x) : ∀ rows : List (List DV), (∀ r ∈ rows, Q r) → ∃ l : List X, rows = l.map f
  | [], _ => ⟨[], rfl⟩
  | r :: rows, h => by
    obtain ⟨x, rfl⟩ := hQ r (h r (by simp))
    obtain ⟨l, rfl⟩ := rows_of hQ rows fun r hr => h r (by simp [hr])
    exact ⟨x :: l, rfl⟩

theorem ok_msgs {n : Nat} {ds : List DV} (h : okT Try.prog n 35 ds) : ∃ l, ds = [.lst 5 (msgs l)] ∧ l.length ≤ maxLen := by
  cases n with
  | zero => exact h.elim
  | succ n =>
    simp only [okT, Try.underlying35, cells41] at h
    obtain ⟨rows, rfl, hm, hr⟩ := h
    obtain ⟨l, rfl⟩ := rows_of (f := Mg.row) (fun r hr => ok_msg hr) rows fun r h => (hr r h).2
    exact ⟨l, rfl, by simpa using hm⟩

theorem ok_ints {n : Nat} {ds : List DV} (h : okT Try.prog n 32 ds) : ∃ l, ds = [.lst 1 (ints l)] ∧ l.length ≤ maxLen := by
  cases n with
  | zero => exact h.elim
  | succ n =>
    simp only [okT, Try.underlying32, cells3] at h
    obtain ⟨rows, rfl, hm, hr⟩ := h
    obtain ⟨l, rfl⟩ := rows_of (f := fun n => [.int .i64 n]) (fun r hr => ok_int hr) rows fun r h => (hr r h).2
    exact ⟨l, rfl, by simpa using hm⟩
end Go.Proofs.Ytjjjbojkmjgjlaa
