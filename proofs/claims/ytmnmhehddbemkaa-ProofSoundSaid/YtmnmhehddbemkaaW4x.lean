import Derived.Test.YtmnmhehddbemkaaW4s
namespace Go.Proofs.Ytmnmhehddbemkaa
open Go Go.Eng

theorem ok_int {n : Nat} {ds : List DV} (h : okT Try.prog n 3 ds) : ∃ m, ds = [.int .i64 m] := by
  cases n with
  | zero => exact h.elim
  | succ n =>
    simp only [okT, Try.underlying3] at h
    obtain ⟨m, rfl, _⟩ := h
    exact ⟨m, rfl⟩
theorem cells3 : Try.prog.cellsOf 3 = 1 := by kernel_rfl
theorem rows_of {X : Type} {f : X → List DV} {Q : List DV → Prop} (hQ : ∀ r, Q r → ∃ x, r = f x) : ∀ rows : List (List DV), (∀ r ∈ rows, Q r) → ∃ l : List X, rows = l.map f
  | [], _ => ⟨[], rfl⟩
  | r :: rows, h => by
    obtain ⟨x, rfl⟩ := hQ r (h r (by simp))
    obtain ⟨l, rfl⟩ := rows_of hQ rows fun r hr => h r (by simp [hr])
    exact ⟨x :: l, rfl⟩
theorem ok_ints {n : Nat} {ds : List DV} (h : okT Try.prog n 22 ds) : ∃ l, ds = [.lst 1 (ints l)] ∧ l.length ≤ maxLen := by
  cases n with
  | zero => exact h.elim
  | succ n =>
    simp only [okT, Try.underlying22, cells3] at h
    obtain ⟨rows, rfl, hm, hr⟩ := h
    obtain ⟨l, rfl⟩ := rows_of (f := fun n => [.int .i64 n]) (fun r hr => ok_int hr) rows fun r h => (hr r h).2
    exact ⟨l, rfl, by simpa using hm⟩
end Go.Proofs.Ytmnmhehddbemkaa
