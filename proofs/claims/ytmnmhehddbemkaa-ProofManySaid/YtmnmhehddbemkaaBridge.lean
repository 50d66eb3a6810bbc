/- The proof engine, part 18: from a contract to what the given statements ask. -/
import Derived.Test.YtmnmhehddbemkaaDrawn
import Derived.RowKit3
import Derived.ChangeSlices
import Derived.Carry
namespace Go.Eng
open Go.RowKit

/-- A law that holds, at plain arguments and read-only cells. -/
theorem gives_tt {P : Program} {f : FuncId} {args : List SV} (h : Gives P f args .tt) (g : Nat → Value) (H : Hp) (vs : List Value) (w : World) (hon : H.on w) (hd : Dens g H args vs) :
    Calls P f vs.toArray w fun e w' => e = .returned (.bool true) ∧ Grown w w' := by
  refine (h.2 g H w vs hon (fun k o hk => by simp [ownq] at hk) (fun i j hi => by simp [ownq] at hi) hd).mono fun e w' he => ?_
  cases e with
  | returned v =>
    obtain ⟨g', H', sv, own, ⟨rfl, _, rfl⟩, hv, _, _, _, hb⟩ := he
    have e : v = .bool true := hv
    subst e
    refine ⟨rfl, ⟨hb.os, hb.output, fun i hi => ?_⟩, hb.froz, hb.size⟩
    have hx : ¬ preX g [] i := by
      rintro ⟨k, hk, _⟩
      simp [ownq] at hk
    have e := hb.block i hi hx
    rw [e]
    cases w.heap[i]? with
    | none => rfl
    | some o =>
      cases o with
      | cells c t fr => exact ⟨rfl, rfl, rfl, fun _ _ => rfl⟩
      | map es clock => exact .inr ⟨rfl, rfl⟩
      | _ => rfl
  | _ => exact he.elim

/-- All that the world holds. -/
def Hof (w : World) : Hp := fun b o => w.cell? ⟨b, o, none⟩
theorem Hof_on (w : World) : (Hof w).on w := fun _ _ _ h => h

theorem gives_tt0 {P : Program} {f : FuncId} {args : List SV} (h : Gives P f args .tt) (vs : List Value) (w : World) (hd : Dens (fun _ => undef) (Hof w) args vs) :
    Calls P f vs.toArray w fun e w' => e = .returned (.bool true) ∧ Below w.heap.size w w' := by
  refine (h.2 _ _ w vs (Hof_on w) (fun k o hk => by simp [ownq] at hk) (fun i j hi => by simp [ownq] at hi) hd).mono fun e w' he => ?_
  cases e with
  | returned v =>
    obtain ⟨g', H', sv, own, ⟨rfl, _, rfl⟩, hv, _, _, _, hb⟩ := he
    have e : v = .bool true := hv
    subst e
    refine ⟨rfl, hb.os, hb.tape, hb.output, hb.size, fun i hi => hb.block i hi ?_⟩
    rintro ⟨k, hk, _⟩
    simp [ownq] at hk
  | _ => exact he.elim

/-- Integers, as they are read. -/
theorem den_ints {w : World} {a : Addr} {len cap : Nat} {k : IntKind} (zs : List Int) (hl : len ≤ cap) (hz : zs.length = cap) (hc : ∀ i, i < zs.length → w.cell? (a.add i) = some (.int k (zs.getD i 0))) :
    DenD (Hof w) (.lst 1 ((zs.take len).map fun n => [.int k n])) (.slice (some a) len cap) := by
  have hlen : ((zs.take len).map fun n => [DV.int k n]).length = len := by simp; omega
  have cells : ∀ (l : List Int) (b off : Nat), (∀ i, i < l.length → w.cell? ⟨b, off + i, none⟩ = some (.int k (l.getD i 0))) → DenRs (Hof w) b off 1 (l.map fun n => [DV.int k n]) := by
    intro l
    induction l with
    | nil => intro b off _; trivial
    | cons n l ih =>
      intro b off h
      refine ⟨⟨[.int k n], ⟨rfl, trivial⟩, rfl, fun j v hj => ?_⟩, ih b (off + 1) fun i hi => ?_⟩
      · cases j with
        | zero =>
          have := h 0 (by simp)
          simp only [List.getElem?_cons_zero, Option.some.injEq] at hj
          subst hj
          exact this
        | succ j => simp at hj
      · have := h (i + 1) (by simp; omega)
        rw [show off + 1 + i = off + (i + 1) from by omega]
        simpa using this
  refine ⟨some a, cap, by rw [hlen], by rw [hlen]; exact hl, fun e => (by cases e), fun p hp => ?_⟩
  simp only [Option.some.injEq] at hp
  subst hp
  by_cases h0 : len = 0
  · subst h0
    exact ⟨.inl (by simp), by simp [DenRs]⟩
  · have hs : a.spot = none := by
      have := hc 0 (by omega)
      have := World.cell?_spot this
      simpa [Addr.add] using this
    obtain ⟨b, off, spot⟩ := a
    simp only at hs
    subst hs
    refine ⟨.inr rfl, cells _ b off fun i hi => ?_⟩
    have hi' : i < len := by simp at hi; omega
    have := hc i (by omega)
    rw [addr_add] at this
    rw [this]
    simp [List.getD_eq_getElem?_getD, hi']
end Go.Eng
