/- The proof engine, part 18: from a contract to what the given statements ask. -/
import Derived.Test.YtjjjbojkmjgjlaaDrawn
import Derived.RowKit3
namespace Go.Eng
open Go.RowKit

/-- A law that holds, at plain arguments and read-only cells. -/
theorem gives_tt {P : Program} {f : FuncId} {args : List SV} (h : Gives P f args .tt) (g : Nat → Value) (H : Hp) (vs : List Value) (w : World) (hon : H.on w) (hd : Dens g H args vs) :
    Calls P f vs.toArray w fun e w' => e = .returned (.bool true) ∧ Grown w w' := by
  refine (h.2 g H w vs hon (fun k o hk => by simp [ownq] at hk) (fun i j hi => by simp [ownq] at hi) hd).mono fun e w' he => ?_
  cases e with
  | returned v =>
    obtain ⟨g', H', sv, own, ⟨rfl, _, rfl⟩, hv, _, _, _, hb⟩ := he
    have e : v = .bool true := hv
    subst e
    refine ⟨rfl, ⟨hb.os, hb.output, fun i hi => ?_⟩, hb.froz, hb.size⟩
    have hx : ¬ preX g [] i := by
      rintro ⟨k, hk, _⟩
      simp [ownq] at hk
    have e := hb.block i hi hx
    rw [e]
    cases w.heap[i]? with
    | none => rfl
    | some o =>
      cases o with
      | cells c t fr => exact ⟨rfl, rfl, rfl, fun _ _ => rfl⟩
      | map es clock => exact .inr ⟨rfl, rfl⟩
      | _ => rfl
  | _ => exact he.elim

end Go.Eng
