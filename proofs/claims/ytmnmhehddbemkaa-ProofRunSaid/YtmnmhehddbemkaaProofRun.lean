/- The statement ProofRun, from the walk of PrfC8: for every input it answers true, and what it was given reads as it did. -/
import Derived.Test.YtmnmhehddbemkaaRows
import Derived.WalkKit
import Derived.ProofKit
import Derived.OpenShut
import Derived.Test.YtmnmhehddbemkaaPrfC8
namespace Go.Proofs.Ytmnmhehddbemkaa.proofRun
open Go.ChangeShapes Go.WideShapes Go.ChangeAt Go.RowKit

theorem own : ownKnob Try.prog.godebug = none := by kernel_rfl
theorem laidOut : laidOutB Try.prog = true := by kernel_rfl
theorem plain : Go.Eng.plainT Try.prog [3,9,22,26,37] = true := by kernel_rfl

set_option maxRecDepth 100000 in
theorem lifted (os : Os) (started : os.Started) (H : Type) (enc : TypeId × Value → H) :
    ReturnsInHanded {} Try.checked os 5 .any (Rows.proofRunSpec.pre6 enc Try.prog Try.f5 Rows.proofRunRow.domain false) (Rows.proofRunSpec.post enc Try.prog Try.f5 false true false false) := by
  refine returnsInHanded_of_change (C := Try.checked) own started (by kernel_rfl) Try.func5
    (ChangeSpec.witness6 (enc := enc) (C := Try.checked) false ⟨#[], #[.slice none 0 0, .slice none 0 0, .slice none 0 0, .slice none 0 0], []⟩ 8 (by kernel_rfl) (by kernel_rfl) (by kernel_rfl) (by kernel_rfl)) ?_
  intro W base args ds gs before hval0 hW hcnd _
  have hval : ∀ (j : Nat) t v, Try.f5.params[j]? = some t → args[j]? = some v → Value.okWide Try.prog W .any base t v := hval0
  have hW' := hW
  obtain ⟨p, q, hA0, hV, rfl, _, _⟩ := hW
  have hA : DataW.TrodAll enc Try.prog W 0 (fun _ => true) true Try.f5.params.toList args.toList ds p := hA0
  rw [Try.params5] at hA hval
  obtain ⟨rfl, rfl⟩ := trodVars_none hV
  have hA1 := hA
  obtain ⟨v0, vs0, d0, ds0, p0, q0, hargs, rfl, hp, h0, r0⟩ := trodAll_cons hA1
  obtain ⟨v1, vs1, d1, ds1, p1, q1, rfl, rfl, hp1, h1, r1⟩ := trodAll_cons r0
  obtain ⟨v2, vs2, d2, ds2, p2, q2, rfl, rfl, hp2, h2, r2⟩ := trodAll_cons r1
  obtain ⟨v3, vs3, d3, ds3, p3, q3, rfl, rfl, hp3, h3, r3⟩ := trodAll_cons r2
  obtain ⟨rfl, rfl, hpn⟩ := trodAll_nil r3
  obtain rfl : args = #[v0, v1, v2, v3] := by cases args; simp_all
  have hlt : ∀ x ∈ p, x.block < W.heap.size := fun x hx => hW'.lt x (by simp [hx])
  have fin : ∀ (W' : World), Below W.heap.size W W' → Rows.proofRunSpec.post enc Try.prog Try.f5 false true false false W #[v0, v1, v2, v3] (.bool true) W' := fun W' hb =>
    ⟨_, _, _, [], _, [], hW', trodAll_cons_mk (shut_bool Try.underlying4 _) trodAll_mk0, Go.Eng.below_trodAll laidOut hb (by kernel_rfl) hA hlt, rfl, hb.frame _, fun h => by cases h⟩
  have walk : Calls Try.prog 5 #[v0, v1, v2, v3] W fun e w' => e = .returned (.bool true) ∧ Below W.heap.size W w' := by
    obtain ⟨ds0, hd0, n0, ho0⟩ := Go.Eng.see_arg plain (t := 22) (by decide) h0
    obtain ⟨s0, len0, cap0, rfl⟩ := okWide_slice Try.underlying22 (hval 0 22 v0 rfl rfl)
    obtain ⟨l0, rfl, b0⟩ := ok_ints ho0
    obtain ⟨ds1, hd1, n1, ho1⟩ := Go.Eng.see_arg plain (t := 22) (by decide) h1
    obtain ⟨s1, len1, cap1, rfl⟩ := okWide_slice Try.underlying22 (hval 1 22 v1 rfl rfl)
    obtain ⟨l1, rfl, b1⟩ := ok_ints ho1
    obtain ⟨ds2, hd2, n2, ho2⟩ := Go.Eng.see_arg plain (t := 26) (by decide) h2
    obtain ⟨s2, len2, cap2, rfl⟩ := okWide_slice Try.underlying26 (hval 2 26 v2 rfl rfl)
    obtain ⟨l2, rfl, b2⟩ := ok_moves ho2
    obtain ⟨ds3, hd3, n3, ho3⟩ := Go.Eng.see_arg plain (t := 22) (by decide) h3
    obtain ⟨s3, len3, cap3, rfl⟩ := okWide_slice Try.underlying22 (hval 3 22 v3 rfl rfl)
    obtain ⟨l3, rfl, b3⟩ := ok_ints ho3
    exact Go.Eng.gives_tt0 (proofRun_fn l0 l1 l2 l3 (by simp only [maxLen] at b0; omega) (by simp only [maxLen] at b1; omega) (by simp only [maxLen] at b3; omega)) _ W ⟨hd0.1, hd1.1, hd2.1, hd3.1, trivial⟩
  refine walk.mono fun e W' ⟨he, hb⟩ => ?_
  subst he
  exact ⟨_, rfl, fin W' hb⟩

theorem over : Rows.proofRunRow.holds Try.pinned (OpenSpec.ofChange Rows.proofRunSpec) :=
  OpenClaim.holds_of_wide 5 Try.f5 rfl rfl rfl rfl rfl rfl rfl ⟨rfl, rfl, rfl, rfl, rfl⟩ rfl rfl rfl rfl rfl (by kernel_rfl) Try.func5 (by kernel_rfl)
    (of_decide_eq_true (by kernel_rfl)) (by unfold Func.isWrapper; first | (rw [if_pos (by decide +kernel)]; kernel_rfl) | (rw [if_neg (by decide +kernel)]; exact ⟨rfl, rfl⟩))
    (fun os started H enc _ => lifted os started H enc)

theorem proved : Rows.ProofRunSaid := over
#print axioms proved
end Go.Proofs.Ytmnmhehddbemkaa.proofRun
