import Derived.Test.YtmnmhehddbemkaaW4o
import Derived.Test.YtmnmhehddbemkaaOwn
namespace Go.Proofs.Ytmnmhehddbemkaa
open Go Go.Eng

def numB (v : Int) (n : Nat) : List Int := (List.range n).map fun i => IntKind.u8.wrap (v.fdiv (2 ^ (min (8 * ((n : Int) - 1 - (i : Nat))).toNat IntKind.i64.bits)))

set_option maxRecDepth 100000 in
theorem number_fn (b : List Int) (v : Int) (n : Nat) (hn : n ≤ 100) (hb : b.length ≤ 1000000) : Contract Try.prog 126 1 [(0, .tok 1)] [.gl 0 1 (bytesR b), I v, I n] fun s post => s = .gl 1 1 (bytesR (b ++ numB v n)) ∧ post = [(1, .tok 1)] := by
  have hlenB : (numB v n).length = n := by simp [numB]
  refine contract_of ty_ok [2, 3, 4, 5, 6, 7] Try.func126 rfl (by decide) Try.ntmps126 rfl fun z => ?_
  refine run 400 rfl ?_
  refine at_rename 0 0 1 1 rfl rfl rfl ?_
  refine at_loop (fun i : Nat => i ≤ n) (fun i => [(0, .gl 1 1 (bytesR (b ++ (numB v n).take i))), (1, I v), (2, I n), (8, I n), (9, I i)]) (fun _ => [(1, .tok 1)]) (fun i => n - i) [2, 3, 4, 5, 6, 7]
    0 (by omega) ⟨SVle.of_eq (by show SV.gl 1 1 (bytesR b) = SV.gl 1 1 (bytesR (b ++ (numB v n).take 0)); rw [List.take_zero, List.append_nil]), SVle.refl _, SVle.refl _, SVle.refl _, SVle.refl _, trivial⟩ ⟨rfl, trivial⟩ ?_
  intro i hi
  refine run 400 rfl ?_
  refine at_ifd rfl (fun g => ?_) (fun g => ?_)
  rotate_left
  · have e : i = n := by omega
    subst e
    refine run 400 rfl ?_
    exact at_ret rfl rfl [(1, .tok 1)] ⟨by rw [List.take_of_length_le (by omega)], rfl⟩ ⟨rfl, trivial⟩
  have hlt : i < n := by omega
  have hx : (numB v n)[i]? = some (IntKind.u8.wrap (v.fdiv (2 ^ (min (8 * ((n : Int) - 1 - i)).toNat IntKind.i64.bits)))) := by
    simp [numB, hlt]
  refine run 400 rfl ?_
  refine at_val (.int .i64 (v.fdiv (2 ^ (min (8 * ((n : Int) - 1 - i)).toNat IntKind.i64.bits)))) (does_shr rfl rfl rfl (by omega)) ?_
  refine at_val (.int .u8 (IntKind.u8.wrap (v.fdiv (2 ^ (min (8 * ((n : Int) - 1 - i)).toNat IntKind.i64.bits))))) (does_wrap ty_ok rfl rfl rfl rfl) ?_
  generalize IntKind.u8.wrap (v.fdiv (2 ^ (min (8 * ((n : Int) - 1 - i)).toNat IntKind.i64.bits))) = x at hx
  refine at_gro (.tl 1 [[.int .u8 x]]) (doesG_build ty_ok _ rfl ⟨⟨rfl, rfl, _, rfl, SVles.refl _⟩, trivial⟩ rfl rfl (by decide)) ?_
  have hlen : (bytesR (b ++ (numB v n).take i)).length = b.length + i := by simp; omega
  refine at_grow 1 1 1 (bytesR (b ++ (numB v n).take i) ++ [[.int .u8 x]]) rfl (doesU_append ty_ok rfl rfl rfl rfl rfl rfl rfl (by rw [hlen]; simp; omega) (by rw [hlen]; show _ * 1 ≤ _; simp; omega)) rfl ?_
  refine run 400 rfl ?_
  exact at_again (i + 1) (by omega) (by omega) ⟨SVle.of_eq (by show SV.gl 1 1 (bytesR (b ++ (numB v n).take i) ++ [[.int .u8 x]]) = SV.gl 1 1 (bytesR (b ++ (numB v n).take (i + 1))); rw [List.take_add_one, hx]; simp), SVle.refl _, SVle.refl _, SVle.refl _, SVle.of_eq (by show I ((i : Int) + 1) = I ((i + 1 : Nat) : Int); rw [Int.natCast_add]; rfl), trivial⟩ ⟨rfl, trivial⟩

set_option maxRecDepth 100000 in
theorem puts0_fn (n : Int) : Gives Try.prog 104 [.tl 1 [], (Tm.mk 2 n .empty []).sv] (.lst 1 (bytesR ([2] ++ numB n 4))) := by
  refine contract_of ty_ok [0, 1, 2, 3, 4, 6, 7] Try.func104 rfl (by decide) Try.ntmps104 rfl fun z => ?_
  refine run 400 rfl ?_ (by show (0 : Int) ≤ 2 ∧ (2 : Int) ≤ 255; omega)
  refine at_gro (.tl 1 (bytesR [2])) (doesG_build ty_ok _ rfl ⟨⟨rfl, rfl, _, rfl, SVles.refl _⟩, trivial⟩ rfl rfl (by decide)) ?_
  refine at_new 5 1 (bytesR [2]) (doesT_append (xs := []) ty_ok rfl rfl rfl rfl rfl rfl rfl (by simp) (by show _ * 1 ≤ _; simp)) ?_
  refine run 400 rfl ?_
  refine at_false 15 rfl rfl ?_
  refine run 400 rfl ?_
  refine at_true 25 rfl rfl ?_
  refine run 400 rfl ?_
  refine at_growF 5 5 1 (number_fn [2] n 4 (by omega) (by simp)) rfl rfl rfl ?_
  refine run 400 rfl ?_
  refine at_loop (fun _ : Unit => True) (fun _ => [(0, .gl 5 1 (bytesR ([2] ++ numB n 4))), (33, I 0), (34, I 0)]) (fun _ => [(5, .tok 1)]) (fun _ => 0) [0, 1, 2, 3, 4, 6, 7]
    () trivial ⟨SVle.refl _, SVle.of_eq (by show I (rowsT []).length = I 0; rw [rowsT_nil]; rfl), SVle.refl _, trivial⟩ ⟨rfl, trivial⟩ ?_
  intro _ _
  refine run 400 rfl ?_
  refine at_ifd rfl (fun g => absurd g (by omega)) (fun g => ?_)
  refine at_deg 5 ?_
  refine run 400 rfl ?_
  exact at_ret rfl rfl [] ⟨rfl, rfl, rfl⟩ trivial
end Go.Proofs.Ytmnmhehddbemkaa
