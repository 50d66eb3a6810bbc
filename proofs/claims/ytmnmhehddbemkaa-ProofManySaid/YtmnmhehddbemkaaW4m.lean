import Derived.Test.YtmnmhehddbemkaaW4l
namespace Go.Proofs.Ytmnmhehddbemkaa
open Go Go.Eng

theorem flat_len : ∀ l : List Tm, (flatU (rowsT l)).length = l.length * 4
  | [] => by rw [rowsT_nil]; rfl
  | t :: l => by
    have := flat_len l
    rw [rowsT_cons]
    unfold flatU at this ⊢
    rw [List.flatten_cons, List.map_append, List.length_append, this, List.length_cons]
    show 4 + _ = _
    omega
theorem flat_app (a b : List Tm) : flatU (rowsT (a ++ b)) = flatU (rowsT a) ++ flatU (rowsT b) := by
  unfold flatU
  rw [rowsT_app, List.flatten_append, List.map_append]
theorem flat_one (t : Tm) : flatU (rowsT [t]) = [I t.k, I t.n, .str t.s, .lst 4 (rowsT t.kids)] := by
  rw [rowsT_cons, rowsT_nil]
  rfl
theorem splice_fill (new a : List SV) (m : Nat) : splice new a.length (a ++ List.replicate (m + new.length) .any) = a ++ new ++ List.replicate m .any := by
  unfold splice
  rw [List.take_left, ← List.drop_drop, List.drop_left, List.drop_replicate, Nat.add_sub_cancel]

theorem noK_up (k : Nat) : ∀ d : DV, (up d).noK k = true
  | .int _ _ => rfl
  | .bl _ => rfl
  | .str _ => rfl
  | .val _ => rfl
  | .lst _ _ => rfl
theorem noKs_flat (k : Nat) : ∀ l : List DV, SV.noKs k (l.map up) = true
  | [] => rfl
  | d :: l => by simp [SV.noKs, noK_up, noKs_flat k l]
theorem noKs_app (k : Nat) : ∀ a b : List SV, SV.noKs k a = true → SV.noKs k b = true → SV.noKs k (a ++ b) = true
  | [], b, _, h => h
  | x :: a, b, h1, h2 => by
    simp only [SV.noKs] at h1
    cases hx : x.noK k with
    | false => simp [hx] at h1
    | true =>
      simp only [hx, cond_true] at h1
      simp only [List.cons_append, SV.noKs, hx, cond_true]
      exact noKs_app k a b h1 h2
theorem noKs_half (k : Nat) (rows : List (List DV)) (m : Nat) : SV.noKs k (flatU rows ++ List.replicate m .any) = true := noKs_app k _ _ (noKs_flat k _) (noKs_anys k m)

abbrev half (l : List Tm) (i : Nat) : List SV := flatU (rowsT (l.take i)) ++ List.replicate ((l.length - i) * 4) .any

theorem half_step {l : List Tm} {i : Nat} {u : Tm} (h : l[i]? = some u) : splice [I u.k, I u.n, .str u.s, .lst 4 (rowsT u.kids)] (i * 4) (half l i) = half l (i + 1) := by
  have hlt : i < l.length := (List.getElem?_eq_some_iff.1 h).1
  have hlen : (flatU (rowsT (l.take i))).length = i * 4 := by rw [flat_len, List.length_take, Nat.min_eq_left (by omega)]
  unfold half
  rw [← hlen, show (l.length - i) * 4 = (l.length - (i + 1)) * 4 + [I u.k, I u.n, SV.str u.s, SV.lst 4 (rowsT u.kids)].length from by show _ = _ + 4; omega, splice_fill, List.take_add_one, h]
  show _ = flatU (rowsT (l.take i ++ [u])) ++ _
  rw [flat_app, flat_one]

set_option maxRecDepth 100000 in
theorem ownL_fn (l : List Tm) (hl : l.length ≤ 1000000) (h : ∀ t : Tm, t ∈ l → Gives Try.prog 102 [t.sv] t.sv) : Gives Try.prog 80 [.lst 4 (rowsT l)] (.tl 4 (rowsT l)) := by
  have hlen : (rowsT l).length = l.length := rowsT_len l
  refine contract_of ty_ok [0, 1, 2, 3, 4, 6, 7] Try.func80 rfl (by decide) Try.ntmps80 rfl fun z => ?_
  refine run 400 rfl ?_
  refine at_make 5 4 ty_ok rfl rfl rfl (by omega) (show ((56 : Nat) : Int) * ((rowsT l).length : Int) ≤ 281474976710656 by omega) (by omega) ?_
  refine run 400 rfl ?_
  refine at_loop (fun i : Nat => i ≤ l.length) (fun i => [(3, .arr 5 (rowsT l).length), (9, .lst 4 (rowsT l)), (10, I (rowsT l).length), (11, I i)]) (fun i => [(5, .cells 33 (half l i))]) (fun i => l.length - i) [0, 1, 2, 3, 4, 6, 7]
    0 (by omega) ⟨SVle.refl _, SVle.refl _, SVle.refl _, SVle.refl _, trivial⟩ ⟨?_, trivial⟩ ?_
  · show some (SO.cells 33 (List.replicate (((rowsT l).length : Int).toNat * 4) .any)) = some (SO.cells 33 (half l 0))
    unfold half
    rw [List.take_zero, rowsT_nil, hlen]
    rfl
  intro i hi
  refine run 400 rfl ?_
  refine at_ifd rfl (fun g => ?_) (fun g => ?_)
  rotate_left
  · have e : i = l.length := by omega
    subst e
    refine run 400 rfl ?_
    refine at_publish 5 4 (rowsT l) (by show some (SO.cells 33 (half l l.length)) = _; unfold half; rw [List.take_length, Nat.sub_self, Nat.zero_mul, List.replicate_zero, List.append_nil]) (fun r hr => by rw [rowsT_map] at hr; obtain ⟨t, _, rfl⟩ := List.mem_map.1 hr; exact row_len t) (own2 := []) (fun j o h => by simp [ownq] at h) (by repeat' (first | exact trivial | refine ⟨rfl, ?_⟩)) ?_
    exact at_ret rfl rfl [] ⟨rfl, rfl, rfl⟩ trivial
  have hlt : i < l.length := by omega
  have hget := rowsT_get hlt
  have hmem := getD_mem hlt
  have hgetD : l[i]? = some (l.getD i .zero) := by rw [List.getD_eq_getElem?_getD, List.getElem?_eq_getElem hlt]; rfl
  generalize l.getD i .zero = u at hget hmem hgetD
  refine run 400 rfl ?_
  refine at_val (.rp (tr u) 0) (does_index ty_ok _ rfl rfl rfl (by omega) (show (rowsT l)[(i : Int).toNat]? = some (tr u) from hget) rfl) ?_
  refine run 1 rfl ?_
  refine at_alloc ty_ok 0 _ rfl rfl (by simp only [freshO, noKs_half]; rfl) ?_
  refine run 400 rfl ?_
  refine at_fn (h u hmem) rfl ?_
  refine run 400 rfl ?_
  refine at_val (.ptr 5 ((i : Int).toNat * 4)) (does_indexArr ty_ok rfl rfl rfl ⟨by omega, by rw [hlen]; omega⟩ rfl) ?_
  refine at_store ty_ok (half l (i + 1)) rfl rfl rfl rfl rfl rfl (by unfold half; rw [List.length_append, flat_len, List.length_replicate, List.length_take]; show i * 4 + 4 ≤ _; omega) (half_step hgetD) rfl ?_
  refine run 400 rfl ?_
  exact at_again (i + 1) (by omega) (by omega) ⟨SVle.refl _, SVle.refl _, SVle.refl _, SVle.of_eq (by show I ((i : Int) + 1) = I ((i + 1 : Nat) : Int); rw [Int.natCast_add]; rfl), trivial⟩ ⟨rfl, trivial⟩

theorem own_fn (t : Tm) (h : Sm t) : Gives Try.prog 102 [t.sv] t.sv := by
  induction t using Tm.ind with
  | h k n s l ih =>
    cases h with
    | mk h1 h2 =>
      have hL := ownL_fn l h1 fun t ht => ih t ht (h2 t ht)
      have : Gives Try.prog 102 [(Tm.mk k n s l).sv] (.agg [I k, I n, .str s, .tl 4 (rowsT l)]) := by
        refine contract_of ty_ok [0, 1, 2, 3, 4, 5, 6, 7] Try.func102 rfl (by decide) Try.ntmps102 rfl fun z => ?_
        refine run 400 rfl ?_
        refine at_fn hL rfl ?_
        refine run 400 rfl ?_
        exact at_ret rfl rfl [] ⟨rfl, rfl, rfl⟩ trivial
      exact this.le (SVle.agg ⟨SVle.refl _, SVle.refl _, SVle.refl _, SVle.tl _ _, trivial⟩)
theorem owns_fn (l : List Tm) (hl : l.length ≤ 1000000) (h : ∀ t ∈ l, Sm t) : Gives Try.prog 80 [.lst 4 (rowsT l)] (.tl 4 (rowsT l)) :=
  ownL_fn l hl fun t ht => own_fn t (h t ht)
end Go.Proofs.Ytmnmhehddbemkaa
