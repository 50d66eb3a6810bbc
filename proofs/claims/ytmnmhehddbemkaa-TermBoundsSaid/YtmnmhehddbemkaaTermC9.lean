/- The texts W6j, Mkz, W6k, W6l, X2, one behind the other: an executor over the translated code, contracts of functions, and their laws. -/

import Derived.Test.YtmnmhehddbemkaaTermC8
namespace Go.Proofs.Ytmnmhehddbemkaa
open Go Go.Eng
set_option maxRecDepth 100000

theorem getD_eq {l : List Tm} {i : Nat} (h : i < l.length) : l[i]? = some (l.getD i .zero) := by
  rw [List.getD_eq_getElem?_getD, List.getElem?_eq_getElem h]; rfl

theorem one_of (u v : Tm) : (if ordT u v < 0 then (1 : Int) else 0) + (if ordT v u < 0 then 1 else 0) + (if same u v then 1 else 0) = 1 := by
  rcases totT.tri u v with h | h | h
  · have h2 := ord_anti u v
    have hs : ¬ same u v = true := fun q => by rw [same_iff.1 q, ord_irr] at h; omega
    rw [if_pos h, if_neg (by omega), if_neg hs]; rfl
  · subst h
    rw [ord_irr, if_neg (by omega), if_pos (same_iff.2 rfl)]; rfl
  · have h : ordT v u < 0 := h
    have h2 := ord_anti u v
    have hs : ¬ same u v = true := fun q => by rw [same_iff.1 q, ord_irr] at h; omega
    rw [if_neg (by omega), if_pos h, if_neg hs]; rfl

theorem termOrder_fn (ns ms ks : List Int) (h1 : ns.length ≤ 9223372036854775807) (h2 : ms.length ≤ 9223372036854775807) (h3 : ks.length ≤ 9223372036854775807) : Gives Try.prog 13 [.lst 1 (ints ns), .lst 1 (ints ms), .lst 1 (ints ks)] .tt := by
  have hT := termsG_fn ns 2 h1 (by omega)
  have hgl := genL_gd ns 2 0 (by omega)
  have hll := genL_len ns 2 0
  have hA := oneT_fn ms h2
  have hB := oneT_fn ks h3
  have ga := (genT_gd ms 4 0 (by omega)).1.sm
  have gb := (genT_gd ks 4 0 (by omega)).1.sm
  have hsm : ∀ t ∈ genL ns 2 0, Sm t := fun t ht => (hgl.1 t ht).sm
  generalize genL ns 2 0 = l0 at hT hsm hll
  generalize (genT ms 4 0).1 = a at hA ga
  generalize (genT ks 4 0).1 = b at hB gb
  have hl0 := rowsT_len l0
  refine contract_of ty_ok [0, 1, 2, 3, 4, 5, 6, 7] Try.func13 rfl (by decide) Try.ntmps13 rfl fun z => ?_
  refine run 400 rfl ?_
  refine at_fn known37_fn rfl ?_
  refine run 400 rfl ?_
  refine at_callF [0] hT rfl trivial rfl rfl rfl ?_
  refine run 400 rfl ?_
  refine at_fn hA rfl ?_
  refine run 400 rfl ?_
  refine at_fn hB rfl ?_
  refine at_gro (.tl 4 [tr a, tr b]) (doesG_build ty_ok _ rfl ⟨⟨rfl, rfl, _, rfl, SVles.refl _⟩, ⟨rfl, rfl, _, rfl, SVles.refl _⟩, trivial⟩ rfl rfl (by decide)) ?_
  refine run 400 rfl ?_
  refine at_grow 0 0 4 (rowsT l0 ++ [tr a, tr b]) rfl (doesU_append ty_ok rfl rfl rfl rfl rfl rfl rfl (by simp; omega) (by show _ * 56 ≤ _; simp; omega)) rfl ?_
  refine at_deg 0 ?_
  rw [show rowsT l0 ++ [tr a, tr b] = rowsT (l0 ++ [a, b]) by rw [rowsT_app, rowsT_cons, rowsT_cons, rowsT_nil]]
  have hsm : ∀ t ∈ l0 ++ [a, b], Sm t := fun t ht => by
    rcases List.mem_append.1 ht with h | h
    · exact hsm t h
    · simp at h; rcases h with rfl | rfl; exact ga; exact gb
  have hlen : (l0 ++ [a, b]).length ≤ 10 := by simp; omega
  generalize l0 ++ [a, b] = l at hsm hlen
  have hrl := rowsT_len l
  refine run 400 rfl ?_
  refine at_loop (fun i : Nat => i ≤ l.length) (fun i => [(7, .lst 4 (rowsT l)), (8, I i)]) (fun _ => []) (fun i => l.length - i) [0, 1, 2, 3, 4, 5, 6, 7]
    0 (by omega) ⟨SVle.refl _, SVle.refl _, trivial⟩ trivial ?_
  intro i hi
  refine run 400 rfl ?_
  refine at_ifd rfl (fun g => ?_) (fun g => ?_)
  rotate_left
  · refine run 400 rfl ?_
    exact at_ret rfl rfl [] ⟨rfl, rfl, rfl⟩ trivial
  rw [hrl] at g
  have hlt : i < l.length := by omega
  have hget := rowsT_get hlt
  have hmu := hsm _ (getD_mem hlt)
  generalize l.getD i .zero = u at hget hmu
  have hgi : (rowsT l)[(i : Int).toNat]? = some (tr u) := hget
  refine run 400 rfl ?_
  refine at_loop (fun k : Nat => k ≤ l.length) (fun k => [(7, .lst 4 (rowsT l)), (8, I i), (9, I k)]) (fun _ => []) (fun k => l.length - k) [0, 1, 2, 3, 4, 5, 6, 7]
    0 (by omega) ⟨SVle.refl _, SVle.refl _, SVle.refl _, trivial⟩ trivial ?_
  intro k hk
  refine run 400 rfl ?_
  refine at_ifd rfl (fun g2 => ?_) (fun g2 => ?_)
  rotate_left
  · refine run 400 rfl ?_
    exact at_again (i + 1) (by omega) (by omega) ⟨SVle.refl _, SVle.of_eq (by show I ((i : Int) + 1) = I ((i + 1 : Nat) : Int); rw [Int.natCast_add]; rfl), trivial⟩ trivial
  rw [hrl] at g2
  have hlt2 : k < l.length := by omega
  have hget2 := rowsT_get hlt2
  have hmv := hsm _ (getD_mem hlt2)
  generalize l.getD k .zero = v at hget2 hmv
  have hgk : (rowsT l)[(k : Int).toNat]? = some (tr v) := hget2
  refine run 400 rfl ?_
  have h1 := one_of u v
  refine at_drawn 9 rfl rfl [(2, .val (.rp (tr u) 0)), (6, .val (.rp (tr v) 0)), (8, .sv (.bl (decide (ordT u v < 0))))] [20, 21, 22] rfl
    ⟨tless_fn u v hmu, does_index ty_ok _ rfl rfl rfl (by omega) hgk rfl, does_index ty_ok _ rfl rfl rfl (by omega) hgi rfl⟩ ?_
  refine run 400 rfl ?_
  refine at_join (fun n : Int => n = if ordT u v < 0 then 1 else 0) (fun n => [(7, .lst 4 (rowsT l)), (8, I i), (9, I k), (10, I n)]) (fun _ => []) [0, 1, 2, 3, 4, 5, 6, 7] ?_ ?_
  · refine at_ifd rfl (fun q => ?_) (fun q => ?_)
    · refine run 400 rfl ?_
      exact at_joined 1 (if_pos q).symm ⟨SVle.refl _, SVle.refl _, SVle.refl _, SVle.refl _, trivial⟩ trivial
    · refine run 400 rfl ?_
      exact at_joined 0 (if_neg q).symm ⟨SVle.refl _, SVle.refl _, SVle.refl _, SVle.refl _, trivial⟩ trivial
  intro n1 hn1
  have hb1 : 0 ≤ n1 ∧ n1 ≤ 1 := by rw [hn1]; split <;> omega
  refine run 400 rfl ?_
  refine at_drawn 9 rfl rfl [(2, .val (.rp (tr v) 0)), (6, .val (.rp (tr u) 0)), (8, .sv (.bl (decide (ordT v u < 0))))] [20, 21, 22] rfl
    ⟨tless_fn v u hmv, does_index ty_ok _ rfl rfl rfl (by omega) hgi rfl, does_index ty_ok _ rfl rfl rfl (by omega) hgk rfl⟩ ?_
  refine run 400 rfl ?_
  refine at_join (fun n : Int => n = n1 + if ordT v u < 0 then 1 else 0) (fun n => [(7, .lst 4 (rowsT l)), (8, I i), (9, I k), (10, I n)]) (fun _ => []) [0, 1, 2, 3, 4, 5, 6, 7] ?_ ?_
  · refine at_ifd rfl (fun q => ?_) (fun q => ?_)
    · refine run 400 rfl ?_
      exact at_joined (n1 + 1) (by rw [if_pos q]) ⟨SVle.refl _, SVle.refl _, SVle.refl _, SVle.refl _, trivial⟩ trivial
    · refine run 400 rfl ?_
      exact at_joined n1 (by rw [if_neg q]; omega) ⟨SVle.refl _, SVle.refl _, SVle.refl _, SVle.refl _, trivial⟩ trivial
  intro n2 hn2
  have hb2 : 0 ≤ n2 ∧ n2 ≤ 2 := by rw [hn2]; split <;> omega
  refine run 400 rfl ?_
  refine at_drawn 9 rfl rfl [(2, .val (.rp (tr u) 0)), (6, .val (.rp (tr v) 0)), (8, .sv (.bl (same u v)))] [20, 21, 22] rfl
    ⟨tsame_fn u v hmu, does_index ty_ok _ rfl rfl rfl (by omega) hgk rfl, does_index ty_ok _ rfl rfl rfl (by omega) hgi rfl⟩ ?_
  refine run 400 rfl ?_
  refine at_join (fun n : Int => n = n2 + if same u v then 1 else 0) (fun n => [(7, .lst 4 (rowsT l)), (8, I i), (9, I k), (10, I n)]) (fun _ => []) [0, 1, 2, 3, 4, 5, 6, 7] ?_ ?_
  · refine at_if rfl (fun q => ?_) (fun q => ?_)
    · refine run 400 rfl ?_
      exact at_joined (n2 + 1) (by rw [if_pos q]) ⟨SVle.refl _, SVle.refl _, SVle.refl _, SVle.refl _, trivial⟩ trivial
    · refine run 400 rfl ?_
      exact at_joined n2 (by rw [if_neg (by simp [q])]; omega) ⟨SVle.refl _, SVle.refl _, SVle.refl _, SVle.refl _, trivial⟩ trivial
  intro n3 hn3
  obtain rfl : n3 = 1 := by rw [hn3, hn2, hn1]; exact h1
  refine run 400 rfl ?_
  refine at_if rfl (fun q => by simp at q) (fun _ => ?_)
  refine run 400 rfl ?_
  refine at_loop (fun j : Nat => j ≤ l.length) (fun j => [(7, .lst 4 (rowsT l)), (8, I i), (9, I k), (11, I j)]) (fun _ => []) (fun j => l.length - j) [0, 1, 2, 3, 4, 5, 6, 7]
    0 (by omega) ⟨SVle.refl _, SVle.refl _, SVle.refl _, SVle.refl _, trivial⟩ trivial ?_
  intro j hj
  refine run 400 rfl ?_
  refine at_ifd rfl (fun g3 => ?_) (fun g3 => ?_)
  rotate_left
  · refine run 400 rfl ?_
    exact at_again (k + 1) (by omega) (by omega) ⟨SVle.refl _, SVle.refl _, SVle.of_eq (by show I ((k : Int) + 1) = I ((k + 1 : Nat) : Int); rw [Int.natCast_add]; rfl), trivial⟩ trivial
  rw [hrl] at g3
  have hlt3 : j < l.length := by omega
  have hget3 := rowsT_get hlt3
  generalize l.getD j .zero = w at hget3
  have hgj : (rowsT l)[(j : Int).toNat]? = some (tr w) := hget3
  have hstep : ∀ (o : List (Nat × SV)) , True := fun _ => trivial
  refine run 400 rfl ?_
  by_cases q1 : ordT u v < 0
  · by_cases q2 : ordT v w < 0
    · refine at_drawn 32 rfl rfl [(2, .val (.rp (tr u) 0)), (6, .val (.rp (tr v) 0)), (8, .sv .tt), (12, .val (.rp (tr v) 0)), (16, .val (.rp (tr w) 0)), (18, .sv .tt), (23, .val (.rp (tr u) 0)), (27, .val (.rp (tr w) 0)), (29, .sv .tt)] [20, 21, 22] rfl
        ⟨gives_is (c := true) (tless_fn u w hmu) (by simp [ord_trans q1 q2]), does_index ty_ok _ rfl rfl rfl (by omega) hgj rfl, does_index ty_ok _ rfl rfl rfl (by omega) hgi rfl, gives_is (c := true) (tless_fn v w hmv) (by simp [q2]), does_index ty_ok _ rfl rfl rfl (by omega) hgj rfl, does_index ty_ok _ rfl rfl rfl (by omega) hgk rfl, gives_is (c := true) (tless_fn u v hmu) (by simp [q1]), does_index ty_ok _ rfl rfl rfl (by omega) hgk rfl, does_index ty_ok _ rfl rfl rfl (by omega) hgi rfl⟩ ?_
      refine run 400 rfl ?_
      exact at_again (j + 1) (by omega) (by omega) ⟨SVle.refl _, SVle.refl _, SVle.refl _, SVle.of_eq (by show I ((j : Int) + 1) = I ((j + 1 : Nat) : Int); rw [Int.natCast_add]; rfl), trivial⟩ trivial
    · refine at_drawn 32 rfl rfl [(2, .val (.rp (tr u) 0)), (6, .val (.rp (tr v) 0)), (8, .sv .tt), (12, .val (.rp (tr v) 0)), (16, .val (.rp (tr w) 0)), (18, .sv .ff)] [20, 21, 22] rfl
        ⟨gives_is (c := false) (tless_fn v w hmv) (by simp [q2]), does_index ty_ok _ rfl rfl rfl (by omega) hgj rfl, does_index ty_ok _ rfl rfl rfl (by omega) hgk rfl, gives_is (c := true) (tless_fn u v hmu) (by simp [q1]), does_index ty_ok _ rfl rfl rfl (by omega) hgk rfl, does_index ty_ok _ rfl rfl rfl (by omega) hgi rfl⟩ ?_
      refine run 400 rfl ?_
      exact at_again (j + 1) (by omega) (by omega) ⟨SVle.refl _, SVle.refl _, SVle.refl _, SVle.of_eq (by show I ((j : Int) + 1) = I ((j + 1 : Nat) : Int); rw [Int.natCast_add]; rfl), trivial⟩ trivial
  · refine at_drawn 32 rfl rfl [(2, .val (.rp (tr u) 0)), (6, .val (.rp (tr v) 0)), (8, .sv .ff)] [20, 21, 22] rfl
      ⟨gives_is (c := false) (tless_fn u v hmu) (by simp [q1]), does_index ty_ok _ rfl rfl rfl (by omega) hgk rfl, does_index ty_ok _ rfl rfl rfl (by omega) hgi rfl⟩ ?_
    refine run 400 rfl ?_
    exact at_again (j + 1) (by omega) (by omega) ⟨SVle.refl _, SVle.refl _, SVle.refl _, SVle.of_eq (by show I ((j : Int) + 1) = I ((j + 1 : Nat) : Int); rw [Int.natCast_add]; rfl), trivial⟩ trivial
end Go.Proofs.Ytmnmhehddbemkaa
/- The proof engine: a list of plain zeroes is made. -/
namespace Go.Eng

theorem made_rep (v : Value) (m : Nat) : (madeCells #[v] m).toList = List.replicate m v := by
  unfold madeCells
  rw [Array.toList_map, Array.toList_range]
  apply List.ext_getElem
  · simp
  · intro i h1 h2
    simp [Nat.mod_one]
theorem Dens.rep {g : Nat → Value} {H : Hp} {c : SV} {v : Value} (h : Den g H c v) : ∀ m : Nat, Dens g H (List.replicate m c) (List.replicate m v)
  | 0 => trivial
  | m + 1 => ⟨h, Dens.rep h m⟩
theorem noKs_rep {k : Nat} {c : SV} (h : c.noK k = true) : ∀ m : Nat, SV.noKs k (List.replicate m c) = true
  | 0 => rfl
  | m + 1 => by rw [List.replicate_succ, SV.noKs, h, noKs_rep h m]; rfl

theorem at_makeZ {E : Stc} {T : Nat → TI} {all rest : List Oper} {o : Oper} {s : List Fr} {env : List (Nat × SV)} {own : List (Nat × SO)} {nx : List Nat} {t : Nat} {x y : Operand} {kx ky : IntKind} {n : Int} (k : Nat) (c : SV) (hT : ∀ t, T t = tiOf E.P t) (ho : o.op = .makeSlice t x y) (hx : ev env x = .int kx n) (hy : ev env y = .int ky n)
    (h0 : 0 ≤ n) (hb : ((T (T t).elem).bytes : Int) * n ≤ 281474976710656) (h63 : n ≤ 9223372036854775807) (hc : constsS (T (T t).elem).zero = [c]) (hck : c.noK k = true) (kk : Sat E (.ops all rest) s (put o.dst (.arr k n.toNat) env) ((k, .cells (T t).elem (List.replicate n.toNat c)) :: own) nx)
    (hkT : lstT T t 1 = true := by rfl) (hones : SV.ones (constsS (T (T t).elem).zero) = true := by rfl) (hm : Nat.ble E.cx.m0 k = true := by rfl) (hE : freshE k env = true := by rfl) (hO : freshO k own = true := by rfl)
    (hg : guardK all o.guard env true false false = true := by rfl) (hd : dstLt o.dst E.n = true := by rfl) : Sat E (.ops all (o :: rest)) s env own nx := by
  intro a w hat
  have hwant : Region.wanted o (yielded all.toArray a.tmps) = true := by
    rcases guardK_wanted (E := E) (all := all) (o := o) (env := env) (own := own) (yes := true) (no := false) (stuck := false) with ⟨_, hw⟩ | ⟨h, _⟩ | h
    · exact hw a w hat
    · rw [hg] at h; cases h
    · rw [hg] at h; cases h
  unfold wpList
  rw [if_pos hwant]
  refine .inl ?_
  obtain ⟨hdf, g, H, hdn⟩ := hat
  obtain ⟨hk, hz, hk2, hz2, hz0⟩ := lstT_spec hT hkT
  rw [hT (T t).elem, hT t] at hb hones hc
  obtain ⟨i1, h1⟩ := slice_ti hk
  obtain ⟨i2, d2, h2⟩ := ti_spec hk2
  obtain ⟨z, hz3, hz4⟩ := zero_spec h2 hz2
  have hzs : z.cells.size = 1 := by rw [← hz0, hz4, Array.length_toList]
  have hsz : 1 = i2.size := by rw [← hz, h2.size]
  rw [h2.bytes] at hb
  have e1 : a.eval x = .int kx n := by have := hdn.ev x; rw [hx] at this; exact this
  have e2 : a.eval y = .int ky n := by have := hdn.ev y; rw [hy] at this; exact this
  have hr := run_make (P := E.P) w t _ i2 z h1.und h2.info hz3 kx ky n n h0 (Int.le_refl _) hb h63
  have hzd := constsS_den g H (tiOf E.P (tiOf E.P t).elem).zero
  obtain ⟨v, hv⟩ : ∃ v, z.cells = #[v] := by
    match h : z.cells with
    | ⟨[v]⟩ => exact ⟨v, rfl⟩
    | ⟨[]⟩ => rw [h] at hzs; simp at hzs
    | ⟨_ :: _ :: _⟩ => rw [h] at hzs; simp at hzs
  rw [hc, hz4, hv] at hzd
  have hcv : Den g H c v := hzd.1
  have hv1 : v.oneCell' = true := by
    have := (constsS_den g H (tiOf E.P (tiOf E.P t).elem).zero).oneCells hones
    rw [hz4, hv] at this
    exact this v (by simp)
  have hrep : (madeCells z.cells n.toNat).toList = List.replicate n.toNat v := by rw [hv, made_rep]
  have hone : ∀ x ∈ (madeCells z.cells n.toNat).toList, x.oneCell' = true := by
    rw [hrep]
    intro x hx
    rw [(List.mem_replicate.1 hx).2]
    exact hv1
  have hcs : Dens g H (List.replicate n.toNat c) (madeCells z.cells n.toNat).toList := by
    rw [hrep]
    exact Dens.rep hcv _
  have hd2 := hdn.new' (t := (T t).elem) (Nat.le_of_ble_eq_true hm) (noKs_rep hck _) hE hO hcs hone
  unfold Oper.wp
  have hrun : (execOp a.eval o).run E.P w = .ok (.value (.slice (some ⟨w.heap.size, 0, none⟩) n.toNat n.toNat)) (w.alloc (.cells (madeCells z.cells n.toNat) (T t).elem)) := by
    rw [hT t]
    rw [← hsz, Nat.mul_one] at hr
    simp [execOp, ho, e1, e2, hr]
  rw [hrun]
  rw [Array.toArray_toList] at hd2
  exact kk _ _ (At.put hdf hd2 ⟨w.heap.size, upd_same _ _ _, rfl⟩ fun d e => by rw [e] at hd; exact Nat.blt_eq.mp hd)
end Go.Eng
namespace Go.Proofs.Ytmnmhehddbemkaa
open Go Go.Eng
set_option maxRecDepth 100000

/-- A tree of Pairs. -/
def fullT : Nat → Tm
  | 0 => .mk 2 1 .empty []
  | n + 1 => .mk 7 0 .empty [fullT n, fullT n]
theorem fullT_spec : ∀ n, allR (fullT n) = true ∧ dpT (fullT n) = n + 1 ∧ szT (fullT n) + 1 = 2 ^ (n + 1)
  | 0 => ⟨by
      have e : seq ByteArray.empty .empty = true := seq_self _
      simp [fullT, allR, allRL, rightF, kidsF, Tm.k, Tm.n, Tm.s, Tm.kids, e], by simp [fullT, dpT, dpL], by simp [fullT, szT, szL]⟩
  | n + 1 => by
    obtain ⟨h1, h2, h3⟩ := fullT_spec n
    refine ⟨by rw [fullT, allR, allRL, allRL, allRL, h1, right_k2 _ _ _ (by omega)]; rfl, by rw [fullT, dpT, dpL, dpL, dpL]; omega, ?_⟩
    rw [fullT, szT, szL, szL, szL, Nat.pow_succ]
    omega
def pubT : Nat → Tm
  | 0 => fullT 5
  | n + 1 => .mk 4 0 .empty [pubT n]
theorem pubT_spec : ∀ n, allR (pubT n) = true ∧ dpT (pubT n) = n + 6 ∧ szT (pubT n) = n + 63
  | 0 => by
    obtain ⟨h1, h2, h3⟩ := fullT_spec 5
    exact ⟨h1, h2, by show szT (fullT 5) = _; omega⟩
  | n + 1 => by
    obtain ⟨h1, h2, h3⟩ := pubT_spec n
    refine ⟨by rw [pubT, allR, allRL, allRL, h1, right_k1 _ _ (by omega)]; rfl, by rw [pubT, dpT, dpL, dpL]; omega, ?_⟩
    rw [pubT, szT, szL, szL]
    omega
theorem tow_spec : ∀ n, allR (tow n) = true ∧ dpT (tow n) = n + 1 ∧ szT (tow n) = n + 1
  | 0 => ⟨by rw [tow, allR, allRL, right_ax]; rfl, by simp [tow, dpT, dpL], by simp [tow, szT, szL]⟩
  | n + 1 => by
    obtain ⟨h1, h2, h3⟩ := tow_spec n
    refine ⟨by rw [tow, allR, allRL, allRL, h1, right_h]; rfl, by rw [tow, dpT, dpL, dpL]; omega, ?_⟩
    rw [tow, szT, szL, szL]
    omega
theorem may_towF (n : Nat) (h : n ≤ 20) : mayF (tow n) = decide (((n : Int) + 1) ≤ 16) := by
  obtain ⟨h1, h2, h3⟩ := tow_spec n
  rw [mayF_iff, h1, h2, h3, Bool.true_and, decide_eq_decide]
  omega
theorem may_pub (n : Nat) (h : n ≤ 8) : mayF (pubT n) = decide ((63 + ((n : Int) + 12) - 12) ≤ 64) := by
  obtain ⟨h1, h2, h3⟩ := pubT_spec n
  rw [mayF_iff, h1, h2, h3, Bool.true_and, decide_eq_decide]
  omega
theorem bytesS_size (ns : List Int) : (bytesS ns).size = ns.length := by
  have : ∀ (ns : List Int) (r : ByteArray), (ns.foldl (fun r n => r.push (UInt8.ofNat n.toNat)) r).size = r.size + ns.length := by
    intro ns
    induction ns with
    | nil => intro r; rfl
    | cons n ns ih =>
      intro r
      rw [List.foldl_cons, ih, ByteArray.size_push, List.length_cons]
      omega
  have := this ns .empty
  simpa [bytesS] using this
theorem may_leaf (k n : Int) (s : ByteArray) : mayF (.mk k n s []) = rightF (.mk k n s []) := by
  rw [mayF_iff, allR, allRL]
  simp [szT, szL, dpT, dpL]
theorem may_atomB (s : ByteArray) (h : 0 < s.size) : mayF (.mk 1 0 s []) = decide ((s.size : Int) ≤ 1024) := by
  have e : seq s .empty = false := by
    cases h2 : seq s .empty with
    | false => rfl
    | true => have := seq_eq h2; subst this; simp at h
  rw [may_leaf]
  simp [rightF, kidsF, Tm.k, Tm.n, Tm.s, Tm.kids, e]
theorem may_nonce (n : Int) (h : n ≠ 0) : mayF (.mk 2 n .empty []) = (decide (0 < n) && decide (n ≤ 1073741824)) := by
  have e : seq ByteArray.empty .empty = true := seq_self _
  rw [may_leaf]
  simp [rightF, kidsF, Tm.k, Tm.n, Tm.s, Tm.kids, e, h]

theorem full_fn : ∀ n : Nat, n ≤ 10 → Gives Try.prog 53 [I n] (fullT n).sv
  | 0, _ => by
    refine contract_of ty_ok [0, 1, 2, 3, 4, 5, 6, 7] Try.func53 rfl (by decide) Try.ntmps53 rfl fun z => ?_
    refine run 400 rfl ?_
    refine at_if rfl (fun _ => ?_) (fun q => by cases q)
    refine run 400 rfl ?_
    refine at_fn (N_fn 1) rfl ?_
    refine run 400 rfl ?_
    exact at_ret rfl rfl [] ⟨rfl, rfl, rfl⟩ trivial
  | n + 1, h => by
    have ih := full_fn n (by omega)
    have e : ((n + 1 : Nat) : Int) - 1 = n := by omega
    refine contract_of ty_ok [0, 1, 2, 3, 4, 5, 6, 7] Try.func53 rfl (by decide) Try.ntmps53 rfl fun z => ?_
    refine run 400 rfl ?_
    refine at_if rfl (fun q => by simp at q; omega) (fun _ => ?_)
    refine run 400 rfl ?_
    rw [e]
    refine at_fn ih rfl ?_
    refine run 400 rfl ?_
    rw [e]
    refine at_fn ih rfl ?_
    refine at_gro (.tl 4 [tr (fullT n), tr (fullT n)]) (doesG_build ty_ok _ rfl ⟨⟨rfl, rfl, _, rfl, SVles.refl _⟩, ⟨rfl, rfl, _, rfl, SVles.refl _⟩, trivial⟩ rfl rfl (by decide)) ?_
    refine at_fn (T2_fn 7 (fullT n) (fullT n)) rfl ?_
    refine run 400 rfl ?_
    exact at_ret rfl rfl [] ⟨rfl, rfl, rfl⟩ trivial
end Go.Proofs.Ytmnmhehddbemkaa
namespace Go.Proofs.Ytmnmhehddbemkaa
open Go Go.Eng
set_option maxRecDepth 100000

theorem flat_zero : ∀ n : Nat, (List.replicate n (SV.int .u8 0)) = flatU (bytesR (List.replicate n 0))
  | 0 => rfl
  | n + 1 => by
    have := flat_zero n
    rw [List.replicate_succ, this, List.replicate_succ]
    rfl

theorem termBounds_fn (n : Int) : Gives Try.prog 15 [I n] .tt := by
  have hw := within52 n 8 (by omega)
  have hw0 : 0 ≤ n % 8 ∧ n % 8 < 8 := ⟨Int.emod_nonneg _ (by omega), Int.emod_lt_of_pos _ (by omega)⟩
  obtain ⟨w, e⟩ : ∃ w : Nat, n % 8 = w := ⟨(n % 8).toNat, by omega⟩
  rw [e] at hw hw0
  have hF := full_fn 5 (by omega)
  have hX : Gives Try.prog 36 [.str ⟨#[120]⟩] ax.sv := A_fn _
  have m1 := may_towF (12 + w) (by omega)
  have m2 := may_pub w (by omega)
  have k1 := may_fn (tow (12 + w))
  have k2 := may_fn (pubT w)
  refine contract_of ty_ok [0, 1, 2, 3, 4, 5, 6, 7] Try.func15 rfl (by decide) Try.ntmps15 rfl fun z => ?_
  refine run 400 rfl ?_
  refine at_fn known37_fn rfl ?_
  refine run 400 rfl ?_
  refine at_fn hw rfl ?_
  refine run 400 rfl ?_
  refine at_fn hX rfl ?_
  refine at_fn hF rfl ?_
  refine run 400 rfl ?_
  refine at_loop (fun i : Nat => i ≤ 12 + w) (fun i => [(0, I n), (3, I (12 + w)), (4, .ptr 0 0), (5, .ptr 1 0), (6, I i)]) (fun i => [(0, own33 (tow i)), (1, own33 (fullT 5))]) (fun i => 12 + w - i) [2, 3, 4, 5, 6, 7]
    0 (by omega) ⟨SVle.refl _, SVle.refl _, SVle.refl _, SVle.refl _, SVle.refl _, trivial⟩ ⟨rfl, rfl, trivial⟩ ?_
  intro i hi
  refine run 400 rfl ?_
  refine at_ifd rfl (fun g => ?_) (fun g => ?_)
  · refine run 400 rfl ?_
    refine at_gro (.tl 4 [tr (tow i)]) (doesG_build ty_ok _ rfl ⟨⟨rfl, rfl, _, rfl, SVles.refl _⟩, trivial⟩ rfl rfl (by decide)) ?_
    refine at_fn (T1_fn 3 (tow i)) rfl ?_
    refine run 400 rfl ?_
    exact at_again (i + 1) (by omega) (by omega) ⟨SVle.refl _, SVle.refl _, SVle.refl _, SVle.refl _, SVle.of_eq (by show I ((i : Int) + 1) = I ((i + 1 : Nat) : Int); rw [Int.natCast_add]; rfl), trivial⟩ ⟨rfl, rfl, trivial⟩
  obtain rfl : i = 12 + w := by omega
  refine run 400 rfl ?_
  refine at_loop (fun i : Nat => i ≤ w) (fun i => [(0, I n), (3, I (12 + w)), (4, .ptr 0 0), (5, .ptr 1 0), (7, I i)]) (fun i => [(0, own33 (tow (12 + w))), (1, own33 (pubT i))]) (fun i => w - i) [2, 3, 4, 5, 6, 7]
    0 (by omega) ⟨SVle.refl _, SVle.refl _, SVle.refl _, SVle.refl _, SVle.refl _, trivial⟩ ⟨rfl, rfl, trivial⟩ ?_
  intro i hi
  refine run 400 rfl ?_
  refine at_ifd rfl (fun g => ?_) (fun g => ?_)
  · refine run 400 rfl ?_
    refine at_gro (.tl 4 [tr (pubT i)]) (doesG_build ty_ok _ rfl ⟨⟨rfl, rfl, _, rfl, SVles.refl _⟩, trivial⟩ rfl rfl (by decide)) ?_
    refine at_fn (T1_fn 4 (pubT i)) rfl ?_
    refine run 400 rfl ?_
    exact at_again (i + 1) (by omega) (by omega) ⟨SVle.refl _, SVle.refl _, SVle.refl _, SVle.refl _, SVle.of_eq (by show I ((i : Int) + 1) = I ((i + 1 : Nat) : Int); rw [Int.natCast_add]; rfl), trivial⟩ ⟨rfl, rfl, trivial⟩
  obtain rfl : i = w := by omega
  refine run 400 rfl ?_
  refine at_fn hw rfl ?_
  refine run 400 rfl ?_
  refine at_fn hw rfl ?_
  refine run 400 rfl ?_
  refine at_fn k1 rfl ?_
  refine run 400 rfl ?_
  refine at_true 46 rfl (by rw [m1]; simp) ?_
  refine run 400 rfl ?_
  refine at_fn k2 rfl ?_
  refine run 400 rfl ?_
  refine at_true 55 rfl (by rw [m2]; simp; omega) ?_
  refine run 400 rfl ?_
  refine at_makeZ 3 (.int .u8 0) ty_ok rfl rfl rfl (by omega) (show ((1 : Nat) : Int) * (1020 + (i : Int)) ≤ 281474976710656 by omega) (by omega) rfl rfl ?_
  refine at_closeB 3 (ty := 5) (r := 0) (rows := bytesR (List.replicate (1020 + (i : Int)).toNat 0)) (by rw [bufC]; show some (SO.cells 5 _) = _; rw [← flat_zero]; simp [anys]) rfl ?_
  refine at_less [(57, .sl 3 0 (1020 + (i : Int)).toNat (1020 + (i : Int)).toNat), (55, .tt), (8, I (1020 + i)), (9, I (1073741820 + i))] [(3, .buf (bytesR (List.replicate (1020 + (i : Int)).toNat 0)) 0)] [4, 5, 6, 7] ⟨SVle.arr _ _, SVle.refl _, SVle.refl _, SVle.refl _, trivial⟩ ⟨rfl, trivial⟩ ?_
  refine at_pubT 57 3 1 (bytesR (List.replicate (1020 + (i : Int)).toNat 0)) [] rfl rfl (List.append_nil _).symm (by simp) (fun r hr => by obtain ⟨x, _, rfl⟩ := List.mem_map.1 hr; rfl) rfl ?_
  refine at_val (.str (bytesS (List.replicate (1020 + (i : Int)).toNat 0))) (does_bytesStr ty_ok rfl rfl rfl rfl rfl) ?_
  have hsz := bytesS_size (List.replicate (1020 + (i : Int)).toNat 0)
  rw [List.length_replicate] at hsz
  generalize bytesS (List.replicate (1020 + (i : Int)).toNat 0) = bs at hsz
  have m3 := may_atomB bs (by omega)
  have k3 := may_fn (.mk 1 0 bs [])
  refine at_fn (A_fn bs) rfl ?_
  refine at_fn k3 rfl ?_
  refine run 400 rfl ?_
  refine at_true 65 rfl (by rw [m3, hsz]; simp; omega) ?_
  refine run 400 rfl ?_
  have m4 := may_nonce (1073741820 + i) (by omega)
  have k4 := may_fn (.mk 2 (1073741820 + i) .empty [])
  refine at_fn (N_fn (1073741820 + i)) rfl ?_
  refine at_fn k4 rfl ?_
  refine run 400 rfl ?_
  refine at_true 73 rfl (by rw [m4]; simp; omega) ?_
  refine run 400 rfl ?_
  have k5 : Gives Try.prog 39 [(Tm.mk 2 (-1) .empty []).sv] .ff := gives_is (c := false) (may_fn (.mk 2 (-1) .empty [])) (may_nonce (-1) (by omega))
  refine at_fn (N_fn (-1)) rfl ?_
  refine at_fn k5 rfl ?_
  refine run 400 rfl ?_
  exact at_ret rfl rfl [] ⟨rfl, rfl, rfl⟩ trivial
end Go.Proofs.Ytmnmhehddbemkaa
namespace Go.Proofs.Ytmnmhehddbemkaa
open Go Go.Eng
set_option maxRecDepth 100000

/-- Nothing is longer than anything may be. -/
inductive Bd : Tm → Prop
  | mk {k n : Int} {s : ByteArray} {l : List Tm} (hs : s.size ≤ 9223372036854775807) (hl : l.length ≤ 9223372036854775807) (h : ∀ t ∈ l, Bd t) : Bd (.mk k n s l)

theorem ok_rows {n : Nat} (ih : ∀ ds, okT Try.prog n 33 ds → ∃ t, ds = tr t ∧ Bd t) : ∀ (rows : List (List DV)), (∀ r ∈ rows, okT Try.prog n 33 r) → ∃ l : List Tm, rows = rowsT l ∧ ∀ t ∈ l, Bd t
  | [], _ => ⟨[], rowsT_nil.symm, by simp⟩
  | r :: rows, h => by
    obtain ⟨t, rfl, ht⟩ := ih r (h r (by simp))
    obtain ⟨l, rfl, hl⟩ := ok_rows ih rows fun q hq => h q (by simp [hq])
    exact ⟨t :: l, (rowsT_cons t l).symm, fun u hu => (List.mem_cons.1 hu).elim (fun e => e ▸ ht) (hl u)⟩
theorem cells33 : Try.prog.cellsOf 33 = 4 := by kernel_rfl
theorem cells24 : Try.prog.cellsOf 24 = 1 := by kernel_rfl
theorem ok_term : ∀ {n : Nat} {ds : List DV}, okT Try.prog n 33 ds → ∃ t : Tm, ds = tr t ∧ Bd t := by
  intro n
  induction n using Nat.strongRecOn with
  | _ n ih =>
    intro ds h
    cases n with
    | zero => exact h.elim
    | succ n =>
      simp only [okT, Try.underlying33, cells33] at h
      obtain ⟨hl, h⟩ := h
      obtain ⟨a, b, c, d, rfl⟩ : ∃ a b c d, ds = [a, b, c, d] := by
        match ds, hl with
        | [a, b, c, d], _ => exact ⟨a, b, c, d, rfl⟩
      have h0 := h 0 _ rfl
      have h1 := h 1 _ rfl
      have h2 := h 2 _ rfl
      have h3 := h 3 _ rfl
      simp [cells3, cells9, cells24] at h0 h1 h2 h3
      obtain ⟨x0, e0⟩ := ok_int h0
      obtain ⟨x1, e1⟩ := ok_int h1
      have h2' : ∃ s : ByteArray, c = .str s ∧ s.size ≤ 9223372036854775807 := by
        cases n with
        | zero => exact h2.elim
        | succ n =>
          simp only [okT, Try.underlying9] at h2
          obtain ⟨s, e, hs⟩ := h2
          exact ⟨s, by simpa using e, hs⟩
      obtain ⟨s, rfl, hs⟩ := h2'
      have h3' : ∃ l : List Tm, d = .lst 4 (rowsT l) ∧ l.length ≤ 9223372036854775807 ∧ ∀ t ∈ l, Bd t := by
        cases n with
        | zero => exact h3.elim
        | succ n =>
          simp only [okT, Try.underlying24, cells33] at h3
          obtain ⟨rows, e, hm, hr⟩ := h3
          obtain ⟨l, rfl, hb⟩ := ok_rows (fun ds hds => ih n (by omega) hds) rows fun r hr' => (hr r hr').2
          exact ⟨l, by simpa using e, by rw [rowsT_len] at hm; exact hm, hb⟩
      obtain ⟨l, rfl, hl2, hb⟩ := h3'
      simp only [List.cons.injEq, and_true] at e0 e1
      exact ⟨.mk x0 x1 s l, by rw [e0, e1], .mk hs hl2 hb⟩

theorem few_fn : ∀ (t : Tm), Bd t → ∀ left : Int, 0 ≤ left → left ≤ 6000 → GivesP Try.prog 38 [t.sv, I left] fun s => ∃ r : Int, s = I r ∧ -9223372036854775808 ≤ r ∧ r ≤ 6000 := by
  intro t
  induction t using Tm.ind with
  | h k n s l ih =>
    intro hb left h0 h1
    cases hb with
    | mk hs hl hk =>
    have hrl := rowsT_len l
    have hs' : (Tm.mk k n s l).s.size ≤ 9223372036854775807 := hs
    refine contract_of ty_ok [0, 1, 2, 3, 4, 5, 6, 7] Try.func38 rfl (by decide) Try.ntmps38 rfl fun z => ?_
    refine run 400 rfl ?_
    refine at_loop (fun p : Nat × Int => p.1 ≤ l.length ∧ -9223372036854775808 ≤ p.2 ∧ p.2 ≤ 6000) (fun p => [(1, I p.2), (2, .ptr 0 0), (5, I p.1)]) (fun _ => [(0, .cells 33 [I k, I n, .str s, .lst 4 (rowsT l)])]) (fun p => l.length - p.1) [1, 2, 3, 4, 5, 6, 7]
      (0, left - 1 - s.size) ⟨by dsimp only; omega, by dsimp only; omega, by dsimp only; omega⟩ ⟨SVle.refl _, SVle.refl _, SVle.refl _, trivial⟩ ⟨rfl, trivial⟩ ?_
    rintro ⟨i, r⟩ ⟨a1, a2, a3⟩
    dsimp only at a1 a2 a3
    refine run 400 rfl ?_
    refine at_split 17 rfl (fun g => ?_) (fun g => ?_)
    rotate_left
    · refine run 400 rfl ?_
      exact at_ret rfl rfl [] ⟨⟨r, rfl, a2, a3⟩, rfl, rfl⟩ trivial
    have g : (i : Int) < l.length := by
      have := of_decide_eq_true g
      dsimp only at this
      rw [hrl] at this
      exact this
    have hlt : i < l.length := by omega
    refine run 400 rfl ?_
    refine at_ifd rfl (fun g2 => ?_) (fun g2 => ?_)
    rotate_left
    · refine run 400 rfl ?_
      exact at_ret rfl rfl [] ⟨⟨r, rfl, a2, a3⟩, rfl, rfl⟩ trivial
    have hget := rowsT_get hlt
    have hmem := getD_mem hlt
    generalize l.getD i .zero = u at hget hmem
    refine run 400 rfl ?_
    refine at_val (.rp (tr u) 0) (does_index ty_ok _ rfl rfl rfl (by omega) (show (rowsT l)[(i : Int).toNat]? = some (tr u) from hget) rfl) ?_
    refine run 400 rfl ?_
    refine at_pure (ih u hmem (hk u hmem) r g2 a3) rfl ?_
    rintro sv ⟨r', rfl, b1, b2⟩
    refine run 400 rfl ?_
    exact at_again (i + 1, r') ⟨by dsimp only; omega, b1, b2⟩ (by dsimp only; omega) ⟨SVle.refl _, SVle.refl _, SVle.of_eq (by show I ((i : Int) + 1) = I ((i + 1 : Nat) : Int); rw [Int.natCast_add]; rfl), trivial⟩ ⟨rfl, trivial⟩

theorem termMay_fn (t : Tm) (ns : List Int) (hb : Bd t) (h1 : ns.length ≤ 9223372036854775807) : Gives Try.prog 11 [t.sv, .lst 1 (ints ns)] .tt := by
  have hO := oneT_fn ns h1
  have hm : Gives Try.prog 39 [(genT ns 4 0).1.sv] .tt := gives_is (c := true) (may_fn _) (gen4_may ns)
  generalize (genT ns 4 0).1 = one at hO hm
  have hH := (may_fn (.mk 3 0 .empty [t])).weak (args' := [.agg [I 3, I 0, .str .empty, .tl 4 [tr t]]]) ⟨SVle.agg ⟨SVle.refl _, SVle.refl _, SVle.refl _, by rw [rowsT_cons, rowsT_nil]; exact SVle.tl _ _, trivial⟩, trivial⟩
  refine contract_of ty_ok [0, 1, 2, 3, 4, 5, 6, 7] Try.func11 rfl (by decide) Try.ntmps11 rfl fun z => ?_
  refine run 400 rfl ?_
  refine at_fn known37_fn rfl ?_
  refine run 400 rfl ?_
  refine at_pure (few_fn t hb 6000 (by omega) (by omega)) rfl ?_
  rintro sv ⟨r, rfl, b1, b2⟩
  refine run 400 rfl ?_
  refine at_ifd rfl (fun _ => ?_) (fun _ => ?_)
  · refine run 400 rfl ?_
    exact at_ret rfl rfl [] ⟨rfl, rfl, rfl⟩ trivial
  refine run 400 rfl ?_
  refine at_drawn 21 rfl rfl [(1, .sv (.bl (mayF t))), (3, .sv (.bl (mayF t))), (5, .yes), (7, .sv one.sv), (8, .sv .tt), (12, .gro (.tl 4 [tr t])), (14, .sv (.bl (mayF (.mk 3 0 .empty [t])))), (16, .gro (.tl 4 [tr t])), (17, .sv (Tm.mk 3 0 .empty [t]).sv), (18, .sv (.bl (mayF (.mk 3 0 .empty [t]))))] [20, 21, 22] rfl
    ⟨rmay_fn _, T1_fn 3 t, doesG_build ty_ok _ rfl ⟨⟨rfl, rfl, _, rfl, SVles.refl _⟩, trivial⟩ rfl rfl (by decide), hH, doesG_build ty_ok _ rfl ⟨⟨rfl, rfl, _, rfl, SVles.refl _⟩, trivial⟩ rfl rfl (by decide), hm, hO, by simp, rmay_fn t, may_fn t⟩ ?_
  refine run 400 rfl ?_
  refine at_true 4 rfl (by simp) ?_
  exact at_ret rfl rfl [] ⟨rfl, rfl, rfl⟩ trivial
end Go.Proofs.Ytmnmhehddbemkaa
