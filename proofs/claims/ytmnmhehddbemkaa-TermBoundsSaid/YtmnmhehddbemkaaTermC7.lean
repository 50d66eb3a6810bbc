/- The texts Slc, CallG, Cut, W6a, Swap, SortR, W6b, Ren, W6c, W6d, W6e, L1, W6f, one behind the other: an executor over the translated code, contracts of functions, and their laws. -/
import Derived.Shelf.SlSortCmp.WholeK
import Derived.Shelf.Lay
import Derived.Ground.SlsfProg
import Derived.Shelf.Sort.Plain
import Derived.Ground.NamesProg
import Derived.Test.YtmnmhehddbemkaaTermC6
/- The proof engine: slices whose cells are owned. -/
namespace Go.Eng
open Go.RowKit

variable {E : Stc} {all rest : List Oper} {o : Oper} {s : List Fr} {env : List (Nat × SV)} {own own2 : List (Nat × SO)} {nx : List Nat}

theorem SVle.arr (k n : Nat) : SVle (.arr k n) (.sl k 0 n n) := fun _ _ _ h => .inl h

/-- A list that has nothing may be owned. -/
theorem at_nilS {m : Md} (t k : Nat) {sz : Nat} (ht : nth env t = .tl sz []) (kk : Sat E m s ((t, .sl k 0 0 0) :: env) ((k, .buf [] 0) :: own) nx)
    (hm : Nat.ble E.cx.m0 k = true := by rfl) (hE : freshE k env = true := by rfl) (hO : freshO k own = true := by rfl) : Sat E m s env own nx := by
  refine sat_mono (fun a w hat => ?_) kk
  obtain ⟨hdf, g, H, hdn⟩ := hat
  have hd2 := hdn.bind (k := k) (x := .pointer none) (so := .buf [] 0) (Nat.le_of_ble_eq_true hm) hE hO (.inr ⟨upd_same _ _ _, rfl⟩) (fun b hb => by cases hb)
  refine ⟨hdf, _, H, { hd2 with den := fun i => ?_ }⟩
  simp only [nth]
  cases hb : Nat.beq t i with
  | true =>
    rw [← beq_true hb]
    have := hdn.den t
    rw [ht] at this
    obtain ⟨_, ad, e⟩ := this
    exact .inr ⟨rfl, rfl, rfl, upd_same _ _ _, ad, e⟩
  | false => exact hd2.den i

/-- The same, in an own block. -/
theorem at_nilSI {m : Md} (c k i : Nat) {ty sz : Nat} {cs : List SV} (hc : ownq own c = some (.cells ty cs)) (hi : cs[i]? = some (.tl sz [])) (hso : setOwnK c (.cells ty (cs.set i (.sl k 0 0 0))) own some = some own2)
    (kk : Sat E m s env ((k, .buf [] 0) :: own2) nx) (hm : Nat.ble E.cx.m0 k = true := by rfl) (hE : freshE k env = true := by rfl) (hO : freshO k own = true := by rfl) (hne : Nat.beq k c = false := by rfl) (hcs : SV.noKs k cs = true := by rfl) : Sat E m s env own nx := by
  rw [setOwnK_eq] at hso
  simp only [Option.some.injEq] at hso
  subst hso
  have hkc : ¬ k = c := fun e => by rw [e, Nat.beq_refl] at hne; cases hne
  refine sat_mono (fun a w hat => ?_) kk
  obtain ⟨hdf, g, H, hdn⟩ := hat
  obtain ⟨b, vs, g1, g2, g3, g4, g5, g6⟩ := hdn.ok c _ hc
  obtain ⟨x, hxi, hxd⟩ := Dens.get g2 hi
  obtain ⟨_, ad, e⟩ := hxd
  have hd3 := hdn.bind (k := k) (x := .pointer none) (so := .buf [] 0) (Nat.le_of_ble_eq_true hm) hE hO (.inr ⟨upd_same _ _ _, rfl⟩) (fun b hb => by cases hb)
  have hp : Den (Eng.upd g k (.pointer none)) H (.sl k 0 0 0) x := .inr ⟨rfl, rfl, rfl, upd_same _ _ _, ad, e⟩
  have hiff : ∀ j, (ownq ((k, SO.buf [] 0) :: setOwn c (.cells ty (cs.set i (.sl k 0 0 0))) own) j).isSome = true → (ownq ((k, SO.buf [] 0) :: own) j).isSome = true := by
    intro j hi
    simp only [ownq] at hi ⊢
    cases hb : Nat.beq k j with
    | true => rfl
    | false =>
      rw [hb, cond_false] at hi
      rw [cond_false]
      rw [ownq_setOwn] at hi
      split at hi
      · rename_i e
        subst e
        rw [hc]; rfl
      · exact hi
  refine ⟨hdf, _, H, { hd3 with ok := fun j o' hj => ?_, inj := fun i j hi hj => hd3.inj i j (hiff i hi) (hiff j hj) }⟩
  simp only [ownq] at hj
  cases hb : Nat.beq k j with
  | true =>
    have hj' : ownq ((k, SO.buf [] 0) :: own) j = some o' := by simp only [ownq, hb, cond_true]; rw [hb, cond_true] at hj; exact hj
    exact hd3.ok j o' hj'
  | false =>
    rw [hb, cond_false, ownq_setOwn] at hj
    have hjk : j ≠ k := fun e => by rw [e, Nat.beq_refl] at hb; cases hb
    by_cases hjc : j = c
    · subst hjc
      rw [if_pos rfl, hc] at hj
      simp only [Option.map_some, Option.some.injEq] at hj
      subst hj
      exact ⟨b, vs, by rw [upd_ne _ _ _ j hjk]; exact g1, Dens.set hp _ _ i (Dens.upd (k := k) (fun j hj => upd_ne _ _ _ j hj) cs vs hcs g2) hxi, g3, g4, g5, g6⟩
    · rw [if_neg hjc] at hj
      exact hd3.ok j o' (by simp only [ownq, hb, cond_false]; exact hj)

/-- A place of an owned slice. -/
theorem does_indexS {P : Program} {T : Nat → TI} (hT : ∀ t, T t = tiOf P t) {o : Oper} {t sz k off m c : Nat} {x i : Operand} {kk : IntKind} {n : Int} (ho : o.op = .indexAddr t x i) (hx : ev env x = .sl k off m c) (hi : ev env i = .int kk n)
    (h0 : 0 ≤ n ∧ n < m) (hkT : lstT T t sz = true) : DoesV P o env own (.ptr k (off + n.toNat * sz)) := by
  obtain ⟨hk, hz, hk2, _⟩ := lstT_spec hT hkT
  obtain ⟨i1, h1⟩ := slice_ti hk
  obtain ⟨i2, d2, h2⟩ := ti_spec hk2
  refine does_val fun cx g H q a w hd => ?_
  have e1 := hd.ev x
  rw [hx] at e1
  rcases e1 with ⟨b, hg, e1⟩ | ⟨_, hm, _⟩
  · have e2 := hd.ev i
    rw [hi] at e2
    have e2 : a.eval i = .int kk n := e2
    refine ⟨.pointer (some ⟨b, off + n.toNat * sz, none⟩), ?_, b, hg, rfl⟩
    have : 0 ≤ n ∧ n < (m : Int) := h0
    simp [execOp, ho, e1, e2, Instr.indexAt, asIntOf, run_underlying h1.und, this, run_sizeOf' h2.info, ← h2.size, hz, Addr.add]
  · subst hm
    omega

theorem flatU_len {sz : Nat} {rows : List (List DV)} (h : ∀ r ∈ rows, r.length = sz) : (flatU rows).length = rows.length * sz := by
  unfold flatU
  rw [List.length_map]
  induction rows with
  | nil => simp
  | cons r l ih =>
    rw [List.flatten_cons, List.length_append, h r (by simp), ih fun q hq => h q (by simp [hq]), List.length_cons, Nat.add_mul]
    omega
theorem flatU_app (a b : List (List DV)) : flatU (a ++ b) = flatU a ++ flatU b := by simp [flatU]

theorem Dens.anys' {g : Nat → Value} {H : Hp} {n : Nat} {vs : List Value} (h : vs.length = n) : Dens g H (Eng.anys n) vs := by
  subst h
  exact Dens.anys vs

theorem zeroCells_one {z : Array Value} (hz : ∀ v ∈ z.toList, v.oneCell' = true) (m : Nat) : ∀ v ∈ (Builtin.zeroCells z m).toList, v.oneCell' = true := by
  intro v hv
  exact made_one hz m v hv

/-- An owned slice grows. -/
theorem at_appendS {T : Nat → TI} (k k' sz : Nat) {t n c r : Nat} {x y : Operand} {rows ys : List (List DV)} {cl : Call} (hT : ∀ t, T t = tiOf E.P t) (ho : o.op = .call cl) (hcl : cl.callee = .builtin .append) (ha : cl.args = #[x, y]) (hat : cl.argTypes = #[t, t])
    (hx : ev env x = .sl k 0 n c) (hy : lstv (ev env y) = some (sz, ys)) (hk : ownq own k = some (.buf rows r)) (hn : n = rows.length) (hr : ∀ q ∈ rows, q.length = sz) (hcs : n * sz + r = c * sz) (hnc : n ≤ c) (hy0 : 0 < ys.length) (hkT : lstT T t sz = true) (hl : ((n + ys.length : Nat) : Int) ≤ 9223372036854775807) (hb : (n + ys.length) * (T (T t).elem).bytes ≤ 140737488355328)
    (hless : lessK k own some = some own2)
    (kk : ∀ c' r', n + ys.length ≤ c' → (n + ys.length) * sz + r' = c' * sz → Sat E (.ops all rest) s (put o.dst (.sl k' 0 (n + ys.length) c') env) ((k', .buf (rows ++ ys) r') :: own2) nx)
    (hm : Nat.ble E.cx.m0 k' = true := by rfl) (hE : freshE k' env = true := by rfl) (hO : freshO k' own2 = true := by rfl) (hones : SV.ones (constsS (T (T t).elem).zero) = true := by rfl)
    (hg : guardK all o.guard env true false false = true := by rfl) (hd : dstLt o.dst E.n = true := by rfl) : Sat E (.ops all (o :: rest)) s env own nx := by
  intro a w hat0
  have hwant := wanted_of (E := E) (own := own) hg a w hat0
  rw [lessK_eq] at hless
  simp only [Option.some.injEq] at hless
  subst hless
  subst hn
  unfold wpList
  rw [if_pos hwant]
  refine .inl ?_
  obtain ⟨hdf, g, H, hdn⟩ := hat0
  obtain ⟨hk1, hz, hk2, hz2, hz0⟩ := lstT_spec hT hkT
  rw [hT (T t).elem, hT t] at hb hones
  obtain ⟨i1, h1⟩ := slice_ti hk1
  obtain ⟨i2, d2, h2⟩ := ti_spec hk2
  obtain ⟨z, hz3, hz4⟩ := zero_spec h2 hz2
  have hzs : z.cells.size = sz := by rw [← hz0, hz4, Array.length_toList]
  have hsz : sz = i2.size := by rw [← hz, h2.size]
  rw [h2.bytes] at hb
  have hrun : ∀ v w', (Builtin.append_ #[t, t] o.type #[a.eval x, a.eval y]).run E.P w = .ok v w' → (execOp a.eval o).run E.P w = .ok (.value v) w' := by
    intro v w' h
    simp only [execOp, ho, resolve, hcl, ha, hat]
    simp [invoke, builtin, h]
  obtain ⟨bd, c2, e2, hc2, hn2, hp2⟩ := lstv_den hy (hdn.ev y)
  cases hbd : bd with
  | none => rw [(hn2 hbd).1] at hy0; simp at hy0
  | some q =>
  subst hbd
  obtain ⟨hq1, hq2⟩ := hp2 q rfl
  obtain ⟨nv, hf2, hc3⟩ := hq2.flat
  have hnl := hf2.length
  have hq1 : q.spot = none := hq1.resolve_left fun e => by rw [e] at hy0; simp at hy0
  have hnews : ∀ (j : Nat) (v : Value), nv[j]? = some v → w.cell? (q.add j) = some v := by
    intro j v hj
    obtain ⟨b, off, spot⟩ := q
    simp only at hq1
    subst hq1
    rw [addr_add]
    exact hdn.hp _ _ _ (hc3 j v hj)
  have hdl : Dn E.cx g H env (rm1 k own) E.n a.tmps w := hdn.lessO (rm1_less k own)
  have hmul : (rows.length + ys.length) * sz = rows.length * sz + ys.length * sz := Nat.add_mul _ _ _
  -- a new block
  have fresh : ∀ (ov : List Value) (cap : Nat), Dens g H (flatU rows) ov → (∀ v ∈ ov, v.oneCell' = true) → rows.length + ys.length ≤ cap →
      (execOp a.eval o).run E.P w = .ok (.value (.slice (some ⟨w.heap.size, 0, none⟩) (rows.length + ys.length) cap)) (w.drew.alloc (.cells (ov.toArray ++ nv.toArray ++ Builtin.zeroCells z.cells (cap - (rows.length + ys.length))) (tiOf E.P t).elem)) →
      o.wp E.P a w (wpList E.P all.toArray (KK E s) rest) (KK E s) := by
    intro ov cap hod ho1 hcap hr'
    have hd1 := hdl.drew.grown (w' := w.drew.alloc (.cells (ov.toArray ++ nv.toArray ++ Builtin.zeroCells z.cells (cap - (rows.length + ys.length))) (tiOf E.P t).elem)) rfl rfl rfl (by simp) (fun b hb => heap_alloc_lt w.drew _ hb)
    have hzl : ((Builtin.zeroCells z.cells (cap - (rows.length + ys.length))).toList).length = (cap - (rows.length + ys.length)) * sz := by rw [Array.length_toList, size_zeroCells, hzs]
    have hone : ∀ v ∈ ov ++ nv ++ (Builtin.zeroCells z.cells (cap - (rows.length + ys.length))).toList, v.oneCell' = true := by
      intro v hv
      rcases List.mem_append.1 hv with hv | hv
      · rcases List.mem_append.1 hv with hv | hv
        · exact ho1 v hv
        · exact hf2.one v hv
      · have hz1 : ∀ v ∈ z.cells.toList, v.oneCell' = true := by
          rw [← hz4]
          exact (constsS_den g H _).oneCells hones
        exact zeroCells_one hz1 _ v hv
    have hden : Dens g H (bufC (rows ++ ys) ((cap - (rows.length + ys.length)) * sz)) (ov ++ nv ++ (Builtin.zeroCells z.cells (cap - (rows.length + ys.length))).toList) := by
      rw [bufC, flatU_app]
      exact Dens.append (Dens.append hod hf2.toFlat) (Dens.anys' hzl)
    have hd2 := hd1.bind (k := k') (x := .pointer (some ⟨w.heap.size, 0, none⟩)) (so := .buf (rows ++ ys) ((cap - (rows.length + ys.length)) * sz)) (Nat.le_of_ble_eq_true hm) hE hO (.inl ⟨(tiOf E.P t).elem, w.heap.size, ov ++ nv ++ (Builtin.zeroCells z.cells (cap - (rows.length + ys.length))).toList, upd_same _ _ _,
      Dens.plain g _ H _ _ _ hden, hone, by
        rw [show (w.drew.alloc (.cells (ov.toArray ++ nv.toArray ++ Builtin.zeroCells z.cells (cap - (rows.length + ys.length))) (tiOf E.P t).elem)).heap[w.heap.size]? = _ from heap_alloc_new w.drew _]
        congr 2
        apply Array.ext'
        simp, fun j => Hp.on_new hdl.hp j, .inl hdl.base.size⟩) (fun b hb j o' hj e => by
        simp only [blkOf, Option.some.injEq] at hb
        subst hb
        have := (hdl.ok j o' hj).blk_lt e
        omega)
    unfold Oper.wp
    rw [hr']
    refine kk cap _ hcap ?_ _ _ (At.put hdf hd2 (.inl ⟨w.heap.size, upd_same _ _ _, rfl⟩) fun d e => by rw [e] at hd; exact Nat.blt_eq.mp hd)
    rw [← Nat.add_mul, Nat.add_sub_cancel' hcap]
  have ex := hdn.ev x
  rw [hx] at ex
  rcases ex with ⟨b, hgk, ex⟩ | ⟨_, hn0, hc0, hgk, ad, ex⟩
  · -- cells of its own
    rcases hdn.ok k _ hk with ⟨ty, b', vs, e0, hv, hv1, hw, hH, hmine⟩ | ⟨e0, _⟩
    rotate_left
    · rw [e0] at hgk; cases hgk
    have hbb : b' = b := by rw [e0] at hgk; simpa using hgk
    subst hbb
    obtain ⟨v1, v2, rfl, hva, hvb⟩ := Dens.append_inv hv
    have hl1 : v1.length = rows.length * sz := by rw [hva.length, flatU_len hr]
    have hl2 : v2.length = r := by rw [hvb.length]; simp [anys]
    have hvl : (v1 ++ v2).length = c * sz := by rw [List.length_append, hl1, hl2, hcs]
    by_cases hroom : rows.length + ys.length ≤ c
    · have hfit : rows.length * sz + nv.length ≤ (v1 ++ v2).length := by
        rw [hnl, hvl, ← Nat.add_mul]
        exact Nat.mul_le_mul_right _ hroom
      have hr' := run_append_room_off (P := E.P) w t o.type _ i2 h1.und h2.info ty b' 0 rows.length c (v1 ++ v2).toArray hw q ys.length c2 nv (by rw [hnl, hsz]) hnews hf2.one hroom (by rw [← hsz]; simpa using hfit)
      rw [← hsz] at hr'
      obtain ⟨ty', hd1⟩ := hdn.openB hk hgk
      have hk' : ownq (setOwn k (.cells ty' (bufC rows r)) own) k = some (.cells ty' (bufC rows r)) := by rw [ownq_setOwn, if_pos rfl, hk]; rfl
      have hone : ∀ v ∈ splice nv (rows.length * sz) (v1 ++ v2), v.oneCell' = true := by
        intro v hv'
        unfold Eng.splice at hv'
        rcases List.mem_append.1 hv' with hv' | hv'
        · rcases List.mem_append.1 hv' with hv' | hv'
          · exact hv1 v (List.mem_of_mem_take hv')
          · exact hf2.one v hv'
        · exact hv1 v (List.mem_of_mem_drop hv')
      have hden : Dens g H (bufC (rows ++ ys) (c * sz - (rows.length + ys.length) * sz)) (splice nv (rows.length * sz) (v1 ++ v2)) := by
        unfold Eng.splice
        rw [bufC, flatU_app, ← hl1, List.take_left']
        · refine Dens.append (Dens.append hva hf2.toFlat) (Dens.anys' ?_)
          rw [List.length_drop, hvl, hl1, hnl, hmul]
        · rfl
      have hd2 := hd1.write (new := bufC (rows ++ ys) (c * sz - (rows.length + ys.length) * sz)) hk' hgk hden hone
      have hd3 := hd2.lessO (own2 := rm1 k own) (k := k) (fun j o' hj => by
        have := rm1_less k own j o' hj
        refine ⟨this.1, ?_⟩
        rw [ownq_setOwn, if_neg this.1, ownq_setOwn, if_neg this.1]
        exact this.2)
      have hd4 := hd3.bind (k := k') (x := .pointer (some ⟨b', 0, none⟩)) (so := .buf (rows ++ ys) (c * sz - (rows.length + ys.length) * sz)) (Nat.le_of_ble_eq_true hm) hE hO
        (.inl ⟨ty, b', splice nv (rows.length * sz) (v1 ++ v2), upd_same _ _ _, Dens.plain g _ H _ _ _ hden, hone, setRow_heap w b' _ _ ty (0, 0) hw, hH, hmine⟩) (fun b2 hb2 j o' hj e => by
          simp only [blkOf, Option.some.injEq] at hb2
          subst hb2
          have hl := rm1_less k own j o' hj
          exact hl.1 (hdn.inj j k (by rw [hl.2]; rfl) (by rw [hk]; rfl) b' e (by rw [hgk]; rfl)))
      unfold Oper.wp
      rw [hrun _ _ (by rw [ex, e2]; exact hr')]
      have e9 : (splice nv (0 + rows.length * sz) (v1 ++ v2).toArray.toList).toArray = (splice nv (rows.length * sz) (v1 ++ v2)).toArray := by rw [Nat.zero_add]
      rw [e9]
      have hle : (rows.length + ys.length) * sz ≤ c * sz := Nat.mul_le_mul_right _ hroom
      exact kk c _ hroom (by omega) _ _ (At.put hdf hd4 (.inl ⟨b', upd_same _ _ _, rfl⟩) fun d e => by rw [e] at hd; exact Nat.blt_eq.mp hd)
    · have holds : ∀ (j : Nat) (v : Value), v1[j]? = some v → w.cell? ((⟨b', 0, none⟩ : Addr).add j) = some v := by
        intro j v hj
        rw [addr_add, ok_cell hw, Nat.zero_add, List.getElem?_append_left (List.getElem?_eq_some_iff.1 hj).1]
        exact hj
      have hr' := run_append_grow (P := E.P) w t o.type _ i2 z h1.und h2.info hz3 ⟨b', 0, none⟩ rows.length c v1 (by rw [hl1, hsz]) holds q ys.length c2 nv (by rw [hnl, hsz]) hnews (by omega) hl (growslice_fits (by omega) hb)
      exact fresh v1 _ hva (fun v hv' => hv1 v (by simp [hv'])) (grownCap_ge _ _ _ _) (hrun _ _ (by rw [ex, e2]; exact hr'))
  · -- there was nothing
    subst hc0
    have hrows : rows = [] := List.eq_nil_of_length_eq_zero hn0
    subst hrows
    simp only [List.length_nil, Nat.zero_add] at hl hb
    cases ad with
    | none =>
      have hr' := run_append_nil (P := E.P) w t o.type _ i2 z h1.und h2.info hz3 q ys.length c2 nv (by rw [hnl, hsz]) hnews hy0 hl (by omega)
      exact fresh [] (grownCap w ys.length 0 (tiOf E.P t).elem) trivial (by simp) (by rw [List.length_nil, Nat.zero_add]; exact grownCap_ge _ _ _ _) (hrun _ _ (by rw [ex, e2, List.length_nil, Nat.zero_add]; simpa using hr'))
    | some p =>
      have hr' := run_append_grow (P := E.P) w t o.type _ i2 z h1.und h2.info hz3 p 0 0 [] (by simp) (by simp) q ys.length c2 nv (by rw [hnl, hsz]) hnews (by omega) (by simpa using hl) (growslice_fits (by omega) (by simpa using hb))
      exact fresh [] _ trivial (by simp) (grownCap_ge _ _ _ _) (hrun _ _ (by rw [ex, e2]; exact hr'))

/-- What was owned is let be read, and written no more: a slice of it, from the front. -/
theorem at_pubG {m : Md} (t k sz : Nat) {n c r : Nat} {rows : List (List DV)} (rows1 rows2 : List (List DV)) (sv : SV) (ht : nth env t = .sl k 0 n c) (hk : ownq own k = some (.buf rows r)) (hcs : rows = rows1 ++ rows2) (hn : n = rows1.length) (hnc : n ≤ c) (hr : ∀ r ∈ rows1, r.length = sz)
    (hsv : ∀ g H x a, DenD H (.lst sz rows1) x → x = .slice a n c → Den g H sv x) (hless : lessK k own some = some own2) (kk : Sat E m s ((t, sv) :: env) own2 nx) : Sat E m s env own nx := by
  refine sat_mono (fun a w h => ?_) kk
  obtain ⟨hdf, g, H, hd⟩ := h
  rw [lessK_eq] at hless
  simp only [Option.some.injEq] at hless
  subst hless
  have hl := rm1_less k own
  subst hcs; subst hn
  have ht' := hd.den t
  rw [ht] at ht'
  rcases ht' with ⟨b0, hg0, ex⟩ | ⟨_, hn0, hc0, hgk, ad, ex⟩
  · rcases hd.ok k _ hk with ⟨ty, b, vs, hg, hv, hone, hw, hH, hm⟩ | ⟨hg, _⟩
    rotate_left
    · rw [hg] at hg0; cases hg0
    have hbb : b0 = b := by rw [hg] at hg0; simpa using hg0.symm
    subst hbb
    rw [bufC, flatU_app, List.append_assoc] at hv
    obtain ⟨v1, v2, rfl, hv1, hv2⟩ := Dens.append_inv hv
    have hf := DenF.of_flatU hr hv1
    have hd2 := hd.fill (v1 ++ v2) hl (fun j o hj hne e => hne (hd.inj j k (by rw [hj]; rfl) (by rw [hk]; rfl) b0 e (by rw [hg]; rfl))) hm hw (fun j _ => hH j) (q := 0) (by simp)
    have e : (splice (v1 ++ v2) 0 (v1 ++ v2).toArray.toList).toArray = (v1 ++ v2).toArray := by simp [splice]
    rw [e, setRow_self w b0 (v1 ++ v2).toArray ty (0, 0) hw] at hd2
    have hle := Hp.add_le (H := H) (b := b0) (q := 0) (fun j _ => hH j) (v1 ++ v2)
    refine ⟨hdf, g, _, { hd2 with den := fun i => ?_ }⟩
    simp only [nth]
    cases hb : Nat.beq t i with
    | false => exact hd2.den i
    | true =>
      rw [← beq_true hb]
      refine hsv g _ _ _ ⟨some ⟨b0, 0, none⟩, c, ex, hnc, fun e => (by cases e), fun p hp => ?_⟩ ex
      simp only [Option.some.injEq] at hp
      subst hp
      refine ⟨.inr rfl, (hf.mono hle).rs fun j v hj => ?_⟩
      have := Hp.add_at H b0 0 (v1 ++ v2) (j := j) (v := v) (by rw [List.getElem?_append_left (List.getElem?_eq_some_iff.1 hj).1]; exact hj)
      simpa using this
  · have hd2 := hd.lessO hl
    refine ⟨hdf, g, H, { hd2 with den := fun i => ?_ }⟩
    simp only [nth]
    cases hb : Nat.beq t i with
    | false => exact hd2.den i
    | true =>
      rw [← beq_true hb]
      have hrows : rows1 = [] := List.eq_nil_of_length_eq_zero hn0
      subst hrows
      subst hc0
      exact hsv g H _ _ ⟨ad, 0, ex, Nat.le_refl _, fun _ => ⟨rfl, rfl⟩, fun p _ => ⟨.inl rfl, trivial⟩⟩ ex

theorem at_pubS {m : Md} (t k sz : Nat) {n c r : Nat} {rows : List (List DV)} (ht : nth env t = .sl k 0 n c) (hk : ownq own k = some (.buf rows r)) (hn : n = rows.length) (hnc : n ≤ c) (hr : ∀ r ∈ rows, r.length = sz)
    (hless : lessK k own some = some own2) (kk : Sat E m s ((t, .lst sz rows) :: env) own2 nx) : Sat E m s env own nx :=
  at_pubG t k sz rows [] (.lst sz rows) ht hk (by simp) hn hnc hr (fun _ _ _ _ h _ => h) hless kk
theorem at_pubT {m : Md} (t k sz : Nat) {n r : Nat} {rows : List (List DV)} (rows1 rows2 : List (List DV)) (ht : nth env t = .sl k 0 n n) (hk : ownq own k = some (.buf rows r)) (hcs : rows = rows1 ++ rows2) (hn : n = rows1.length) (hr : ∀ r ∈ rows1, r.length = sz)
    (hless : lessK k own some = some own2) (kk : Sat E m s ((t, .tl sz rows1) :: env) own2 nx) : Sat E m s env own nx :=
  at_pubG t k sz rows1 rows2 (.tl sz rows1) ht hk hcs hn (Nat.le_refl _) hr (fun _ _ _ a h e => ⟨h, a, by rw [e, hn]⟩) hless kk

end Go.Eng
/- The proof engine: calls that are handed own things, and hand back own things. -/
namespace Go.Eng

/-- Names by a list. -/
def rl (l : List Nat) : Nat → Nat := fun k => l.getD k 0

def updl (g : Nat → Value) : List (Nat × Value) → Nat → Value
  | [] => g
  | (n, v) :: r => upd (updl g r) n v
theorem updl_ne (g : Nat → Value) : ∀ (ps : List (Nat × Value)) (j : Nat), (∀ p ∈ ps, p.1 ≠ j) → updl g ps j = g j
  | [], _, _ => rfl
  | (n, v) :: r, j, h => by
    rw [updl, upd_ne _ _ _ _ (fun e => h (n, v) (by simp) e.symm), updl_ne g r j fun p hp => h p (by simp [hp])]
theorem updl_at (g : Nat → Value) : ∀ (ps : List (Nat × Value)) (i : Nat) (p : Nat × Value), ps[i]? = some p → (ps.map (·.1)).Nodup → updl g ps p.1 = p.2
  | [], _, _, h, _ => by simp at h
  | (n, v) :: r, 0, p, h, _ => by
    simp only [List.getElem?_cons_zero, Option.some.injEq] at h
    subst h
    rw [updl, upd_same]
  | (n, v) :: r, i + 1, p, h, hn => by
    simp only [List.getElem?_cons_succ] at h
    simp only [List.map_cons, List.nodup_cons] at hn
    rw [updl, upd_ne, updl_at g r i p h hn.2]
    intro e
    exact hn.1 (by rw [← e]; exact List.mem_map_of_mem (List.mem_of_getElem? h))

theorem Den.updl {g : Nat → Value} {H : Hp} {s : SV} {x : Value} : ∀ (ps : List (Nat × Value)), (∀ p ∈ ps, s.noK p.1 = true) → Den g H s x → Den (Eng.updl g ps) H s x
  | [], _, h => h
  | (n, v) :: r, hn, h => by
    have ih := Den.updl r (fun p hp => hn p (by simp [hp])) h
    exact Den.upd (k := n) (fun j hj => upd_ne _ _ _ j hj) s x (hn (n, v) (by simp)) ih
theorem OwnOk.updl {mine : Nat → Prop} {g : Nat → Value} {H : Hp} {w : World} {j : Nat} {o : SO} : ∀ (ps : List (Nat × Value)), (∀ p ∈ ps, j ≠ p.1 ∧ o.noK p.1) → OwnOk mine g H w j o → OwnOk mine (Eng.updl g ps) H w j o
  | [], _, h => h
  | (n, v) :: r, hn, h => (OwnOk.updl r (fun p hp => hn p (by simp [hp])) h).upd (hn (n, v) (by simp))

def mapO (r : Nat → Nat) : List (Nat × SO) → List (Nat × SO)
  | [] => []
  | (k, o) :: l => (r k, renO r o) :: mapO r l

def postLt (M : Nat) : List (Nat × SO) → Bool
  | [] => true
  | (k, .cells _ cs) :: l => bif Nat.blt k M then (bif SV.lts M cs then postLt M l else false) else false
  | (k, .buf _ _) :: l => bif Nat.blt k M then postLt M l else false
  | (k, .tok _) :: l => bif Nat.blt k M then postLt M l else false
  | (k, .obj _) :: l => bif Nat.blt k M then postLt M l else false

def SO.ltM (M : Nat) : SO → Prop
  | .cells _ cs => SV.lts M cs = true
  | _ => True

theorem postLt_spec {M : Nat} : ∀ {l : List (Nat × SO)}, postLt M l = true → ∀ p ∈ l, p.1 < M ∧ p.2.ltM M
  | [], _, p, hp => by cases hp
  | (k, .cells t cs) :: l, h, p, hp => by
    simp only [postLt] at h
    cases h1 : Nat.blt k M with
    | false => simp [h1] at h
    | true =>
      cases h2 : SV.lts M cs with
      | false => simp [h1, h2] at h
      | true =>
        simp only [h1, h2, cond_true] at h
        rcases List.mem_cons.1 hp with rfl | hp
        · exact ⟨Nat.blt_eq.mp h1, h2⟩
        · exact postLt_spec h p hp
  | (k, .buf c nn) :: l, h, p, hp => by
    simp only [postLt] at h
    cases h1 : Nat.blt k M with
    | false => simp [h1] at h
    | true =>
      simp only [h1, cond_true] at h
      rcases List.mem_cons.1 hp with rfl | hp
      · exact ⟨Nat.blt_eq.mp h1, trivial⟩
      · exact postLt_spec h p hp
  | (k, .tok c) :: l, h, p, hp => by
    simp only [postLt] at h
    cases h1 : Nat.blt k M with
    | false => simp [h1] at h
    | true =>
      simp only [h1, cond_true] at h
      rcases List.mem_cons.1 hp with rfl | hp
      · exact ⟨Nat.blt_eq.mp h1, trivial⟩
      · exact postLt_spec h p hp
  | (k, .obj f) :: l, h, p, hp => by
    simp only [postLt] at h
    cases h1 : Nat.blt k M with
    | false => simp [h1] at h
    | true =>
      simp only [h1, cond_true] at h
      rcases List.mem_cons.1 hp with rfl | hp
      · exact ⟨Nat.blt_eq.mp h1, trivial⟩
      · exact postLt_spec h p hp

theorem ownq_mem' {l : List (Nat × SO)} {k : Nat} {o : SO} (h : ownq l k = some o) : (k, o) ∈ l := by
  induction l with
  | nil => simp [ownq] at h
  | cons y l ih =>
    obtain ⟨i, x⟩ := y
    simp only [ownq] at h
    cases hb : Nat.beq i k with
    | true =>
      simp only [hb, cond_true, Option.some.injEq] at h
      rw [← beq_true hb, h]
      simp
    | false =>
      simp only [hb, cond_false] at h
      exact List.mem_cons_of_mem _ (ih h)

theorem ownq_mapO {r : Nat → Nat} {M : Nat} (hr : ∀ i j, i < M → j < M → r i = r j → i = j) : ∀ {l : List (Nat × SO)}, (∀ p ∈ l, p.1 < M) → ∀ {j : Nat} {o' : SO}, ownq (mapO r l) j = some o' → ∃ k o, ownq l k = some o ∧ k < M ∧ r k = j ∧ o' = renO r o
  | [], _, j, o', h => by simp [mapO, ownq] at h
  | (k, o) :: l, hl, j, o', h => by
    simp only [mapO, ownq] at h
    cases hb : Nat.beq (r k) j with
    | true =>
      simp only [hb, cond_true, Option.some.injEq] at h
      exact ⟨k, o, by simp [ownq], hl (k, o) (by simp), beq_true hb, h.symm⟩
    | false =>
      simp only [hb, cond_false] at h
      obtain ⟨k', o2, h1, h2, h3, h4⟩ := ownq_mapO hr (fun p hp => hl p (by simp [hp])) h
      refine ⟨k', o2, ?_, h2, h3, h4⟩
      have : Nat.beq k k' = false := by
        cases hk : Nat.beq k k' with
        | false => rfl
        | true =>
          rw [beq_true hk, h3] at hb
          simp at hb
      simp only [ownq, this, cond_false]
      exact h1
theorem ownq_mapO_none {r : Nat → Nat} : ∀ {l : List (Nat × SO)} {j : Nat}, ownq (mapO r l) j = none → ∀ k o, ownq l k = some o → r k ≠ j
  | [], _, _, k, o, h => by simp [ownq] at h
  | (i, x) :: l, j, hn, k, o, h => by
    simp only [mapO, ownq] at hn
    cases hb : Nat.beq (r i) j with
    | true => rw [hb] at hn; cases hn
    | false =>
      rw [hb, cond_false] at hn
      simp only [ownq] at h
      cases hk : Nat.beq i k with
      | true =>
        rw [← beq_true hk]
        exact beq_false hb
      | false =>
        rw [hk, cond_false] at h
        exact ownq_mapO_none hn k o h

/-- Names left out. -/
def outK {α : Type} : List Nat → List (Nat × SO) → (List (Nat × SO) → α) → α
  | [], own, c => c own
  | k :: l, own, c => lessK k own fun r => outK l r c
def outO : List Nat → List (Nat × SO) → List (Nat × SO)
  | [], own => own
  | k :: l, own => outO l (rm1 k own)
theorem outK_eq {α : Type} : ∀ (l : List Nat) (own : List (Nat × SO)) (c : List (Nat × SO) → α), outK l own c = c (outO l own)
  | [], _, _ => rfl
  | k :: l, own, c => by simp only [outK, outO, lessK_eq, outK_eq l]
theorem outO_spec : ∀ (l : List Nat) (own : List (Nat × SO)) (j : Nat) (o : SO), ownq (outO l own) j = some o → j ∉ l ∧ ownq own j = some o
  | [], _, _, _, h => ⟨by simp, h⟩
  | k :: l, own, j, o, h => by
    have h1 := outO_spec l (rm1 k own) j o h
    have h2 := rm1_less k own j o h1.2
    exact ⟨by simp [h1.1, h2.1], h2.2⟩

def nodB : List Nat → Bool
  | [] => true
  | x :: l => bif hasB x l then false else nodB l
  where
  hasB (x : Nat) : List Nat → Bool
  | [] => false
  | y :: l => bif Nat.beq x y then true else hasB x l
theorem hasB_spec {x : Nat} : ∀ {l : List Nat}, nodB.hasB x l = false → x ∉ l
  | [], _, h => by cases h
  | y :: l, h, hm => by
    simp only [nodB.hasB] at h
    cases hb : Nat.beq x y with
    | true => simp [hb] at h
    | false =>
      simp only [hb, cond_false] at h
      rcases List.mem_cons.1 hm with e | hm
      · exact beq_false hb e
      · exact hasB_spec h hm
theorem nodB_spec : ∀ {l : List Nat}, nodB l = true → l.Nodup
  | [], _ => List.nodup_nil
  | x :: l, h => by
    simp only [nodB] at h
    cases hb : nodB.hasB x l with
    | true => simp [hb] at h
    | false =>
      simp only [hb, cond_false] at h
      exact List.nodup_cons.2 ⟨hasB_spec hb, nodB_spec h⟩

def freshL (m0 : Nat) (env : List (Nat × SV)) (own : List (Nat × SO)) : List Nat → Bool
  | [] => true
  | k :: l => bif Nat.ble m0 k then (bif freshE k env then (bif freshO k own then freshL m0 env own l else false) else false) else false
theorem freshL_spec {m0 : Nat} {env : List (Nat × SV)} {own : List (Nat × SO)} : ∀ {l : List Nat}, freshL m0 env own l = true → ∀ k ∈ l, m0 ≤ k ∧ freshE k env = true ∧ freshO k own = true
  | [], _, k, hk => by cases hk
  | x :: l, h, k, hk => by
    simp only [freshL] at h
    cases h1 : Nat.ble m0 x with
    | false => simp [h1] at h
    | true =>
      cases h2 : freshE x env with
      | false => simp [h1, h2] at h
      | true =>
        cases h3 : freshO x own with
        | false => simp [h1, h2, h3] at h
        | true =>
          simp only [h1, h2, h3, cond_true] at h
          rcases List.mem_cons.1 hk with rfl | hk
          · exact ⟨Nat.le_of_ble_eq_true h1, h2, h3⟩
          · exact freshL_spec h k hk

def keysLt (pre : List (Nat × SO)) : Nat → Bool
  | 0 => true
  | n + 1 => (ownq pre n).isSome && keysLt pre n
theorem keysLt_spec {pre : List (Nat × SO)} : ∀ {m : Nat}, keysLt pre m = true → ∀ k, k < m → (ownq pre k).isSome = true
  | 0, _, k, hk => absurd hk (Nat.not_lt_zero k)
  | n + 1, h, k, hk => by
    simp only [keysLt, Bool.and_eq_true] at h
    rcases Nat.lt_or_ge k n with h' | h'
    · exact keysLt_spec h.2 k h'
    · rw [show k = n by omega]; exact h.1
def preLt (m : Nat) : List (Nat × SO) → Bool
  | [] => true
  | (k, _) :: l => bif Nat.blt k m then preLt m l else false
theorem preLt_spec {m : Nat} : ∀ {pre : List (Nat × SO)}, preLt m pre = true → ∀ k, (ownq pre k).isSome = true → k < m
  | [], _, k, hk => by simp [ownq] at hk
  | (i, x) :: l, h, k, hk => by
    simp only [preLt] at h
    cases h1 : Nat.blt i m with
    | false => simp [h1] at h
    | true =>
      simp only [h1, cond_true] at h
      simp only [ownq] at hk
      cases hb : Nat.beq i k with
      | true => rw [← beq_true hb]; exact Nat.blt_eq.mp h1
      | false =>
        rw [hb, cond_false] at hk
        exact preLt_spec h k hk

variable {E : Stc} {all rest : List Oper} {o : Oper} {s : List Fr} {env : List (Nat × SV)} {own own2 : List (Nat × SO)} {nx : List Nat}

/-- A call: l are the caller's names of the callee's names, first those that it is handed, then those of what it hands back. -/
theorem at_callG (l : List Nat) {m f : Nat} {pre : List (Nat × SO)} {args : List SV} {Post : SV → List (Nat × SO) → Prop} (hC : Contract E.P f m pre args Post) (hc : callK o.op env (fun f l => some (f, l)) none = some (f, rens (rl l) args))
    (hpre : pres (rl l) own pre) (ho : outK (l.take m) own some = some own2)
    (k : ∀ sv post, Post sv post → sv.lt l.length = true ∧ postLt l.length post = true ∧ Sat E (.ops all rest) s (put o.dst (ren (rl l) sv) env) (mapO (rl l) post ++ own2) nx)
    (hml : Nat.ble m l.length = true := by rfl) (hnd : nodB l = true := by rfl) (hfr : freshL E.cx.m0 env own2 (l.drop m) = true := by rfl) (hk1 : keysLt pre m = true := by rfl) (hk2 : preLt m pre = true := by rfl)
    (hg : guardK all o.guard env true false false = true := by rfl) (hd : dstLt o.dst E.n = true := by rfl) : Sat E (.ops all (o :: rest)) s env own nx := by
  intro a w hat
  have hwant := wanted_of (E := E) (own := own) hg a w hat
  rw [outK_eq] at ho
  simp only [Option.some.injEq] at ho
  subst ho
  have hml := Nat.le_of_ble_eq_true hml
  have hnd := nodB_spec hnd
  have hfr := freshL_spec hfr
  have hk1 := keysLt_spec hk1
  have hk2 := preLt_spec hk2
  have hrl : ∀ i (hi : i < l.length), rl l i = l[i] := fun i hi => by simp [rl, List.getD_eq_getElem?_getD, hi]
  have hinjr : ∀ i j, i < l.length → j < l.length → rl l i = rl l j → i = j := fun i j hi hj e => by
    rw [hrl i hi, hrl j hj] at e
    exact (List.getElem_inj hnd).1 e
  unfold wpList
  rw [if_pos hwant]
  refine .inl ?_
  obtain ⟨hdf, g, H, hdn⟩ := hat
  obtain ⟨vs, hv, hr⟩ := run_call (P := E.P) hdn hC.1 hc
  have hv' : Dens (fun k => g (rl l k)) H args vs := Dens.unren (g' := g) (r := rl l) (fun _ => rfl) args vs hv
  have hok : ∀ k o, ownq pre k = some o → OwnOk (fun _ => True) (fun k => g (rl l k)) H w k o := by
    intro k o hk
    have := hdn.ok (rl l k) _ (pres_spec hpre k o hk)
    cases o with
    | cells ty cs =>
      obtain ⟨b, ws, e, h1, h2, h3, h4, h5⟩ := this
      exact ⟨b, ws, e, Dens.unren (g' := g) (r := rl l) (fun _ => rfl) cs ws h1, h2, h3, h4, trivial⟩
    | tok sz =>
      obtain ⟨ad, q, c, e, h1, hle, h2⟩ := this
      refine ⟨ad, q, c, e, h1, hle, fun p hpa hlt => ?_⟩
      obtain ⟨h3, _, h5⟩ := h2 p hpa hlt
      exact ⟨h3, trivial, h5⟩
    | obj q =>
      obtain ⟨r, o, e, h1, h2, h3, _⟩ := this
      exact ⟨r, o, e, h1, h2, h3, trivial⟩
    | buf rw nn =>
      rcases this with ⟨ty, b, ws, e, h1, h2, h3, h4, h5⟩ | ⟨e, h1⟩
      · exact .inl ⟨ty, b, ws, e, Dens.plain g _ H rw nn ws h1, h2, h3, h4, trivial⟩
      · exact .inr ⟨e, h1⟩
  have hsome : ∀ i, (ownq pre i).isSome = true → (ownq own (rl l i)).isSome = true := fun i hi => by
    cases ho : ownq pre i with
    | none => rw [ho] at hi; cases hi
    | some x => rw [pres_spec hpre i x ho]; rfl
  have hinj' : InjOn (fun k => g (rl l k)) pre := by
    intro i j hi hj b hbi hbj
    have h1 := hk2 i hi
    have h2 := hk2 j hj
    exact hinjr i j (by omega) (by omega) (hdn.inj (rl l i) (rl l j) (hsome i hi) (hsome j hj) b hbi hbj)
  have hcall := hC.2 (fun k => g (rl l k)) H w vs hdn.hp hok hinj' hv'
  unfold Oper.wp
  rw [hr]
  refine hcall.mono fun e w' he => ?_
  cases e with
  | panicked c => exact he.elim
  | outgrown => exact he.elim
  | returned x =>
    obtain ⟨g', H', sv, post, hP, hx, hok', hinjp, hon, hb⟩ := he
    obtain ⟨hlt, hpl, hS⟩ := k sv post hP
    have hpl := postLt_spec hpl
    have hout := outO_spec (l.take m) own
    have htake : ∀ i, i < m → rl l i ∈ l.take m := fun i hi => by
      rw [hrl i (by omega)]
      exact List.mem_take_iff_getElem.2 ⟨i, by omega, rfl⟩
    obtain ⟨hd2, hother⟩ := hdn.left (r := rl l) (own2 := outO (l.take m) own) hpre hb hon (fun j o hj => ⟨(hout j o hj).2, fun i hi e => (hout j o hj).1 (by rw [e]; exact htake i (hk2 i hi))⟩)
    -- the new names
    let ps : List (Nat × Value) := (List.range' m (l.length - m)).map fun i => (rl l i, g' i)
    have hps : ∀ p ∈ ps, ∃ i, m ≤ i ∧ i < l.length ∧ p = (rl l i, g' i) := fun p hp => by
      obtain ⟨i, hi, rfl⟩ := List.mem_map.1 hp
      rw [List.mem_range'_1] at hi
      exact ⟨i, hi.1, by omega, rfl⟩
    have hpd : ∀ p ∈ ps, p.1 ∈ l.drop m := fun p hp => by
      obtain ⟨i, h1, h2, rfl⟩ := hps p hp
      rw [hrl i h2]
      exact List.mem_drop_iff_getElem.2 ⟨i - m, by omega, by simp [show m + (i - m) = i by omega]⟩
    have hpsn : (ps.map (·.1)).Nodup := by
      rw [List.map_map]
      have key : ∀ q : List Nat, q.Nodup → (∀ i ∈ q, i < l.length) → (q.map ((fun p : Nat × Value => p.1) ∘ fun i => (rl l i, g' i))).Nodup := by
        intro q
        induction q with
        | nil => intro _ _; exact List.nodup_nil
        | cons i q ih =>
          intro h1 h2
          rw [List.nodup_cons] at h1
          rw [List.map_cons, List.nodup_cons]
          refine ⟨fun hm => ?_, ih h1.2 fun i hi => h2 i (by simp [hi])⟩
          obtain ⟨j, hj, e⟩ := List.mem_map.1 hm
          have := hinjr j i (h2 j (by simp [hj])) (h2 i (by simp)) e
          exact h1.1 (this ▸ hj)
      exact key _ (List.nodup_range' ..) fun i hi => by rw [List.mem_range'_1] at hi; omega
    have hgk : ∀ i, i < l.length → updl g ps (rl l i) = g' i := fun i hi => by
      rcases Nat.lt_or_ge i m with h | h
      · rw [updl_ne, hb.fix i h]
        intro p hp e
        obtain ⟨j, h1, h2, rfl⟩ := hps p hp
        have := hinjr j i h2 hi e
        omega
      · have hidx : ps[i - m]? = some (rl l i, g' i) := by
          simp only [ps, List.getElem?_map]
          rw [List.getElem?_range' (by omega)]
          simp [show m + (i - m) = i by omega]
        exact updl_at g ps (i - m) (rl l i, g' i) hidx hpsn
    have hold : ∀ j, (∀ q ∈ l.drop m, q ≠ j) → updl g ps j = g j := fun j hj => updl_ne g ps j fun p hp e => hj p.1 (hpd p hp) e
    have hren : ∀ i, i < l.length → updl g ps (rl l i) = g' i := hgk
    have hfix : ∀ j, j < E.cx.m0 → updl g ps j = g j := fun j hj => hold j fun q hq e => by have := (hfr q hq).1; omega
    have hpost : ∀ k o, ownq post k = some o → OwnOk E.cx.mine (updl g ps) H' w' (rl l k) (renO (rl l) o) := by
      intro k o hk
      have hkl := hpl (k, o) (ownq_mem' hk)
      have h0 := hok' k o hk
      have hge := hgk k hkl.1
      cases o with
      | cells ty cs =>
        obtain ⟨b, ws, e, q1, q2, q3, q4, q5⟩ := h0
        exact ⟨b, ws, by rw [hge]; exact e, Dens.ren (g := g') (g' := updl g ps) (r := rl l) (m := l.length) hren cs ws hkl.2 q1, q2, q3, q4, (hother b q5).1⟩
      | tok sz =>
        obtain ⟨ad, q, c, e, q1, hle, q2⟩ := h0
        refine ⟨ad, q, c, by rw [hge]; exact e, q1, hle, fun p hpa hlt => ?_⟩
        obtain ⟨q3, q4, q5⟩ := q2 p hpa hlt
        exact ⟨q3, (hother _ q4).1, q5⟩
      | obj q =>
        obtain ⟨r, o, e, q1, q2, q3, q4⟩ := h0
        exact ⟨r, o, by rw [hge]; exact e, q1, q2, q3, (hother r q4).1⟩
      | buf rw nn =>
        rcases h0 with ⟨ty, b, ws, e, q1, q2, q3, q4, q5⟩ | ⟨e, q1⟩
        · exact .inl ⟨ty, b, ws, by rw [hge]; exact e, Dens.plain g' _ H' rw nn ws q1, q2, q3, q4, (hother b q5).1⟩
        · exact .inr ⟨by rw [hge]; exact e, q1⟩
    have hown2 : ∀ j o, ownq (outO (l.take m) own) j = some o → (∀ q ∈ l.drop m, j ≠ q ∧ o.noK q) := fun j o hj q hq => freshO_own (hfr q hq).2.2 hj
    have hd3 : Dn E.cx (updl g ps) H' env (mapO (rl l) post ++ outO (l.take m) own) E.n a.tmps w' := by
      refine { size := hd2.size, den := fun t => Den.updl ps (fun p hp => freshE_nth t (hfr p.1 (hpd p hp)).2.1) (hd2.den t), ok := fun j o hj => ?_, inj := fun i j hi hj b hbi hbj => ?_, hp := hd2.hp, base := { hd2.base with fix := fun j hj => by rw [hfix j hj]; exact hd2.base.fix j hj } }
      · rw [ownq_append] at hj
        cases hq : ownq (mapO (rl l) post) j with
        | some o' =>
          rw [hq] at hj
          simp only [Option.some_or, Option.some.injEq] at hj
          subst hj
          obtain ⟨k, o2, q1, _, rfl, rfl⟩ := ownq_mapO hinjr (fun p hp => (hpl p hp).1) hq
          exact hpost k o2 q1
        | none =>
          rw [hq, Option.none_or] at hj
          exact (hd2.ok j o hj).updl ps fun p hp => hown2 j o hj p.1 (hpd p hp)
      · have cls : ∀ j b, (ownq (mapO (rl l) post ++ outO (l.take m) own) j).isSome = true → blkOf (updl g ps j) = some b →
            (∃ k o, ownq post k = some o ∧ rl l k = j ∧ blkOf (g' k) = some b ∧ (w.heap.size ≤ b ∨ preX (fun k => g (rl l k)) pre b)) ∨ (∃ o, ownq (outO (l.take m) own) j = some o ∧ blkOf (g j) = some b) := by
          intro j b hj hbj
          rw [ownq_append] at hj
          cases hq : ownq (mapO (rl l) post) j with
          | some o' =>
            obtain ⟨k, o2, q1, q2, rfl, rfl⟩ := ownq_mapO hinjr (fun p hp => (hpl p hp).1) hq
            rw [hgk k q2] at hbj
            exact .inl ⟨k, o2, q1, rfl, hbj, (hok' k o2 q1).blk_mine hbj⟩
          | none =>
            rw [hq, Option.none_or] at hj
            cases ho : ownq (outO (l.take m) own) j with
            | none => rw [ho] at hj; cases hj
            | some o => exact .inr ⟨o, rfl, by rw [← hold j fun q hq e => (hown2 j o ho q hq).1 e.symm]; exact hbj⟩
        rcases cls i b hi hbi with ⟨k, o1, p1, rfl, p2, p3⟩ | ⟨o1, p1, p2⟩ <;> rcases cls j b hj hbj with ⟨k', o2, q1, rfl, q2, q3⟩ | ⟨o2, q1, q2⟩
        · rw [hinjp k k' (by rw [p1]; rfl) (by rw [q1]; rfl) b p2 q2]
        · exact absurd q2 ((hother b p3).2 j o2 q1)
        · exact absurd p2 ((hother b q3).2 i o1 p1)
        · exact hd2.inj i j (by rw [p1]; rfl) (by rw [q1]; rfl) b p2 q2
    exact hS _ _ (At.put hdf hd3 (Den.ren (g := g') (g' := updl g ps) (r := rl l) (m := l.length) hren sv x hlt hx) fun d e => by rw [e] at hd; exact Nat.blt_eq.mp hd)

/-- The same, where the answer is told. -/
theorem at_callF (l : List Nat) {m f : Nat} {pre q q' : List (Nat × SO)} {args : List SV} {sv : SV} (hC : Contract E.P f m pre args fun s post => s = sv ∧ post = q) (hc : callK o.op env (fun f l => some (f, l)) none = some (f, rens (rl l) args))
    (hpre : pres (rl l) own pre) (ho : outK (l.take m) own some = some own2) (hq : mapO (rl l) q = q') (hpl : postLt l.length q = true)
    (k : Sat E (.ops all rest) s (put o.dst (ren (rl l) sv) env) (q' ++ own2) nx) (hlt : sv.lt l.length = true := by rfl)
    (hml : Nat.ble m l.length = true := by rfl) (hnd : nodB l = true := by rfl) (hfr : freshL E.cx.m0 env own2 (l.drop m) = true := by rfl) (hk1 : keysLt pre m = true := by rfl) (hk2 : preLt m pre = true := by rfl)
    (hg : guardK all o.guard env true false false = true := by rfl) (hd : dstLt o.dst E.n = true := by rfl) : Sat E (.ops all (o :: rest)) s env own nx :=
  at_callG l hC hc hpre ho (fun sv' post hP => by
    obtain ⟨rfl, rfl⟩ := hP
    rw [hq]
    exact ⟨hlt, hpl, k⟩) hml hnd hfr hk1 hk2 hg hd

theorem flat_drop {sz : Nat} : ∀ {rows : List (List DV)} (i : Nat) (q : List SV), (∀ r ∈ rows, r.length = sz) → i ≤ rows.length → (flatU rows ++ q).drop (i * sz) = flatU (rows.drop i) ++ q
  | rows, 0, q, _, _ => by simp
  | [], i + 1, q, _, h => by simp at h
  | r :: rows, i + 1, q, hr, h => by
    have h1 : r.length = sz := hr r (by simp)
    have ih := flat_drop (rows := rows) i q (fun x hx => hr x (by simp [hx])) (by simpa using h)
    have e : flatU (r :: rows) = r.map up ++ flatU rows := by simp [flatU]
    rw [e, Nat.add_mul, Nat.one_mul, List.append_assoc, show i * sz + sz = (r.map up).length + i * sz by rw [List.length_map, h1]; omega, List.drop_append, Nat.add_sub_cancel_left, ih, List.drop_eq_nil_of_le (by omega)]
    rfl
theorem flat_get {sz i : Nat} {rows : List (List DV)} {r : List DV} (q : List SV) (hr : ∀ r ∈ rows, r.length = sz) (hi : rows[i]? = some r) : ((flatU rows ++ q).drop (i * sz)).take sz = r.map up := by
  have hlt := (List.getElem?_eq_some_iff.1 hi).1
  rw [flat_drop i q hr (by omega), List.drop_eq_getElem_cons hlt]
  have e : rows[i] = r := (List.getElem?_eq_some_iff.1 hi).2
  rw [e]
  have h1 : (r.map up).length = sz := by rw [List.length_map]; exact hr r (List.mem_of_getElem? hi)
  have e2 : flatU (r :: rows.drop (i + 1)) = r.map up ++ flatU (rows.drop (i + 1)) := by simp [flatU]
  rw [e2, List.append_assoc, ← h1, List.take_left']
  rfl

/-- A row of an owned slice is read. -/
theorem does_loadB {P : Program} {T : Nat → TI} (hT : ∀ t, T t = tiOf P t) {o : Oper} {t k off sz i : Nat} {x : Operand} {rows : List (List DV)} {n : Nat} {row : List DV} (ho : o.op = .load t x) (hx : ev env x = .ptr k off) (hk : ownq own k = some (.buf rows n)) (hs : (T t).kd = .struct) (hsz : (T t).size = sz) (hoff : off = i * sz) (hr : ∀ r ∈ rows, r.length = sz) (hi : rows[i]? = some row) :
    DoesV P o env own (.agg (row.map up)) := by
  subst hoff
  have h1 := flat_get (anys n) hr hi
  have h2 : sz ≤ ((bufC rows n).drop (i * sz)).length := by
    have := congrArg List.length h1
    rw [List.length_take, List.length_map, hr row (List.mem_of_getElem? hi)] at this
    rw [bufC]
    omega
  rw [hT t] at hs hsz
  rw [← hsz] at h1 h2
  have e : row.map up = ((bufC rows n).drop (i * (tiOf P t).size)).take (tiOf P t).size := h1.symm
  rw [e]
  refine does_load_buf (by rw [hx]) hk fun own' ty hk' => ?_
  rw [← hsz] at hx
  exact does_load_own ho hx hk' hs h2
/-- A plain cell of one. -/
theorem does_loadB1 {P : Program} {T : Nat → TI} (hT : ∀ t, T t = tiOf P t) {o : Oper} {t k off sz i j : Nat} {x : Operand} {rows : List (List DV)} {n : Nat} {row : List DV} {d : DV} (ho : o.op = .load t x) (hx : ev env x = .ptr k off) (hk : ownq own k = some (.buf rows n)) (hs : (T t).kd ≠ .struct) (hs' : (T t).kd ≠ .other) (hoff : off = i * sz + j) (hr : ∀ r ∈ rows, r.length = sz) (hi : rows[i]? = some row) (hj : row[j]? = some d) :
    DoesV P o env own (up d) := by
  subst hoff
  have h1 := flat_get (anys n) hr hi
  have hjl := (List.getElem?_eq_some_iff.1 hj).1
  have h2 : (bufC rows n)[i * sz + j]? = some (up d) := by
    have h3 := congrArg (fun l => l[j]?) h1
    simp only [List.getElem?_map, hj, Option.map_some] at h3
    rw [List.getElem?_take, if_pos (by rw [hr row (List.mem_of_getElem? hi)] at hjl; exact hjl), List.getElem?_drop] at h3
    exact h3
  rw [hT t] at hs hs'
  exact does_load_buf hx hk fun own' ty hk' => does_load_own1 ho hx hk' hs hs' h2

theorem flatU_cons (r : List DV) (l : List (List DV)) : flatU (r :: l) = r.map up ++ flatU l := by simp [flatU]
theorem splice_row {sz i n : Nat} {rows : List (List DV)} {r : List DV} (hr : ∀ r ∈ rows, r.length = sz) (hi : i < rows.length) (h : r.length = sz) : splice (r.map up) (i * sz) (bufC rows n) = bufC (rows.set i r) n := by
  have e1 : rows = rows.take i ++ rows[i] :: rows.drop (i + 1) := by rw [← List.drop_eq_getElem_cons hi, List.take_append_drop]
  have h1 : (flatU (rows.take i)).length = i * sz := by
    rw [flatU_len fun q hq => hr q (List.mem_of_mem_take hq), List.length_take, Nat.min_eq_left (by omega)]
  have h2 : (rows[i].map up).length = sz := by rw [List.length_map]; exact hr _ (List.getElem_mem hi)
  have e2 : bufC rows n = flatU (rows.take i) ++ (rows[i].map up ++ (flatU (rows.drop (i + 1)) ++ anys n)) := by
    have e4 := congrArg flatU e1
    rw [flatU_app] at e4
    have e5 := flatU_cons rows[i] (rows.drop (i + 1))
    rw [bufC, e4, e5, List.append_assoc, List.append_assoc]
  have e3 : bufC (rows.set i r) n = flatU (rows.take i) ++ (r.map up ++ (flatU (rows.drop (i + 1)) ++ anys n)) := by
    rw [bufC, List.set_eq_take_append_cons_drop, if_pos hi, flatU_app, List.append_assoc]
    have e5 := flatU_cons r (rows.drop (i + 1))
    rw [e5, List.append_assoc]
  rw [e2, e3]
  unfold splice
  rw [← h1, List.take_left, List.length_map, h, ← h2, List.append_assoc]
  congr 1
  congr 1
  rw [List.drop_append, Nat.add_sub_cancel_left, List.drop_eq_nil_of_le (by omega), List.nil_append, List.drop_left]

/-- A row of an owned slice is written. -/
theorem doesWS_row {P : Program} {T : Nat → TI} (hT : ∀ t, T t = tiOf P t) {o : Oper} {t k off sz i n : Nat} {x y : Operand} {rows : List (List DV)} (row : List DV) (ho : o.op = .store t x y) (hx : ev env x = .ptr k off) (hy : cellsOf (ev env y) = some (row.map up)) (hs : (T t).kd ≠ .other) (hsz : (T t).size = sz) (hoff : off = i * sz)
    (hr : ∀ r ∈ rows, r.length = sz) (hi : i < rows.length) (hl : row.length = sz) : DoesWS P o env own k (.buf rows n) (.buf (rows.set i row) n) := by
  subst hoff
  rw [hT t] at hs hsz
  refine doesWS_buf hx fun ty => ?_
  rw [← splice_row hr hi hl]
  refine doesW_store ho hx hy hs (by rw [List.length_map, hl, hsz]) ?_
  rw [List.length_map, hl, bufC, List.length_append, flatU_len hr]
  have : (i + 1) * sz ≤ rows.length * sz := Nat.mul_le_mul_right _ hi
  rw [Nat.add_mul, Nat.one_mul] at this
  omega

/-- The same, in the text's order. -/
theorem at_storeB {T : Nat → TI} (hT : ∀ t, T t = tiOf E.P t) {t k off sz i n : Nat} {x y : Operand} {rows : List (List DV)} (row : List DV) (ho : o.op = .store t x y) (hdst : o.dst = none) (hx : ev env x = .ptr k off) (hk : ownq own k = some (.buf rows n)) (hy : cellsOf (ev env y) = some (row.map up)) (hs : (T t).kd ≠ .other) (hsz : (T t).size = sz) (hoff : off = i * sz)
    (hr : ∀ r ∈ rows, r.length = sz) (hi : i < rows.length) (hl : row.length = sz) (hso : setOwnK k (.buf (rows.set i row) n) own some = some own2) (kk : Sat E (.ops all rest) s env own2 nx)
    (hg : guardK all o.guard env true false false = true := by rfl) : Sat E (.ops all (o :: rest)) s env own nx := by
  intro a w hat
  have hwant := wanted_of (E := E) (own := own) hg a w hat
  rw [setOwnK_eq] at hso
  simp only [Option.some.injEq] at hso
  subst hso
  unfold wpList
  rw [if_pos hwant]
  refine .inl ?_
  obtain ⟨hdf, g, H, hdn⟩ := hat
  obtain ⟨w', h1, h2⟩ := doesWS_row (own := own) hT row ho hx hy hs hsz hoff hr hi hl E.cx g H E.n own env a w hdn hdn hk
  unfold Oper.wp
  rw [h1]
  show wpList E.P all.toArray (KK E s) rest (a.put o.dst undef) w'
  rw [hdst]
  exact kk _ _ ⟨hdf, g, H, h2⟩
end Go.Eng
/- The proof engine: owned slices are cut, and cleared. -/
namespace Go.Eng
open Go.RowKit

variable {E : Stc} {all rest : List Oper} {o : Oper} {s : List Fr} {env : List (Nat × SV)} {own own2 : List (Nat × SO)} {nx : List Nat} {P : Program}

theorem does_sliceS_l {T : Nat → TI} (hT : ∀ t, T t = tiOf P t) {o : Oper} {t sz k off m c : Nat} {x lo : Operand} {kk : IntKind} {n : Int} (ho : o.op = .slice t x (some lo) none none) (hx : ev env x = .sl k off m c) (hh : ev env lo = .int kk n)
    (h0 : 0 ≤ n ∧ n < m) (hmc : m ≤ c) (hkT : lstT T t sz = true) : DoesV P o env own (.sl k (off + n.toNat * sz) (m - n.toNat) (c - n.toNat)) := by
  obtain ⟨hk, hz, hk2, _⟩ := lstT_spec hT hkT
  obtain ⟨i1, h1⟩ := slice_ti hk
  obtain ⟨i2, d2, h2⟩ := ti_spec hk2
  have he := prog_elem h1.und
  refine does_val fun cx g H q a w hd => ?_
  have e1 := hd.ev x
  rw [hx] at e1
  have e2 := hd.ev lo
  rw [hh] at e2
  have e2 : a.eval lo = .int kk n := e2
  have hu : P.underlying t = some (.slice (P.elem t)) := by rw [he]; exact h1.und
  have hs := h2.size
  rw [hz] at hs
  rcases e1 with ⟨b, hg, e1⟩ | ⟨_, hm, _⟩
  · refine ⟨sliced (some ⟨b, off, none⟩) n.toNat m c sz, ?_, .inl ⟨b, hg, ?_⟩⟩
    · simp [execOp, ho, e1, e2, run_sliceAt_slice w t _ _ _ _ hu, run_slice_l w t (some ⟨b, off, none⟩) m c hu kk n h0.1 (by omega), he, run_sizeOf' h2.info, ← hs]
    · simp [sliced, show c ≠ n.toNat by omega, Addr.add]
  · omega

theorem does_sliceS_h {T : Nat → TI} (hT : ∀ t, T t = tiOf P t) {o : Oper} {t sz k off m c : Nat} {x hi : Operand} {kk : IntKind} {n : Int} (ho : o.op = .slice t x none (some hi) none) (hx : ev env x = .sl k off m c) (hh : ev env hi = .int kk n)
    (h0 : 0 ≤ n ∧ n ≤ c) (hkT : lstT T t sz = true) : DoesV P o env own (.sl k off n.toNat c) := by
  obtain ⟨hk, hz, hk2, _⟩ := lstT_spec hT hkT
  obtain ⟨i1, h1⟩ := slice_ti hk
  obtain ⟨i2, d2, h2⟩ := ti_spec hk2
  have he := prog_elem h1.und
  refine does_val fun cx g H q a w hd => ?_
  have e1 := hd.ev x
  rw [hx] at e1
  have e2 := hd.ev hi
  rw [hh] at e2
  have e2 : a.eval hi = .int kk n := e2
  have hu : P.underlying t = some (.slice (P.elem t)) := by rw [he]; exact h1.und
  have hs := h2.size
  rw [hz] at hs
  rcases e1 with ⟨b, hg, e1⟩ | ⟨h3, hm, hc, hg, ad, e1⟩
  · refine ⟨sliced (some ⟨b, off, none⟩) 0 n.toNat c sz, ?_, .inl ⟨b, hg, ?_⟩⟩
    · simp [execOp, ho, e1, e2, run_sliceAt_slice w t _ _ _ _ hu, run_slice_h w t (some ⟨b, off, none⟩) m c hu kk n h0.1 (by omega), he, run_sizeOf' h2.info, ← hs]
    · simp [sliced, Addr.add]
  · subst hm hc
    refine ⟨sliced ad 0 n.toNat 0 sz, ?_, .inr ⟨h3, by omega, rfl, hg, ad, ?_⟩⟩
    · simp [execOp, ho, e1, e2, run_sliceAt_slice w t _ _ _ _ hu, run_slice_h w t ad 0 0 hu kk n h0.1 (by omega), he, run_sizeOf' h2.info, ← hs]
    · simp [sliced]
      omega

theorem does_sliceS_hm {T : Nat → TI} (hT : ∀ t, T t = tiOf P t) {o : Oper} {t sz k off m c : Nat} {x hi mx : Operand} {kk k2 : IntKind} {n : Int} (ho : o.op = .slice t x none (some hi) (some mx)) (hx : ev env x = .sl k off m c) (hh : ev env hi = .int kk n) (hm : ev env mx = .int k2 n)
    (h0 : 0 ≤ n ∧ n ≤ c) (hkT : lstT T t sz = true) : DoesV P o env own (.sl k off n.toNat n.toNat) := by
  obtain ⟨hk, hz, hk2, _⟩ := lstT_spec hT hkT
  obtain ⟨i1, h1⟩ := slice_ti hk
  obtain ⟨i2, d2, h2⟩ := ti_spec hk2
  have he := prog_elem h1.und
  refine does_val fun cx g H q a w hd => ?_
  have e1 := hd.ev x
  rw [hx] at e1
  have e2 := hd.ev hi
  rw [hh] at e2
  have e2 : a.eval hi = .int kk n := e2
  have e3 := hd.ev mx
  rw [hm] at e3
  have e3 : a.eval mx = .int k2 n := e3
  have hu : P.underlying t = some (.slice (P.elem t)) := by rw [he]; exact h1.und
  have hs := h2.size
  rw [hz] at hs
  rcases e1 with ⟨b, hg, e1⟩ | ⟨h3, hm, hc, hg, ad, e1⟩
  · refine ⟨sliced (some ⟨b, off, none⟩) 0 n.toNat n.toNat sz, ?_, .inl ⟨b, hg, ?_⟩⟩
    · simp [execOp, ho, e1, e2, e3, run_sliceAt_slice w t _ _ _ _ hu, run_slice_hm w t (some ⟨b, off, none⟩) m c hu kk k2 n n h0.1 (Int.le_refl _) (by omega), he, run_sizeOf' h2.info, ← hs]
    · simp [sliced, Addr.add]
  · subst hm hc
    refine ⟨sliced ad 0 n.toNat n.toNat sz, ?_, .inr ⟨h3, by omega, by omega, hg, ad, ?_⟩⟩
    · simp [execOp, ho, e1, e2, e3, run_sliceAt_slice w t _ _ _ _ hu, run_slice_hm w t ad 0 0 hu kk k2 n n h0.1 (Int.le_refl _) (by omega), he, run_sizeOf' h2.info, ← hs]
    · simp [sliced]
      omega

/-- The rest of an owned slice is cleared. -/
theorem at_clearS {T : Nat → TI} {t k off m c sz r : Nat} {x : Operand} {rows : List (List DV)} (rows1 rows2 : List (List DV)) {cl : Call} (hT : ∀ t, T t = tiOf E.P t) (ho : o.op = .call cl) (hcl : cl.callee = .builtin .clear) (ha : cl.args = #[x]) (hat : cl.argTypes = #[t])
    (hx : ev env x = .sl k off m c) (hk : ownq own k = some (.buf rows r)) (hrows : rows = rows1 ++ rows2) (hr : ∀ q ∈ rows, q.length = sz) (hoff : off = rows1.length * sz) (hm : m = rows2.length) (h0 : 0 < m) (hso : setOwnK k (.buf rows1 (m * sz + r)) own some = some own2)
    (kk : Sat E (.ops all rest) s (put o.dst (.tup []) env) own2 nx)
    (hkT : lstT T t sz = true := by rfl) (hones : SV.ones (constsS (T (T t).elem).zero) = true := by rfl)
    (hg : guardK all o.guard env true false false = true := by rfl) (hd : dstLt o.dst E.n = true := by rfl) : Sat E (.ops all (o :: rest)) s env own nx := by
  subst hrows hoff hm
  rw [setOwnK_eq] at hso
  simp only [Option.some.injEq] at hso
  subst hso
  intro a w hat0
  have hwant := wanted_of (E := E) (own := own) hg a w hat0
  unfold wpList
  rw [if_pos hwant]
  refine .inl ?_
  obtain ⟨hdf, g, H, hdn⟩ := hat0
  obtain ⟨hk1, hz, hk2, hz2, hz0⟩ := lstT_spec hT hkT
  rw [hT (T t).elem, hT t] at hones
  obtain ⟨i1, h1⟩ := slice_ti hk1
  obtain ⟨i2, d2, h2⟩ := ti_spec hk2
  obtain ⟨z, hz3, hz4⟩ := zero_spec h2 hz2
  have hzs : z.cells.size = sz := by rw [← hz0, hz4, Array.length_toList]
  have ex := hdn.ev x
  rw [hx] at ex
  rcases ex with ⟨b, hgk, ex⟩ | ⟨_, hn0, _⟩
  rotate_left
  · omega
  rcases hdn.ok k _ hk with ⟨ty, b', vs, e0, hv, hv1, hw, hH, hmine⟩ | ⟨e0, _⟩
  rotate_left
  · rw [e0] at hgk; cases hgk
  have hbb : b' = b := by rw [e0] at hgk; simpa using hgk
  subst hbb
  have hv0 : Dens g H (flatU rows1 ++ (flatU rows2 ++ anys r)) vs := by rw [bufC, flatU_app, List.append_assoc] at hv; exact hv
  obtain ⟨v1, v2, rfl, hva, hvb⟩ := Dens.append_inv hv0
  obtain ⟨v3, v4, rfl, hvc, hvd⟩ := Dens.append_inv hvb
  have hl1 : v1.length = rows1.length * sz := by rw [hva.length, flatU_len fun q hq => hr q (by simp [hq])]
  have hl3 : v3.length = rows2.length * sz := by rw [hvc.length, flatU_len fun q hq => hr q (by simp [hq])]
  have hl4 : v4.length = r := by rw [hvd.length]; simp [anys]
  have hz1 : ∀ v ∈ z.cells.toList, v.oneCell' = true := by
    rw [← hz4]
    exact (constsS_den g H _).oneCells hones
  have hone := zeroCells_one hz1 rows2.length
  have hzl : ((Builtin.zeroCells z.cells rows2.length).toList).length = rows2.length * sz := by rw [Array.length_toList, size_zeroCells, hzs]
  generalize hzv : (Builtin.zeroCells z.cells rows2.length).toList = zv at hone hzl
  have hst := run_storeCells_at E.P b' v1.length ty zv 0 (v1 ++ (v3 ++ v4)).toArray w hw (by simp [hzl, hl3]) hone
  have hsp : ((v1 ++ (v3 ++ v4)).toArray.toList.take (v1.length + 0) ++ zv ++ (v1 ++ (v3 ++ v4)).toArray.toList.drop (v1.length + 0 + zv.length)).toArray = (v1 ++ zv ++ v4).toArray := by
    congr 1
    simp only [Nat.add_zero]
    rw [List.take_left, List.drop_append, Nat.add_sub_cancel_left, List.drop_eq_nil_of_le (by omega), List.nil_append, List.drop_append, hzl, hl3, Nat.sub_self, List.drop_eq_nil_of_le (by omega)]
    rfl
  rw [hsp, hl1] at hst
  obtain ⟨ty', hd1⟩ := hdn.openB hk e0
  have hk' : ownq (setOwn k (.cells ty' (bufC (rows1 ++ rows2) r)) own) k = some (.cells ty' (bufC (rows1 ++ rows2) r)) := by rw [ownq_setOwn, if_pos rfl, hk]; rfl
  have hden : Dens g H (bufC rows1 (rows2.length * sz + r)) (v1 ++ zv ++ v4) := by
    rw [bufC, List.append_assoc]
    exact Dens.append hva (Dens.anys' (by rw [List.length_append, hzl, hl4]))
  have hone2 : ∀ v ∈ v1 ++ zv ++ v4, v.oneCell' = true := by
    intro v hv'
    rcases List.mem_append.1 hv' with hv' | hv'
    · rcases List.mem_append.1 hv' with hv' | hv'
      · exact hv1 v (by simp [hv'])
      · exact hone v hv'
    · exact hv1 v (by simp [hv'])
  have hd2 := hd1.write (new := bufC rows1 (rows2.length * sz + r)) hk' e0 hden hone2
  have hd3 := hd2.closeB (k := k) (ty := ty') (rw' := rows1) (nn := rows2.length * sz + r) (by rw [ownq_setOwn, if_pos rfl, hk']; rfl)
  rw [setOwn_setOwn, setOwn_setOwn] at hd3
  have hrun : (execOp a.eval o).run E.P w = .ok (.value (.tuple #[])) (w.setRow b' (v1 ++ zv ++ v4).toArray) := by
    have : (Builtin.clear_ #[t] o.type #[a.eval x]).run E.P w = .ok (.tuple #[]) (w.setRow b' (v1 ++ zv ++ v4).toArray) := by
      rw [ex]
      obtain ⟨q, hq⟩ : ∃ q, rows2.length = q + 1 := ⟨rows2.length - 1, by omega⟩
      rw [hq] at hzv ⊢
      unfold Builtin.clear_
      simp [run_underlying h1.und, zeroValue, typeInfo, h2.info, hz3, hzv, hst]
    simp only [execOp, ho, resolve, hcl, ha, hat]
    simp [invoke, builtin, this]
  unfold Oper.wp
  rw [hrun]
  exact kk _ _ (At.put hdf hd3 (show Den g H (.tup []) (.tuple #[]) from ⟨[], rfl, trivial⟩) fun d e => by rw [e] at hd; exact Nat.blt_eq.mp hd)
end Go.Eng
namespace Go.Proofs.Ytmnmhehddbemkaa
open Go Go.Eng
set_option maxRecDepth 100000

def cpt {α : Type} (e : α → α → Bool) : α → List α → List α
  | _, [] => []
  | p, x :: l => if e x p then cpt e x l else x :: cpt e x l
def cmpF {α : Type} (e : α → α → Bool) : List α → List α
  | [] => []
  | x :: l => x :: cpt e x l
theorem cpt_snoc {α : Type} (e : α → α → Bool) (x : α) : ∀ (l : List α) (p v : α), (p :: l).getLast? = some v → cpt e p (l ++ [x]) = cpt e p l ++ if e x v then [] else [x]
  | [], p, v, h => by
    simp only [List.getLast?_singleton, Option.some.injEq] at h
    subst h
    simp only [List.nil_append, cpt]
  | y :: l, p, v, h => by
    rw [List.getLast?_cons_cons] at h
    have ih := cpt_snoc e x l y v h
    simp only [List.cons_append, cpt, ih]
    split <;> rfl
theorem cmp_step {α : Type} (e : α → α → Bool) {l : List α} {i : Nat} {u v : α} (hi : 1 ≤ i) (hu : l[i]? = some u) (hv : l[i - 1]? = some v) : cmpF e (l.take (i + 1)) = cmpF e (l.take i) ++ if e u v then [] else [u] := by
  rw [List.take_add_one, hu]
  match l, i, hi with
  | [], _, _ => simp at hu
  | x :: l, i + 1, _ =>
    simp only [List.take_succ_cons, Option.toList_some, List.cons_append, cmpF]
    rw [cpt_snoc e u (l.take i) x v]
    have h2 : i < (x :: l).length := by have := (List.getElem?_eq_some_iff.1 hu).1; omega
    rw [show x :: l.take i = (x :: l).take (i + 1) from rfl, List.getLast?_eq_getElem?, List.length_take, Nat.min_eq_left (by omega), List.getElem?_take, if_pos (by omega)]
    exact hv
theorem cmp_one {α : Type} (e : α → α → Bool) (l : List α) : cmpF e (l.take 1) = l.take 1 := by
  cases l <;> rfl
theorem cpt_len {α : Type} (e : α → α → Bool) : ∀ (l : List α) (p : α), (cpt e p l).length ≤ l.length
  | [], _ => by simp [cpt]
  | x :: l, p => by
    have := cpt_len e l x
    rw [cpt]
    split <;> simp <;> omega
theorem cmp_len {α : Type} (e : α → α → Bool) (l : List α) : (cmpF e l).length ≤ l.length := by
  cases l with
  | nil => simp [cmpF]
  | cons x l => simp [cmpF, cpt_len]

/-- What stands in the cells while the later ones are drawn forward. -/
structure Cin {α : Type} (e : α → α → Bool) (l : List α) (m k : Nat) (B : List α) : Prop where
  len : B.length = l.length
  k1 : 1 ≤ k
  km : k < m
  ml : m ≤ l.length
  lo : B.take k = cmpF e (l.take m)
  hi : B.drop (m - 1) = l.drop (m - 1)
theorem Cin.at {α : Type} {e : α → α → Bool} {l : List α} {m k : Nat} {B : List α} (h : Cin e l m k B) {i : Nat} (hi : m - 1 ≤ i) : B[i]? = l[i]? := by
  have := congrArg (fun q => q[i - (m - 1)]?) h.hi
  simp only [List.getElem?_drop] at this
  rw [show m - 1 + (i - (m - 1)) = i by omega] at this
  exact this
theorem Cin.start {α : Type} {e : α → α → Bool} {l : List α} {i : Nat} {u v : α} (hi : 1 ≤ i) (hil : i < l.length) (hu : l[i]? = some u) (hv : l[i - 1]? = some v) (he : e u v = true) (hc : cmpF e (l.take i) = l.take i) : Cin e l (i + 1) i l :=
  ⟨rfl, hi, by omega, by omega, by rw [cmp_step e hi hu hv, he, hc]; simp, rfl⟩
theorem Cin.skip {α : Type} {e : α → α → Bool} {l : List α} {m k : Nat} {B : List α} {u v : α} (h : Cin e l m k B) (hm : m < l.length) (hu : l[m]? = some u) (hv : l[m - 1]? = some v) (he : e u v = true) : Cin e l (m + 1) k B :=
  ⟨h.len, h.k1, by have := h.km; omega, hm, by have := h.km; rw [cmp_step e (by omega) hu hv, he, h.lo]; simp, by
    apply List.ext_getElem?
    intro j
    rw [List.getElem?_drop, List.getElem?_drop]
    exact h.at (by omega)⟩
theorem Cin.keep {α : Type} {e : α → α → Bool} {l : List α} {m k : Nat} {B : List α} {u v : α} (h : Cin e l m k B) (hm : m < l.length) (hu : l[m]? = some u) (hv : l[m - 1]? = some v) (he : e u v = false) : Cin e l (m + 1) (k + 1) (B.set k u) := by
  have h1 := h.km
  have h2 := h.len
  refine ⟨by simp [h2], by have := h.k1; omega, by omega, hm, ?_, ?_⟩
  · rw [cmp_step e (by have := h.k1; omega) hu hv, he, ← h.lo, List.take_add_one, List.take_set_of_le (by omega), List.getElem?_set_self (by omega)]
    simp
  · apply List.ext_getElem?
    intro j
    rw [List.getElem?_drop, List.getElem?_drop, List.getElem?_set_ne (by omega)]
    exact h.at (by omega)
theorem Cin.done {α : Type} {e : α → α → Bool} {l : List α} {k : Nat} {B : List α} (h : Cin e l l.length k B) : B.take k = cmpF e l ∧ k = (cmpF e l).length := by
  have e1 := h.lo
  rw [List.take_length] at e1
  refine ⟨e1, ?_⟩
  rw [← e1, List.length_take, Nat.min_eq_left]
  have := h.km
  have := h.len
  omega

abbrev slO (l : List Tm) (r : Nat) : List (Nat × SO) := [(0, .buf (rowsT l) r)]
theorem rowsT_set (B : List Tm) (k : Nat) (u : Tm) : (rowsT B).set k (tr u) = rowsT (B.set k u) := by
  rw [rowsT_map, rowsT_map, List.map_set]; cases u; rfl
theorem rowsT_at {l : List Tm} {i : Nat} {u : Tm} (h : l[i]? = some u) : (rowsT l)[i]? = some (tr u) := by
  rw [rowsT_map, List.getElem?_map, h]; cases u; rfl

theorem cmpact_fn (l : List Tm) (c r : Nat) (hl : l.length ≤ 1000000) (hc : l.length ≤ c) (hsm : ∀ t ∈ l, Sm t) :
    Contract Try.prog 83 1 (slO l r) [.sl 0 0 l.length c, .clo 45 []] fun s post => s = .sl 0 0 (cmpF same l).length c ∧ post = slO (cmpF same l) ((l.length - (cmpF same l).length) * 4 + r) := by
  refine contract_of ty_ok [1, 2, 3, 4, 5, 6, 7] Try.func83 rfl (by decide) Try.ntmps83 rfl fun z => ?_
  refine run 400 rfl ?_
  refine at_ifd rfl (fun g => ?_) (fun g => ?_)
  · have e : cmpF same l = l := by
      match l, g with
      | [], _ => rfl
      | [x], _ => rfl
      | _ :: _ :: l, g => simp at g; omega
    refine run 400 rfl ?_
    exact at_ret rfl rfl (slO l r) ⟨by rw [e], by rw [e, Nat.sub_self, Nat.zero_mul, Nat.zero_add]⟩ ⟨rfl, trivial⟩
  refine run 400 rfl ?_
  refine at_loop (fun i : Nat => 1 ≤ i ∧ i ≤ l.length ∧ cmpF same (l.take i) = l.take i) (fun i => [(0, .sl 0 0 l.length c), (1, .clo 45 []), (5, I i)]) (fun _ => slO l r) (fun i => l.length - i) [1, 2, 3, 4, 5, 6, 7]
    1 ⟨by omega, by omega, cmp_one _ _⟩ ⟨SVle.refl _, SVle.refl _, SVle.refl _, trivial⟩ ⟨rfl, trivial⟩ ?_
  rintro i ⟨a1, a2, a3⟩
  refine run 400 rfl ?_
  refine at_ifd rfl (fun g => ?_) (fun g => ?_)
  rotate_left
  · have e : i = l.length := by omega
    subst e
    rw [List.take_length] at a3
    refine run 400 rfl ?_
    exact at_ret rfl rfl (slO l r) ⟨by rw [a3], by rw [a3, Nat.sub_self, Nat.zero_mul, Nat.zero_add]⟩ ⟨rfl, trivial⟩
  have hlt : i < l.length := by omega
  obtain ⟨u, hu⟩ : ∃ u, l[i]? = some u := ⟨_, List.getElem?_eq_getElem hlt⟩
  obtain ⟨v, hv⟩ : ∃ v, l[i - 1]? = some v := ⟨_, List.getElem?_eq_getElem (by omega)⟩
  have hsu := hsm u (List.mem_of_getElem? hu)
  have h63 : ((i : Int) - 1).toNat = i - 1 := by omega
  refine run 400 rfl ?_
  refine at_drawn 11 rfl rfl [(3, .val (.ptr 0 (0 + (i : Int).toNat * 4))), (4, .val u.sv), (8, .val (.ptr 0 (0 + ((i : Int) - 1).toNat * 4))), (9, .val v.sv), (10, .sv (.bl (same u v)))] [1, 2, 3] rfl
    ⟨tsame_fn u v hsu, does_loadB (sz := 4) (i := i - 1) ty_ok rfl rfl rfl rfl rfl (by omega) rowsT_sz (rowsT_at hv), does_indexS ty_ok rfl rfl rfl (by omega) rfl, by constructor <;> omega, does_loadB (sz := 4) (i := i) ty_ok rfl rfl rfl rfl rfl (by omega) rowsT_sz (rowsT_at hu), does_indexS ty_ok rfl rfl rfl (by omega) rfl⟩ ?_
  refine run 400 rfl ?_
  refine at_if rfl (fun q => ?_) (fun q => ?_)
  rotate_left
  · have q : same u v = false := by simpa using q
    refine run 400 rfl ?_
    exact at_again (i + 1) ⟨by omega, by omega, by rw [cmp_step same a1 hu hv, q, a3, List.take_add_one, hu]; rfl⟩ (by omega) ⟨SVle.refl _, SVle.refl _, SVle.of_eq (by show I ((i : Int) + 1) = I ((i + 1 : Nat) : Int); rw [Int.natCast_add]; rfl), trivial⟩ ⟨rfl, trivial⟩
  have q : same u v = true := by simpa using q
  refine run 400 rfl ?_
  refine at_val (.sl 0 (0 + (i : Int).toNat * 4) (l.length - (i : Int).toNat) (c - (i : Int).toNat)) (does_sliceS_l ty_ok rfl rfl rfl (by omega) hc rfl) ?_
  refine run 400 rfl ?_
  have hst := Cin.start a1 hlt hu hv q a3
  clear hsu hu hv q
  refine at_loop (fun p : Nat × Nat × List Tm => 1 ≤ p.1 ∧ Cin same l (i + p.1) p.2.1 p.2.2) (fun p => [(0, .sl 0 0 l.length c), (1, .clo 45 []), (5, I p.2.1), (6, .sl 0 (0 + (i : Int).toNat * 4) (l.length - (i : Int).toNat) (c - (i : Int).toNat)), (7, I p.1)]) (fun p => slO p.2.2 r) (fun p => l.length - p.1) [1, 2, 3, 4, 5, 6, 7]
    (1, i, l) ⟨Nat.le_refl _, hst⟩ ⟨SVle.refl _, SVle.refl _, SVle.refl _, SVle.refl _, SVle.refl _, trivial⟩ ⟨rfl, trivial⟩ ?_
  rintro ⟨j, k, B⟩ ⟨b1, b2⟩
  dsimp only at b1 b2
  have c1 := b2.k1
  have c2 := b2.km
  have c3 := b2.ml
  have c4 := b2.len
  refine run 400 rfl ?_
  refine at_ifd rfl (fun g2 => ?_) (fun g2 => ?_)
  rotate_left
  · have e : i + j = l.length := by simp at g2; omega
    rw [e] at b2
    obtain ⟨d1, d2⟩ := b2.done
    refine run 400 rfl ?_
    refine at_val (.sl 0 (0 + (k : Int).toNat * 4) (l.length - (k : Int).toNat) (c - (k : Int).toNat)) (does_sliceS_l ty_ok rfl rfl rfl (by omega) hc rfl) ?_
    refine at_clearS (rowsT (B.take k)) (rowsT (B.drop k)) ty_ok rfl rfl rfl rfl rfl rfl (by rw [← rowsT_app, List.take_append_drop]) rowsT_sz (by rw [rowsT_len, List.length_take]; omega) (by rw [rowsT_len, List.length_drop]; omega) (by omega) rfl ?_
    refine run 400 rfl ?_
    refine at_val (.sl 0 0 (k : Int).toNat c) (does_sliceS_h (sz := 4) ty_ok rfl rfl rfl (by omega) rfl) ?_
    refine run 400 rfl ?_
    exact at_ret rfl rfl (slO (cmpF same l) ((l.length - (cmpF same l).length) * 4 + r)) ⟨by show SV.sl _ _ _ _ = _; rw [← d2]; rfl, rfl⟩ ⟨by rw [← d2, ← d1]; rfl, trivial⟩
  have hlt2 : i + j < l.length := by simp at g2; omega
  obtain ⟨u, hu⟩ : ∃ u, l[i + j]? = some u := ⟨_, List.getElem?_eq_getElem hlt2⟩
  obtain ⟨v, hv⟩ : ∃ v, l[i + j - 1]? = some v := ⟨_, List.getElem?_eq_getElem (by omega)⟩
  have hsu := hsm u (List.mem_of_getElem? hu)
  have hBu : B[i + j]? = some u := by rw [b2.at (by omega)]; exact hu
  have hBv : B[i + j - 1]? = some v := by rw [b2.at (by omega)]; exact hv
  refine run 400 rfl ?_
  refine at_drawn 11 rfl rfl [(3, .val (.ptr 0 (0 + (i : Int).toNat * 4 + (j : Int).toNat * 4))), (4, .val u.sv), (8, .val (.ptr 0 (0 + (i : Int).toNat * 4 + ((j : Int) - 1).toNat * 4))), (9, .val v.sv), (10, .sv (.bl (same u v)))] [1, 2, 3] rfl
    ⟨tsame_fn u v hsu, does_loadB (sz := 4) (i := i + j - 1) ty_ok rfl rfl rfl rfl rfl (by omega) rowsT_sz (rowsT_at hBv), does_indexS ty_ok rfl rfl rfl (by omega) rfl, by constructor <;> omega, does_loadB (sz := 4) (i := i + j) ty_ok rfl rfl rfl rfl rfl (by omega) rowsT_sz (rowsT_at hBu), does_indexS ty_ok rfl rfl rfl (by omega) rfl⟩ ?_
  refine run 400 rfl ?_
  refine at_if rfl (fun q => ?_) (fun q => ?_)
  rotate_left
  · have q : same u v = true := by simpa using q
    refine run 400 rfl ?_
    exact at_again (j + 1, k, B) ⟨by dsimp only; omega, b2.skip hlt2 hu hv q⟩ (by dsimp only; omega) ⟨SVle.refl _, SVle.refl _, SVle.refl _, SVle.refl _, SVle.of_eq (by show I ((j : Int) + 1) = I ((j + 1 : Nat) : Int); rw [Int.natCast_add]; rfl), trivial⟩ ⟨rfl, trivial⟩
  have q : same u v = false := by simpa using q
  refine run 400 rfl ?_
  refine at_val (.ptr 0 (0 + (i : Int).toNat * 4 + (j : Int).toNat * 4)) (does_indexS ty_ok rfl rfl rfl (by omega) rfl) ?_
  refine at_val u.sv (does_loadB (sz := 4) (i := i + j) ty_ok rfl rfl rfl rfl rfl (by omega) rowsT_sz (rowsT_at hBu)) ?_
  refine at_val (.ptr 0 (0 + (k : Int).toNat * 4)) (does_indexS ty_ok rfl rfl rfl (by omega) rfl) ?_
  refine at_storeB (sz := 4) (i := k) ty_ok (tr u) rfl rfl rfl rfl rfl (fun e => by cases e) rfl (by omega) rowsT_sz (by show k < (rowsT B).length; rw [rowsT_len]; omega) rfl rfl ?_
  refine run 400 rfl ?_
  exact at_again (j + 1, k + 1, B.set k u) ⟨by dsimp only; omega, b2.keep hlt2 hu hv q⟩ (by dsimp only; omega) ⟨SVle.refl _, SVle.refl _, SVle.of_eq (by show I ((k : Int) + 1) = I ((k + 1 : Nat) : Int); rw [Int.natCast_add]; rfl), SVle.refl _, SVle.of_eq (by show I ((j : Int) + 1) = I ((j + 1 : Nat) : Int); rw [Int.natCast_add]; rfl), trivial⟩ ⟨by show some (SO.buf ((rowsT B).set k (tr u)) r) = some (.buf (rowsT (B.set k u)) r); rw [rowsT_set], trivial⟩
end Go.Proofs.Ytmnmhehddbemkaa
/- The proof engine: two names change places. -/
namespace Go.Eng

def swpN (a b : Nat) : Nat → Nat := fun k => bif Nat.beq k a then b else bif Nat.beq k b then a else k
theorem swpN_swpN (a b k : Nat) : swpN a b (swpN a b k) = k := by
  unfold swpN
  cases h1 : Nat.beq k a with
  | true =>
    have e := beq_true h1
    subst e
    simp only [cond_true]
    cases h2 : Nat.beq b k with
    | true => simpa using beq_true h2
    | false => simp
  | false =>
    simp only [cond_false]
    cases h2 : Nat.beq k b with
    | true =>
      have e := beq_true h2
      subst e
      simp only [cond_true]
      simp
    | false => simp [h1, h2]

mutual
theorem ren_ren {r : Nat → Nat} (hr : ∀ k, r (r k) = k) : ∀ s : SV, ren r (ren r s) = s
  | .int _ _ => rfl
  | .bl _ => rfl
  | .tt => rfl
  | .ff => rfl
  | .str _ => rfl
  | .val _ => rfl
  | .lst _ _ => rfl
  | .gl k _ _ => by simp only [ren, hr]
  | .tl _ _ => rfl
  | .arr k _ => by simp only [ren, hr]
  | .sl k _ _ _ => by simp only [ren, hr]
  | .mp k => by simp only [ren, hr]
  | .ptr k _ => by simp only [ren, hr]
  | .rp _ _ => rfl
  | .agg l => by simp only [ren, rens_rens hr l]
  | .tup l => by simp only [ren, rens_rens hr l]
  | .clo _ l => by simp only [ren, rens_rens hr l]
  | .any => rfl
theorem rens_rens {r : Nat → Nat} (hr : ∀ k, r (r k) = k) : ∀ l : List SV, rens r (rens r l) = l
  | [] => rfl
  | s :: l => by simp only [rens, ren_ren hr s, rens_rens hr l]
end

def renE (r : Nat → Nat) : List (Nat × SV) → List (Nat × SV)
  | [] => []
  | (t, s) :: l => (t, ren r s) :: renE r l
theorem nth_renE (r : Nat → Nat) : ∀ (env : List (Nat × SV)) (t : Nat), nth (renE r env) t = ren r (nth env t)
  | [], _ => rfl
  | (i, s) :: l, t => by
    simp only [renE, nth]
    cases Nat.beq i t with
    | true => rfl
    | false => exact nth_renE r l t

theorem ownq_mapO' {r : Nat → Nat} (hr : ∀ k, r (r k) = k) : ∀ (l : List (Nat × SO)) (j : Nat), ownq (mapO r l) j = (ownq l (r j)).map (renO r)
  | [], _ => rfl
  | (k, o) :: l, j => by
    simp only [mapO, ownq]
    have e : Nat.beq (r k) j = Nat.beq k (r j) := by
      cases h1 : Nat.beq (r k) j with
      | true =>
        have := beq_true h1
        subst this
        rw [hr]; simp
      | false =>
        cases h2 : Nat.beq k (r j) with
        | false => rfl
        | true =>
          have := beq_true h2
          subst this
          rw [hr] at h1
          simp at h1
    rw [e]
    cases Nat.beq k (r j) with
    | true => rfl
    | false => exact ownq_mapO' hr l j

theorem at_swap {E : Stc} {m : Md} {s : List Fr} {env : List (Nat × SV)} {own : List (Nat × SO)} {nx : List Nat} (a b : Nat) (kk : Sat E m s (renE (swpN a b) env) (mapO (swpN a b) own) nx) (ha : Nat.ble E.cx.m0 a = true := by rfl) (hb : Nat.ble E.cx.m0 b = true := by rfl) : Sat E m s env own nx := by
  refine sat_mono (fun ac w h => ?_) kk
  obtain ⟨hdf, g, H, hd⟩ := h
  have hr := swpN_swpN a b
  have ha := Nat.le_of_ble_eq_true ha
  have hb := Nat.le_of_ble_eq_true hb
  have den : ∀ s x, Den g H s x → Den (fun k => g (swpN a b k)) H (ren (swpN a b) s) x := fun s x h =>
    Den.unren (g := fun k => g (swpN a b k)) (g' := g) (r := swpN a b) (fun _ => rfl) (ren (swpN a b) s) x (by rw [ren_ren hr]; exact h)
  have dens : ∀ l xs, Dens g H l xs → Dens (fun k => g (swpN a b k)) H (rens (swpN a b) l) xs := fun l xs h =>
    Dens.unren (g := fun k => g (swpN a b k)) (g' := g) (r := swpN a b) (fun _ => rfl) (rens (swpN a b) l) xs (by rw [rens_rens hr]; exact h)
  have hfix : ∀ k, k < E.cx.m0 → swpN a b k = k := fun k hk => by
    unfold swpN
    have h1 : Nat.beq k a = false := by
      cases h : Nat.beq k a with
      | false => rfl
      | true => have := beq_true h; omega
    have h2 : Nat.beq k b = false := by
      cases h : Nat.beq k b with
      | false => rfl
      | true => have := beq_true h; omega
    simp [h1, h2]
  refine ⟨hdf, fun k => g (swpN a b k), H, { size := hd.size, den := fun t => by rw [nth_renE]; exact den _ _ (hd.den t), ok := fun k o hk => ?_, inj := fun i j hi hj c hci hcj => ?_, hp := hd.hp, base := { hd.base with fix := fun k hk => by show g (swpN a b k) = _; rw [hfix k hk]; exact hd.base.fix k hk } }⟩
  · rw [ownq_mapO' hr] at hk
    cases ho : ownq own (swpN a b k) with
    | none => rw [ho] at hk; cases hk
    | some so =>
      rw [ho] at hk
      simp only [Option.map_some, Option.some.injEq] at hk
      subst hk
      have := hd.ok _ _ ho
      cases so with
      | cells ty cs =>
        obtain ⟨b, vs, e, h1, h2⟩ := this
        exact ⟨b, vs, e, dens cs vs h1, h2⟩
      | tok sz => exact this
      | obj f => exact this
      | buf rw nn =>
        rcases this with ⟨ty, b, ws, e, h1, h2⟩ | h
        · exact .inl ⟨ty, b, ws, e, Dens.plain g _ H rw nn ws h1, h2⟩
        · exact .inr h
  · have key : ∀ i, (ownq (mapO (swpN a b) own) i).isSome = true → (ownq own (swpN a b i)).isSome = true := fun i hi => by
      rw [ownq_mapO' hr] at hi
      simpa using hi
    have e := hd.inj _ _ (key i hi) (key j hj) c hci hcj
    have := congrArg (swpN a b) e
    rw [hr, hr] at this
    exact this
end Go.Eng
namespace Go.Eng
open Go.Sort

theorem putRow_at {α : Type} [Inhabited α] (enc : α → Value) (w : World) (b ty : Nat) (v1 v2 : List Value) (d : Array α) (h : w.heap[b]? = some (.cells (v1 ++ v2).toArray ty (0, 0))) (hs : d.size = v1.length) :
    putRow enc w b 0 d = w.setRow b (d.toList.map enc ++ v2).toArray := by
  show mapBlock w b (putCells enc 0 d) = mapBlock w b (fun _ => (d.toList.map enc ++ v2).toArray)
  refine mapBlock_congr w b _ _ fun c e fr hc => ?_
  rw [h] at hc
  cases hc
  unfold putCells
  apply Array.ext
  · simp [hs]
  · intro i h1 h2
    simp only [Array.size_mapIdx, List.size_toArray, List.length_append] at h1
    simp only [Array.getElem_mapIdx, List.getElem_toArray]
    by_cases hi : i < d.size
    · rw [if_pos ⟨Nat.zero_le _, by omega⟩, List.getElem_append_left (by simpa using hi), List.getElem_map, Nat.sub_zero, getElem!_pos d i hi]
      rfl
    · rw [if_neg (by omega), List.getElem_append_right (by omega), List.getElem_append_right (by simpa using hi)]
      simp only [List.length_map, Array.length_toList, hs]

theorem holds_at {α : Type} [Inhabited α] (enc : α → Value) (w : World) (b ty : Nat) (v2 : List Value) (d : Array α) (h : w.heap[b]? = some (.cells (d.toList.map enc ++ v2).toArray ty (0, 0))) : Holds enc w b 0 d := by
  intro j hj
  refine ⟨?_, by simp [World.frozen?, h]⟩
  rw [Nat.zero_add, ok_cell h, List.getElem?_append_left (by simpa using hj), List.getElem?_map, Array.getElem?_toList, Array.getElem?_eq_getElem hj, getElem!_pos d j hj]
  rfl

theorem flatten_get {β : Type} {k : Nat} : ∀ (L : List (List β)), (∀ x ∈ L, x.length = k) → ∀ i j, j < k → L.flatten[i * k + j]? = (L[i]?).bind (·[j]?)
  | [], _, i, j, _ => by simp
  | x :: L, h, 0, j, hj => by
    have := h x (by simp)
    simp only [List.flatten_cons, Nat.zero_mul, Nat.zero_add, List.getElem?_cons_zero, Option.bind_some]
    rw [List.getElem?_append_left (by omega)]
  | x :: L, h, i + 1, j, hj => by
    have h1 := h x (by simp)
    have ih := flatten_get L (fun y hy => h y (by simp [hy])) i j hj
    simp only [List.flatten_cons, List.getElem?_cons_succ]
    rw [← ih, List.getElem?_append_right (by rw [h1, Nat.add_mul]; omega), h1]
    congr 1
    rw [Nat.add_mul]
    omega
theorem flatK_eq {α : Type} [Inhabited α] (enc : α → List Value) (k : Nat) (hk : ∀ x, (enc x).length = k) (es : List α) : (flatK enc k es.toArray).toList = (es.map enc).flatten := by
  have hlen : (es.map enc).flatten.length = es.length * k := by
    induction es with
    | nil => simp
    | cons x l ih => simp only [List.map_cons, List.flatten_cons, List.length_append, hk, ih, List.length_cons, Nat.add_mul]; omega
  apply List.ext_getElem?
  intro t
  by_cases ht : t < es.length * k
  · have k0 : 0 < k := by
      rcases Nat.eq_zero_or_pos k with h | h
      · subst h; simp at ht
      · exact h
    have hi : t / k < es.length := (Nat.div_lt_iff_lt_mul k0).2 ht
    have hj : t % k < k := Nat.mod_lt _ k0
    have e : t / k * k + t % k = t := Nat.div_add_mod' t k
    have h1 := flatten_get (es.map enc) (fun x hx => by obtain ⟨y, _, rfl⟩ := List.mem_map.1 hx; exact hk y) (t / k) (t % k) hj
    rw [e] at h1
    rw [h1, List.getElem?_map, List.getElem?_eq_getElem hi]
    have h2 : t < (flatK enc k es.toArray).size := by simpa using ht
    rw [Array.getElem?_toList, Array.getElem?_eq_getElem h2]
    have h3 := get_flatK enc k es.toArray t (by simpa using ht)
    rw [getElem!_pos _ t h2] at h3
    rw [h3, getElem!_pos es.toArray (t / k) (by simpa using hi), getElem!_pos _ _ (by rw [hk]; exact hj)]
    simp [hk, hj]
  · rw [List.getElem?_eq_none (by simpa using Nat.not_lt.1 ht), List.getElem?_eq_none (by omega)]

/-- A world that differs by what was drawn and what was laid. -/
theorem world_grow {w w' : World} (hos : w'.os = w.os) (ht : w'.tape = w.tape) (ho : w'.output = w.output) (hd : w.drawn ≤ w'.drawn) (hz : w.heap.size ≤ w'.heap.size) (hb : ∀ b, b < w.heap.size → w'.heap[b]? = w.heap[b]?) :
    ∃ q os', w' = grow (w.drewN q) os' := by
  refine ⟨w'.drawn - w.drawn, w'.heap.extract w.heap.size w'.heap.size, ?_⟩
  obtain ⟨h', t', d', o', p'⟩ := w'
  obtain ⟨h, t, d, o, p⟩ := w
  simp only at hos ht ho hd hz hb
  subst hos; subst ht; subst ho
  simp only [grow, World.drewN, World.mk.injEq, and_true, true_and]
  refine ⟨?_, by omega⟩
  apply Array.ext_getElem?
  intro i
  by_cases hi : i < h.size
  · rw [Array.getElem?_append_left hi]
    exact hb i hi
  · rw [Array.getElem?_append_right (by omega), Array.getElem?_extract]
    by_cases hi2 : i < h'.size
    · rw [if_pos (by omega)]
      congr 1
      omega
    · rw [if_neg (by omega), Array.getElem?_eq_none (by omega)]
end Go.Eng

namespace Go.Proofs.Ytmnmhehddbemkaa
open Go Go.Eng Go.Shelf Go.RowKit Go.Lib Go.Sort
set_option maxRecDepth 100000
shelf_lay_g SlLaysF0.n6 Slsf 6 at Try 81 as Try.sortTm

/-- Elements: terms, as they stand in memory. -/
structure SE (H : Hp) where
  t : Tm
  vs : List Value
  sm : Sm t
  den : DenDs H (tr t) vs
abbrev zE : Tm := .mk 0 0 .empty []
theorem z0_den (H : Hp) : DenDs H (tr zE) [.int .i64 0, .int .i64 0, .string .empty, .slice none 0 0] := by
  refine ⟨rfl, rfl, rfl, ?_, trivial⟩
  show DenD H (.lst 4 (rowsT [])) _
  rw [rowsT_nil]
  exact ⟨none, 0, rfl, Nat.le_refl _, fun _ => ⟨rfl, rfl⟩, fun p hp => by cases hp⟩
instance (H : Hp) : Inhabited (SE H) := ⟨⟨zE, [.int .i64 0, .int .i64 0, .string .empty, .slice none 0 0], .mk (by simp) (by simp), z0_den H⟩⟩
def encE {H : Hp} (x : SE H) : List Value := x.vs
def cfE {H : Hp} (x y : SE H) : Int := ordT x.t y.t
theorem encE_len {H : Hp} (x : SE H) : (encE x).length = 4 := by
  obtain ⟨t, vs, h1, h2⟩ := x
  match vs, h2 with
  | [_, _, _, _], _ => rfl
  | [], h => exact h.elim
  | [_], h => exact h.2.elim
  | [_, _], h => exact h.2.2.elim
  | [_, _, _], h => exact h.2.2.2.elim
  | _ :: _ :: _ :: _ :: _ :: _, h => exact h.2.2.2.2.elim
theorem encE_one {H : Hp} (x : SE H) : ∀ v ∈ encE x, v.oneCell' = true := x.den.one
theorem swoE (H : Hp) : SWO (ltOf (cfE (H := H))) where
  irrefl x := by unfold ltOf cfE; rw [ord_irr]; rfl
  trans x y z h1 h2 := by
    unfold ltOf cfE at *
    simp only [decide_eq_true_eq] at *
    exact ord_trans h1 h2
  ntrans x y z h1 h2 := by
    unfold ltOf cfE at *
    simp only [decide_eq_false_iff_not] at *
    have e1 := ord_anti x.t y.t
    have e2 := ord_anti y.t z.t
    have e3 := ord_anti x.t z.t
    have := (tr_ord z.t y.t x.t (by omega) (by omega)).1
    omega

theorem elems {H : Hp} : ∀ (l : List Tm) (vs : List Value), (∀ t ∈ l, Sm t) → DenF H 4 (rowsT l) vs → ∃ es : List (SE H), es.map (·.t) = l ∧ (es.map encE).flatten = vs
  | [], vs, _, h => by rw [rowsT_nil] at h; exact ⟨[], rfl, (show vs = [] from h).symm⟩
  | t :: l, vs, hs, h => by
    rw [rowsT_cons] at h
    obtain ⟨v1, v2, rfl, h1, h2, h3⟩ := h
    obtain ⟨es, e1, e2⟩ := elems l v2 (fun x hx => hs x (by simp [hx])) h3
    exact ⟨⟨t, v1, hs t (by simp), h1⟩ :: es, by simp [e1], by simp [e2, encE]⟩
theorem elems_den {H : Hp} : ∀ (es : List (SE H)), DenF H 4 (rowsT (es.map (·.t))) (es.map encE).flatten
  | [] => by rw [List.map_nil, rowsT_nil]; rfl
  | x :: es => by
    rw [List.map_cons, rowsT_cons, List.map_cons, List.flatten_cons]
    exact ⟨_, _, rfl, x.den, encE_len x, elems_den es⟩

theorem cmpLaysE {H : Hp} {w : World} {b n : Nat} (hH : H.on w) (hb : ∀ o, H b o = none) : CmpLays Try.prog 77 #[] (encE (H := H)) 4 cfE b 0 n w := by
  intro m os dk hdk x y
  have hW : H.on (sortWorldK encE 4 w b 0 m dk os) := by
    intro b' o v hv
    have hne : b' ≠ b := fun e => by rw [e, hb] at hv; cases hv
    have hlt := Hp.on_lt hH hv
    rw [World.cell?_same (w := w)]
    · exact hH b' o v hv
    · show (grow (putRowK encE 4 (Sort.ahead w m) b 0 dk) os).heap[b']? = _
      have e1 : (putRowK encE 4 (Sort.ahead w m) b 0 dk).heap[b']? = w.heap[b']? := by
        show ((Sort.ahead w m).heap.modify b _)[b']? = _
        rw [Array.getElem?_modify, if_neg (Ne.symm hne)]
        rfl
      have e2 : (putRowK encE 4 (Sort.ahead w m) b 0 dk).heap.size = w.heap.size := by
        show ((Sort.ahead w m).heap.modify b _).size = _
        rw [Array.size_modify]
        rfl
      show ((putRowK encE 4 (Sort.ahead w m) b 0 dk).heap ++ os)[b']? = _
      rw [Array.getElem?_append_left (by rw [e2]; exact hlt), e1]
  have hc := tcmp_fn x.t y.t x.sm
  have hd : Dens (fun _ => undef) H [x.t.sv, y.t.sv] [.agg (encE x).toArray, .agg (encE y).toArray] := ⟨⟨_, rfl, ups_den x.den⟩, ⟨_, rfl, ups_den y.den⟩, trivial⟩
  refine (hc.2 (fun _ => undef) H _ _ hW (fun k o hk => by simp [ownq] at hk) (fun i j hi => by simp [ownq] at hi) hd).mono fun e w' he => ?_
  cases e with
  | returned v =>
    obtain ⟨g', H', sv, own, ⟨rfl, _, rfl⟩, hv, _, _, _, hbase⟩ := he
    have e : v = .int .i64 (cfE x y) := hv
    subst e
    refine ⟨rfl, world_grow hbase.os hbase.tape hbase.output hbase.drawn hbase.size fun c hc => hbase.block c hc ?_⟩
    rintro ⟨k, hk, _⟩
    simp [ownq] at hk
  | _ => exact he.elim

theorem perm_full {α : Type} [Inhabited α] {d d' : Array α} (h : PermIn 0 d.size d d') : d'.toList.Perm d.toList := by
  have h1 := h.2.2
  have e1 : d'.extract 0 d.size = d' := by rw [← h.1]; simp
  rw [e1] at h1
  simpa using h1

/-- Nothing that stands behind is less. -/
def Srt (l : List Tm) : Prop := l.Pairwise fun a b => ¬ ordT b a < 0

variable {E : Stc} {all rest : List Oper} {o : Oper} {s : List Fr} {env : List (Nat × SV)} {own : List (Nat × SO)} {nx : List Nat}

/-- Terms are sorted in place. -/
theorem at_sortT (k : Nat) {l : List Tm} (hP : E.P = Try.prog) (hc : callK o.op env (fun f l => some (f, l)) none = some (81, [.arr k l.length, .clo 77 []])) (hk : ownq own k = some (.buf (rowsT l) 0)) (hsm : ∀ t ∈ l, Sm t) (hl : l.length ≤ 1000000)
    (kk : ∀ l' : List Tm, l'.Perm l → Srt l' → Sat E (.ops all rest) s (put o.dst (.tup []) env) (setOwn k (.buf (rowsT l') 0) own) nx)
    (hg : guardK all o.guard env true false false = true := by rfl) (hd : dstLt o.dst E.n = true := by rfl) : Sat E (.ops all (o :: rest)) s env own nx := by
  intro a w hat0
  have hwant := wanted_of (E := E) (own := own) hg a w hat0
  unfold wpList
  rw [if_pos hwant]
  refine .inl ?_
  obtain ⟨hdf, g, H, hdn⟩ := hat0
  have hE : Enter E.P 81 := by rw [hP]; exact enter_of Try.func81 rfl (by decide)
  obtain ⟨vs0, hv0, hr⟩ := run_call (P := E.P) hdn hE hc
  obtain ⟨x, f, rfl, hx, hf⟩ : ∃ x f, vs0 = [x, f] ∧ Den g H (.arr k l.length) x ∧ Den g H (.clo 77 []) f := by
    match vs0, hv0 with
    | [x, f], h => exact ⟨x, f, rfl, h.1, h.2.1⟩
    | [], h => exact h.elim
    | [_], h => exact h.2.elim
    | _ :: _ :: _ :: _, h => exact h.2.2.elim
  obtain ⟨b0, hg0, rfl⟩ := hx
  obtain ⟨cs, rfl, hcs⟩ := hf
  obtain rfl : cs = [] := by
    cases cs with
    | nil => rfl
    | cons _ _ => exact hcs.elim
  rcases hdn.ok k _ hk with ⟨ty, b, vs, hgk, hv, hone, hw, hH, hm⟩ | ⟨hgk, _⟩
  rotate_left
  · rw [hgk] at hg0; cases hg0
  have hbb : b0 = b := by rw [hgk] at hg0; simpa using hg0.symm
  subst hbb
  have hv' : Dens g H (flatU (rowsT l)) vs := by have := hv; rw [bufC] at this; simpa [anys] using this
  have hF := DenF.of_flatU rowsT_sz hv'
  obtain ⟨es, e1, e2⟩ := elems l vs hsm hF
  have hlen : es.toArray.size = l.length := by rw [← e1]; simp
  have hwf : w.heap[b0]? = some (.cells (((flatK encE 4 es.toArray).toList.map id) ++ []).toArray ty (0, 0)) := by
    rw [List.map_id, List.append_nil, flatK_eq encE 4 encE_len, e2]
    exact hw
  have hHK : HoldsK encE 4 w b0 0 es.toArray := holds_at id w b0 ty [] _ hwf
  have hcon := AnyQ.slices_SortFunc Try.sortTm 4 (Try.isAgg33) (Try.sizeOf33) encE encE_len encE_one cfE (swoE H) 77 #[] b0 0 l.length es.toArray w
    (enter_of Try.func77 rfl (by decide)) (cmpLaysE hdn.hp hH) hHK (heap_lt hw) (by rw [hlen]; omega)
  have hcon2 : Calls Try.prog 81 #[.slice (some ⟨b0, 0, none⟩) l.length l.length, .func (.func 77) #[] #[]] w fun e w' => e = .returned (.tuple #[]) ∧ ∃ d' n os, PermIn 0 es.toArray.size es.toArray d' ∧ SortedIn (ltOf cfE) 0 es.toArray.size d' ∧ w' = sortWorldK encE 4 w b0 0 n d' os := by
    rw [← hlen] at hcon ⊢
    exact hcon
  unfold Oper.wp
  rw [hr]
  show Calls E.P 81 #[.slice (some ⟨b0, 0, none⟩) l.length l.length, .func (.func 77) #[] #[]] w _
  have hcon3 : Calls E.P 81 #[.slice (some ⟨b0, 0, none⟩) l.length l.length, .func (.func 77) #[] #[]] w fun e w' => e = .returned (.tuple #[]) ∧ ∃ d' n os, PermIn 0 es.toArray.size es.toArray d' ∧ SortedIn (ltOf cfE) 0 es.toArray.size d' ∧ w' = sortWorldK encE 4 w b0 0 n d' os := by rw [hP]; exact hcon2
  refine hcon3.mono ?_
  rintro e w' ⟨rfl, d', n, os, hp, hs, rfl⟩
  have hperm := perm_full hp
  have hp2 : (d'.toList.map (·.t)).Perm l := by rw [← e1]; exact hperm.map _
  refine kk (d'.toList.map (·.t)) hp2 ?_ _ _ ?_
  · unfold Srt
    rw [List.pairwise_map, List.pairwise_iff_getElem]
    intro i j hi hj hij
    simp only [Array.length_toList] at hi hj
    have h2 := hs i j (Nat.zero_le _) hij (by rw [← hp.1]; exact hj)
    rw [getElem!_pos d' j hj, getElem!_pos d' i hi] at h2
    unfold ltOf cfE at h2
    simpa using h2
  · -- the world behind
    have hd1 : Dn E.cx g H env own E.n a.tmps (Sort.ahead w n) := hdn.grown (w' := Sort.ahead w n) rfl rfl rfl (Nat.le_refl _) (fun _ _ => rfl) (Nat.le_add_right _ _)
    obtain ⟨ty', hd2⟩ := hd1.openB hk hgk
    have hk' : ownq (setOwn k (.cells ty' (bufC (rowsT l) 0)) own) k = some (.cells ty' (bufC (rowsT l) 0)) := by rw [ownq_setOwn, if_pos rfl, hk]; rfl
    have hl2 : (flatK encE 4 d').toList = (d'.toList.map encE).flatten := by
      have := flatK_eq encE 4 encE_len d'.toList
      simpa using this
    have hden : Dens g H (bufC (rowsT (d'.toList.map (·.t))) 0) (flatK encE 4 d').toList := by
      rw [hl2, bufC]
      have := (elems_den d'.toList).toFlat (g := g)
      simpa [anys] using this
    have hone2 : ∀ v ∈ (flatK encE 4 d').toList, v.oneCell' = true := by
      rw [hl2]
      intro v hv
      obtain ⟨q, hq, hvq⟩ := List.mem_flatten.1 hv
      obtain ⟨y, _, rfl⟩ := List.mem_map.1 hq
      exact encE_one y v hvq
    have hd3 := hd2.write (new := bufC (rowsT (d'.toList.map (·.t))) 0) hk' hgk hden hone2
    have hd4 := hd3.closeB (k := k) (ty := ty') (rw' := rowsT (d'.toList.map (·.t))) (nn := 0) (by rw [ownq_setOwn, if_pos rfl, hk']; rfl)
    rw [setOwn_setOwn, setOwn_setOwn] at hd4
    have hput : putRowK encE 4 (Sort.ahead w n) b0 0 d' = (Sort.ahead w n).setRow b0 (flatK encE 4 d').toList.toArray := by
      have := putRow_at id (Sort.ahead w n) b0 ty (flatK encE 4 es.toArray).toList [] (flatK encE 4 d') (by
        have := hwf
        rw [List.map_id] at this
        exact this) (by rw [Array.length_toList, size_flatK, size_flatK, hp.1])
      rw [List.map_id, List.append_nil] at this
      exact this
    have hd5 : Dn E.cx g H env (setOwn k (.buf (rowsT (d'.toList.map (·.t))) 0) own) E.n a.tmps (sortWorldK encE 4 w b0 0 n d' os) := by
      unfold sortWorldK
      rw [hput]
      exact hd4.grown (w' := grow ((Sort.ahead w n).setRow b0 (flatK encE 4 d').toList.toArray) os) rfl rfl rfl (by show _ ≤ (_ ++ os).size; rw [Array.size_append]; omega) (fun c hc => by
        show (_ ++ os)[c]? = _
        rw [Array.getElem?_append_left hc]) (Nat.le_refl _)
    exact At.put hdf hd5 (⟨[], rfl, trivial⟩ : Den g H (.tup []) (.tuple #[])) fun d e => by rw [e] at hd; exact Nat.blt_eq.mp hd
end Go.Proofs.Ytmnmhehddbemkaa
namespace Go.Eng
variable {E : Stc} {s : List Fr} {env : List (Nat × SV)} {own own2 : List (Nat × SO)} {nx : List Nat}
/-- Cells that are known are a buffer. -/
theorem at_closeB {m : Md} (k : Nat) {ty r : Nat} {rows : List (List DV)} (hk : ownq own k = some (.cells ty (bufC rows r))) (hso : setOwnK k (.buf rows r) own some = some own2) (kk : Sat E m s env own2 nx) : Sat E m s env own nx := by
  rw [setOwnK_eq] at hso
  simp only [Option.some.injEq] at hso
  subst hso
  refine sat_mono (fun a w hat => ?_) kk
  obtain ⟨hdf, g, H, hdn⟩ := hat
  exact ⟨hdf, g, H, hdn.closeB hk⟩
end Go.Eng
namespace Go.Proofs.Ytmnmhehddbemkaa
open Go Go.Eng
set_option maxRecDepth 100000

theorem ownB_fn (l : List Tm) (hl : l.length ≤ 1000000) (h : ∀ t ∈ l, Sm t) : Contract Try.prog 80 0 [] [.lst 4 (rowsT l)] fun s post => s = .arr 0 l.length ∧ post = [(0, .buf (rowsT l) 0)] := by
  have hlen : (rowsT l).length = l.length := rowsT_len l
  refine contract_of ty_ok [1, 2, 3, 4, 6, 7, 8] Try.func80 rfl (by decide) Try.ntmps80 rfl fun z => ?_
  refine run 400 rfl ?_
  refine at_make 0 4 ty_ok rfl rfl rfl (by omega) (show ((56 : Nat) : Int) * ((rowsT l).length : Int) ≤ 281474976710656 by omega) (by omega) ?_
  refine run 400 rfl ?_
  refine at_loop (fun i : Nat => i ≤ l.length) (fun i => [(3, .arr 0 (rowsT l).length), (9, .lst 4 (rowsT l)), (10, I (rowsT l).length), (11, I i)]) (fun i => [(0, .cells 33 (half l i))]) (fun i => l.length - i) [1, 2, 3, 4, 6, 7, 8]
    0 (by omega) ⟨SVle.refl _, SVle.refl _, SVle.refl _, SVle.refl _, trivial⟩ ⟨?_, trivial⟩ ?_
  · show some (SO.cells 33 (List.replicate (((rowsT l).length : Int).toNat * 4) .any)) = some (SO.cells 33 (half l 0))
    unfold half
    rw [List.take_zero, rowsT_nil, hlen]
    rfl
  intro i hi
  refine run 400 rfl ?_
  refine at_ifd rfl (fun g => ?_) (fun g => ?_)
  rotate_left
  · have e : i = l.length := by omega
    subst e
    refine run 400 rfl ?_
    refine at_closeB 0 (ty := 33) (r := 0) (rows := rowsT l) (by show some (SO.cells 33 (half l l.length)) = _; unfold half bufC; rw [List.take_length, Nat.sub_self, Nat.zero_mul, List.replicate_zero]; rfl) rfl ?_
    exact at_ret rfl rfl [(0, .buf (rowsT l) 0)] ⟨by rw [← hlen], rfl⟩ ⟨rfl, trivial⟩
  have hlt : i < l.length := by omega
  have hget := rowsT_get hlt
  have hmem := getD_mem hlt
  have hgetD : l[i]? = some (l.getD i .zero) := by rw [List.getD_eq_getElem?_getD, List.getElem?_eq_getElem hlt]; rfl
  generalize l.getD i .zero = u at hget hmem hgetD
  refine run 400 rfl ?_
  refine at_val (.rp (tr u) 0) (does_index ty_ok _ rfl rfl rfl (by omega) (show (rowsT l)[(i : Int).toNat]? = some (tr u) from hget) rfl) ?_
  refine run 1 rfl ?_
  refine at_alloc ty_ok 1 _ rfl rfl (by simp only [freshO, noKs_half]; rfl) ?_
  refine run 400 rfl ?_
  refine at_fn (own_fn u (h u hmem)) rfl ?_
  refine run 400 rfl ?_
  refine at_val (.ptr 0 ((i : Int).toNat * 4)) (does_indexArr ty_ok rfl rfl rfl ⟨by omega, by rw [hlen]; omega⟩ rfl) ?_
  refine at_store ty_ok (half l (i + 1)) rfl rfl rfl rfl rfl rfl (by unfold half; rw [List.length_append, flat_len, List.length_replicate, List.length_take]; show i * 4 + 4 ≤ _; omega) (half_step hgetD) rfl ?_
  refine run 400 rfl ?_
  exact at_again (i + 1) (by omega) (by omega) ⟨SVle.refl _, SVle.refl _, SVle.refl _, SVle.of_eq (by show I ((i : Int) + 1) = I ((i + 1 : Nat) : Int); rw [Int.natCast_add]; rfl), trivial⟩ ⟨rfl, trivial⟩

theorem clipT_fn (l : List Tm) (n c r : Nat) (hn : n ≤ c) : Contract Try.prog 82 1 (slO l r) [.sl 0 0 n c] fun s post => s = .sl 0 0 n n ∧ post = slO l r := by
  refine contract_of ty_ok [1, 2, 3, 4, 5, 6, 7] Try.func82 rfl (by decide) Try.ntmps82 rfl fun z => ?_
  refine run 400 rfl ?_
  refine at_val (.sl 0 0 (n : Int).toNat (n : Int).toNat) (does_sliceS_hm (sz := 4) ty_ok rfl rfl rfl rfl (by omega) rfl) ?_
  refine run 400 rfl ?_
  exact at_ret rfl rfl (slO l r) ⟨rfl, rfl⟩ ⟨rfl, trivial⟩

theorem sortT_fn (l : List Tm) (hl : l.length ≤ 1000000) (h : ∀ t ∈ l, Sm t) : GivesP Try.prog 50 [.lst 4 (rowsT l)] fun s => ∃ l' : List Tm, l'.Perm l ∧ Srt l' ∧ s = .tl 4 (rowsT (cmpF same l')) := by
  refine contract_of ty_ok [1, 2, 3, 4, 5, 6, 7] Try.func50 rfl (by decide) Try.ntmps50 rfl fun z => ?_
  refine run 400 rfl ?_
  refine at_callF [0] (ownB_fn l hl h) rfl trivial rfl rfl rfl ?_
  refine run 400 rfl ?_
  refine at_sortT 0 rfl rfl rfl h hl fun l' hp hs => ?_
  have e := hp.length_eq
  rw [← e]
  refine run 400 rfl ?_
  refine at_less [(8, .sl 0 0 l'.length l'.length)] (slO l' 0) [1, 2, 3, 4, 5, 6, 7] ⟨SVle.arr _ _, trivial⟩ ⟨rfl, trivial⟩ ?_
  refine at_callF [0] (cmpact_fn l' l'.length 0 (by omega) (Nat.le_refl _) fun t ht => h t (hp.mem_iff.1 ht)) rfl ⟨rfl, trivial⟩ rfl rfl rfl ?_
  refine run 400 rfl ?_
  refine at_callF [0] (clipT_fn _ _ _ _ (cmp_len _ _)) rfl ⟨rfl, trivial⟩ rfl rfl rfl ?_
  refine run 400 rfl ?_
  refine at_pubT 2 0 4 (rowsT (cmpF same l')) [] rfl rfl (List.append_nil _).symm (rowsT_len _).symm (fun r hr => rowsT_sz r hr) rfl ?_
  exact at_ret rfl rfl [] ⟨⟨l', hp, hs, rfl⟩, rfl, rfl⟩ trivial
end Go.Proofs.Ytmnmhehddbemkaa
/- The proof engine: an own block gets another name. -/
namespace Go.Eng

theorem at_ren {E : Stc} {m : Md} {s : List Fr} {env : List (Nat × SV)} {own : List (Nat × SO)} {nx : List Nat} (a b : Nat) (kk : Sat E m s (renE (swpN a b) env) (mapO (swpN a b) own) nx) (hb : Nat.ble E.cx.m0 b = true := by rfl)
    (hE : freshE a (renE (swpN a b) env) = true := by rfl) (hO : freshO a (mapO (swpN a b) own) = true := by rfl) : Sat E m s env own nx := by
  refine sat_mono (fun ac w h => ?_) kk
  obtain ⟨hdf, g, H, hd⟩ := h
  have hr := swpN_swpN a b
  have hb := Nat.le_of_ble_eq_true hb
  have den0 : ∀ s x, Den g H s x → Den (fun k => g (swpN a b k)) H (ren (swpN a b) s) x := fun s x h =>
    Den.unren (g := fun k => g (swpN a b k)) (g' := g) (r := swpN a b) (fun _ => rfl) (ren (swpN a b) s) x (by rw [ren_ren hr]; exact h)
  have dens0 : ∀ l xs, Dens g H l xs → Dens (fun k => g (swpN a b k)) H (rens (swpN a b) l) xs := fun l xs h =>
    Dens.unren (g := fun k => g (swpN a b k)) (g' := g) (r := swpN a b) (fun _ => rfl) (rens (swpN a b) l) xs (by rw [rens_rens hr]; exact h)
  have hne : ∀ i, i ≠ a → upd (fun k => g (swpN a b k)) a (g a) i = g (swpN a b i) := fun i hi => upd_ne _ _ _ i hi
  have hfix : ∀ k, k < E.cx.m0 → upd (fun k => g (swpN a b k)) a (g a) k = g k := fun k hk => by
    by_cases hka : k = a
    · subst hka; exact upd_same _ _ _
    · rw [hne k hka]
      unfold swpN
      have h1 : Nat.beq k a = false := by
        cases h : Nat.beq k a with
        | false => rfl
        | true => exact absurd (beq_true h) hka
      have h2 : Nat.beq k b = false := by
        cases h : Nat.beq k b with
        | false => rfl
        | true => have := beq_true h; omega
      simp [h1, h2]
  refine ⟨hdf, upd (fun k => g (swpN a b k)) a (g a), H, { size := hd.size, den := fun t => Den.upd hne _ _ (freshE_nth t hE) (by rw [nth_renE]; exact den0 _ _ (hd.den t)), ok := fun k o hk0 => ?_, inj := fun i j hi hj c hci hcj => ?_, hp := hd.hp, base := { hd.base with fix := fun k hk => by rw [hfix k hk]; exact hd.base.fix k hk } }⟩
  · have hf := freshO_own hO hk0
    have hk := hk0
    rw [ownq_mapO' hr] at hk
    cases ho : ownq own (swpN a b k) with
    | none => rw [ho] at hk; cases hk
    | some so =>
      rw [ho] at hk
      simp only [Option.map_some, Option.some.injEq] at hk
      have h0 : OwnOk E.cx.mine (fun k => g (swpN a b k)) H w k o := by
        subst hk
        have := hd.ok _ _ ho
        cases so with
        | cells ty cs =>
          obtain ⟨b, vs, e, h1, h2⟩ := this
          exact ⟨b, vs, e, dens0 cs vs h1, h2⟩
        | tok sz => exact this
        | obj f => exact this
        | buf rw nn =>
          rcases this with ⟨ty, b, ws, e, h1, h2⟩ | h
          · exact .inl ⟨ty, b, ws, e, Dens.plain g _ H rw nn ws h1, h2⟩
          · exact .inr h
      exact h0.upd hf
  · have key : ∀ i, (ownq (mapO (swpN a b) own) i).isSome = true → (ownq own (swpN a b i)).isSome = true ∧ i ≠ a := fun i hi => by
      refine ⟨?_, ?_⟩
      · rw [ownq_mapO' hr] at hi
        simpa using hi
      · cases h : ownq (mapO (swpN a b) own) i with
        | none => rw [h] at hi; cases hi
        | some o => exact (freshO_own hO h).1
    obtain ⟨ki, ni⟩ := key i hi
    obtain ⟨kj, nj⟩ := key j hj
    rw [hne i ni] at hci
    rw [hne j nj] at hcj
    have e := hd.inj _ _ ki kj c hci hcj
    have := congrArg (swpN a b) e
    rw [hr, hr] at this
    exact this
end Go.Eng
namespace Go.Proofs.Ytmnmhehddbemkaa
open Go Go.Eng
set_option maxRecDepth 100000

abbrev eqI (u v : Int) : Bool := u == v
abbrev slI (l : List Int) (r : Nat) : List (Nat × SO) := [(0, .buf (ints l) r)]
theorem ints_set (B : List Int) (k : Nat) (u : Int) : (ints B).set k [.int .i64 u] = ints (B.set k u) := by
  simp [List.map_set]
theorem ints_app (a b : List Int) : ints (a ++ b) = ints a ++ ints b := by simp
theorem ints_at' {l : List Int} {i : Nat} {u : Int} (h : l[i]? = some u) : (ints l)[i]? = some [.int .i64 u] := by
  rw [List.getElem?_map, h]; rfl
theorem ints_sz {l : List Int} : ∀ q ∈ ints l, q.length = 1 := by
  intro q hq
  obtain ⟨x, _, rfl⟩ := List.mem_map.1 hq
  rfl

theorem cmpactI_fn (l : List Int) (c r : Nat) (hl : l.length ≤ 1000000) (hc : l.length ≤ c) :
    Contract Try.prog 74 1 (slI l r) [.sl 0 0 l.length c] fun s post => s = .sl 0 0 (cmpF eqI l).length c ∧ post = slI (cmpF eqI l) ((l.length - (cmpF eqI l).length) * 1 + r) := by
  refine contract_of ty_ok [1, 2, 3, 4, 5, 6, 7] Try.func74 rfl (by decide) Try.ntmps74 rfl fun z => ?_
  refine run 400 rfl ?_
  refine at_ifd rfl (fun g => ?_) (fun g => ?_)
  · have e : cmpF eqI l = l := by
      match l, g with
      | [], _ => rfl
      | [x], _ => rfl
      | _ :: _ :: l, g => simp at g; omega
    refine run 400 rfl ?_
    exact at_ret rfl rfl (slI l r) ⟨by rw [e], by rw [e, Nat.sub_self, Nat.zero_mul, Nat.zero_add]⟩ ⟨rfl, trivial⟩
  refine run 400 rfl ?_
  refine at_loop (fun i : Nat => 1 ≤ i ∧ i ≤ l.length ∧ cmpF eqI (l.take i) = l.take i) (fun i => [(0, .sl 0 0 l.length c), (3, I i)]) (fun _ => slI l r) (fun i => l.length - i) [1, 2, 3, 4, 5, 6, 7]
    1 ⟨by omega, by omega, cmp_one _ _⟩ ⟨SVle.refl _, SVle.refl _, trivial⟩ ⟨rfl, trivial⟩ ?_
  rintro i ⟨a1, a2, a3⟩
  refine run 400 rfl ?_
  refine at_ifd rfl (fun g => ?_) (fun g => ?_)
  rotate_left
  · have e : i = l.length := by omega
    subst e
    rw [List.take_length] at a3
    refine run 400 rfl ?_
    exact at_ret rfl rfl (slI l r) ⟨by rw [a3], by rw [a3, Nat.sub_self, Nat.zero_mul, Nat.zero_add]⟩ ⟨rfl, trivial⟩
  have hlt : i < l.length := by omega
  obtain ⟨u, hu⟩ : ∃ u, l[i]? = some u := ⟨_, List.getElem?_eq_getElem hlt⟩
  obtain ⟨v, hv⟩ : ∃ v, l[i - 1]? = some v := ⟨_, List.getElem?_eq_getElem (by omega)⟩
  have h63 : ((i : Int) - 1).toNat = i - 1 := by omega
  refine run 400 rfl ?_
  refine at_drawn 10 rfl rfl [(2, .val (.ptr 0 (0 + (i : Int).toNat * 1))), (3, .val (I u)), (7, .val (.ptr 0 (0 + ((i : Int) - 1).toNat * 1))), (8, .val (I v))] [1, 2, 3] rfl
    ⟨does_loadB1 (j := 0) (sz := 1) (i := i - 1) ty_ok rfl rfl rfl (fun e => by cases e) (fun e => by cases e) (by omega) ints_sz (ints_at' hv) rfl, does_indexS ty_ok rfl rfl rfl (by omega) rfl, by constructor <;> omega, does_loadB1 (j := 0) (sz := 1) (i := i) ty_ok rfl rfl rfl (fun e => by cases e) (fun e => by cases e) (by omega) ints_sz (ints_at' hu) rfl, does_indexS ty_ok rfl rfl rfl (by omega) rfl⟩ ?_
  refine run 400 rfl ?_
  refine at_if rfl (fun q => ?_) (fun q => ?_)
  rotate_left
  · have q : eqI u v = false := by simpa using q
    refine run 400 rfl ?_
    exact at_again (i + 1) ⟨by omega, by omega, by rw [cmp_step eqI a1 hu hv, q, a3, List.take_add_one, hu]; rfl⟩ (by omega) ⟨SVle.refl _, SVle.of_eq (by show I ((i : Int) + 1) = I ((i + 1 : Nat) : Int); rw [Int.natCast_add]; rfl), trivial⟩ ⟨rfl, trivial⟩
  have q : eqI u v = true := by simpa using q
  refine run 400 rfl ?_
  refine at_val (.sl 0 (0 + (i : Int).toNat * 1) (l.length - (i : Int).toNat) (c - (i : Int).toNat)) (does_sliceS_l ty_ok rfl rfl rfl (by omega) hc rfl) ?_
  refine run 400 rfl ?_
  have hst := Cin.start a1 hlt hu hv q a3
  clear hu hv q
  refine at_loop (fun p : Nat × Nat × List Int => 1 ≤ p.1 ∧ Cin eqI l (i + p.1) p.2.1 p.2.2) (fun p => [(0, .sl 0 0 l.length c), (3, I p.2.1), (4, .sl 0 (0 + (i : Int).toNat * 1) (l.length - (i : Int).toNat) (c - (i : Int).toNat)), (5, I p.1)]) (fun p => slI p.2.2 r) (fun p => l.length - p.1) [1, 2, 3, 4, 5, 6, 7]
    (1, i, l) ⟨Nat.le_refl _, hst⟩ ⟨SVle.refl _, SVle.refl _, SVle.refl _, SVle.refl _, trivial⟩ ⟨rfl, trivial⟩ ?_
  rintro ⟨j, k, B⟩ ⟨b1, b2⟩
  dsimp only at b1 b2
  have c1 := b2.k1
  have c2 := b2.km
  have c3 := b2.ml
  have c4 := b2.len
  refine run 400 rfl ?_
  refine at_ifd rfl (fun g2 => ?_) (fun g2 => ?_)
  rotate_left
  · have e : i + j = l.length := by simp at g2; omega
    rw [e] at b2
    obtain ⟨d1, d2⟩ := b2.done
    refine run 400 rfl ?_
    refine at_val (.sl 0 (0 + (k : Int).toNat * 1) (l.length - (k : Int).toNat) (c - (k : Int).toNat)) (does_sliceS_l ty_ok rfl rfl rfl (by omega) hc rfl) ?_
    refine at_clearS (ints (B.take k)) (ints (B.drop k)) ty_ok rfl rfl rfl rfl rfl rfl (by rw [← ints_app, List.take_append_drop]) ints_sz (by rw [ints_len, List.length_take]; omega) (by rw [ints_len, List.length_drop]; omega) (by omega) rfl ?_
    refine run 400 rfl ?_
    refine at_val (.sl 0 0 (k : Int).toNat c) (does_sliceS_h (sz := 1) ty_ok rfl rfl rfl (by omega) rfl) ?_
    refine run 400 rfl ?_
    exact at_ret rfl rfl (slI (cmpF eqI l) ((l.length - (cmpF eqI l).length) * 1 + r)) ⟨by show SV.sl _ _ _ _ = _; rw [← d2]; rfl, rfl⟩ ⟨by rw [← d2, ← d1]; rfl, trivial⟩
  have hlt2 : i + j < l.length := by simp at g2; omega
  obtain ⟨u, hu⟩ : ∃ u, l[i + j]? = some u := ⟨_, List.getElem?_eq_getElem hlt2⟩
  obtain ⟨v, hv⟩ : ∃ v, l[i + j - 1]? = some v := ⟨_, List.getElem?_eq_getElem (by omega)⟩
  have hBu : B[i + j]? = some u := by rw [b2.at (by omega)]; exact hu
  have hBv : B[i + j - 1]? = some v := by rw [b2.at (by omega)]; exact hv
  refine run 400 rfl ?_
  refine at_drawn 10 rfl rfl [(2, .val (.ptr 0 (0 + (i : Int).toNat * 1 + (j : Int).toNat * 1))), (3, .val (I u)), (7, .val (.ptr 0 (0 + (i : Int).toNat * 1 + ((j : Int) - 1).toNat * 1))), (8, .val (I v))] [1, 2, 3] rfl
    ⟨does_loadB1 (j := 0) (sz := 1) (i := i + j - 1) ty_ok rfl rfl rfl (fun e => by cases e) (fun e => by cases e) (by omega) ints_sz (ints_at' hBv) rfl, does_indexS ty_ok rfl rfl rfl (by omega) rfl, by constructor <;> omega, does_loadB1 (j := 0) (sz := 1) (i := i + j) ty_ok rfl rfl rfl (fun e => by cases e) (fun e => by cases e) (by omega) ints_sz (ints_at' hBu) rfl, does_indexS ty_ok rfl rfl rfl (by omega) rfl⟩ ?_
  refine run 400 rfl ?_
  refine at_if rfl (fun q => ?_) (fun q => ?_)
  rotate_left
  · have q : eqI u v = true := by simpa using q
    refine run 400 rfl ?_
    exact at_again (j + 1, k, B) ⟨by dsimp only; omega, b2.skip hlt2 hu hv q⟩ (by dsimp only; omega) ⟨SVle.refl _, SVle.refl _, SVle.refl _, SVle.of_eq (by show I ((j : Int) + 1) = I ((j + 1 : Nat) : Int); rw [Int.natCast_add]; rfl), trivial⟩ ⟨rfl, trivial⟩
  have q : eqI u v = false := by simpa using q
  refine run 400 rfl ?_
  refine at_val (.ptr 0 (0 + (i : Int).toNat * 1 + (j : Int).toNat * 1)) (does_indexS ty_ok rfl rfl rfl (by omega) rfl) ?_
  refine at_val (I u) (does_loadB1 (j := 0) (sz := 1) (i := i + j) ty_ok rfl rfl rfl (fun e => by cases e) (fun e => by cases e) (by omega) ints_sz (ints_at' hBu) rfl) ?_
  refine at_val (.ptr 0 (0 + (k : Int).toNat * 1)) (does_indexS ty_ok rfl rfl rfl (by omega) rfl) ?_
  refine at_storeB (sz := 1) (i := k) ty_ok [.int .i64 u] rfl rfl rfl rfl rfl (fun e => by cases e) rfl (by omega) ints_sz (by show k < (ints B).length; rw [ints_len]; omega) rfl rfl ?_
  refine run 400 rfl ?_
  exact at_again (j + 1, k + 1, B.set k u) ⟨by dsimp only; omega, b2.keep hlt2 hu hv q⟩ (by dsimp only; omega) ⟨SVle.refl _, SVle.of_eq (by show I ((k : Int) + 1) = I ((k + 1 : Nat) : Int); rw [Int.natCast_add]; rfl), SVle.refl _, SVle.of_eq (by show I ((j : Int) + 1) = I ((j + 1 : Nat) : Int); rw [Int.natCast_add]; rfl), trivial⟩ ⟨by show some (SO.buf ((ints B).set k [.int .i64 u]) r) = some (.buf (ints (B.set k u)) r); rw [ints_set], trivial⟩

theorem clipI_fn (l : List Int) (n c r : Nat) (hn : n ≤ c) : Contract Try.prog 73 1 (slI l r) [.sl 0 0 n c] fun s post => s = .sl 0 0 n n ∧ post = slI l r := by
  refine contract_of ty_ok [1, 2, 3, 4, 5, 6, 7] Try.func73 rfl (by decide) Try.ntmps73 rfl fun z => ?_
  refine run 400 rfl ?_
  refine at_val (.sl 0 0 (n : Int).toNat (n : Int).toNat) (does_sliceS_hm (sz := 1) ty_ok rfl rfl rfl rfl (by omega) rfl) ?_
  refine run 400 rfl ?_
  exact at_ret rfl rfl (slI l r) ⟨rfl, rfl⟩ ⟨rfl, trivial⟩

abbrev nbO (l : List Int) (c r : Nat) : List (Nat × SO) := [(0, .cells 22 [.sl 1 0 l.length c]), (1, .buf (ints l) r)]
abbrev nbP (l : List Int) (c r : Nat) : List (Nat × SO) := [(0, .cells 22 [.sl 2 0 l.length c]), (2, .buf (ints l) r)]
theorem non1B_fn (t : Tm) (l : List Int) (c r : Nat) (hl : l.length ≤ 1000000) (hc : l.length ≤ c) (hr : l.length + r = c) : Contract Try.prog 71 2 (nbO l c r) [t.sv, .ptr 0 0] fun s post => ∃ c' r', (l ++ if t.k = 2 then [t.n] else []).length ≤ c' ∧ (l ++ if t.k = 2 then [t.n] else []).length + r' = c' ∧ s = .tt ∧ post = nbP (l ++ if t.k = 2 then [t.n] else []) c' r' := by
  have hln := ints_len l
  refine contract_of ty_ok [3, 4, 5, 6, 7] Try.func71 rfl (by decide) Try.ntmps71 rfl fun z => ?_
  refine run 400 rfl ?_
  refine at_if rfl (fun g => ?_) (fun g => ?_)
  · have g : t.k = 2 := by simpa using g
    rw [if_pos g]
    refine run 400 rfl ?_
    refine at_gro (.tl 1 (ints [t.n])) (doesG_build ty_ok _ rfl ⟨⟨rfl, rfl, _, rfl, SVles.refl _⟩, trivial⟩ rfl rfl (by decide)) ?_
    refine run 400 rfl ?_
    refine at_appendS 1 2 1 ty_ok rfl rfl rfl rfl rfl rfl rfl hln.symm ints_sz (by omega) hc (by simp) rfl (by simp; omega) (by show _ * 8 ≤ _; simp; omega) rfl ?_
    intro c' r' h1 h2
    refine run 400 rfl ?_
    exact at_ret rfl rfl (nbP (l ++ [t.n]) c' r') ⟨c', r', by simpa using h1, by simpa using h2, rfl, rfl⟩ ⟨by show some (SO.cells 22 [.sl 2 0 (l.length + 1) c']) = some (SO.cells 22 [.sl 2 0 (l ++ [t.n]).length c']); simp, by show some (SO.buf (ints l ++ ints [t.n]) r') = some (SO.buf (ints (l ++ [t.n])) r'); simp, trivial⟩
  · have g : ¬ t.k = 2 := by simpa using g
    rw [if_neg g, List.append_nil]
    refine at_ren 1 2 ?_
    refine run 400 rfl ?_
    exact at_ret rfl rfl (nbP l c r) ⟨c, r, hc, hr, rfl, rfl⟩ ⟨rfl, rfl, trivial⟩

theorem eachB_fn : ∀ (t : Tm) (l : List Int) (c r : Nat), Sm t → l.length + szT t ≤ 1000000 → l.length ≤ c → l.length + r = c → Contract Try.prog 70 2 (nbO l c r) [t.sv, .clo 71 [.ptr 0 0]] fun s post => ∃ c' r', (l ++ nonT t).length ≤ c' ∧ (l ++ nonT t).length + r' = c' ∧ s = .tt ∧ post = nbP (l ++ nonT t) c' r' := by
  intro t
  induction t using Tm.ind with
  | h k n s l ih =>
    intro L cp rr hsm hc hcc hrr
    have hL := hsm.ks
    have hlen0 : ((rowsT l).length : Int) = l.length := by rw [rowsT_len]
    refine contract_of ty_ok [3, 4, 5, 6, 7] Try.func70 rfl (by decide) Try.ntmps70 rfl fun z => ?_
    refine run 400 rfl ?_
    rw [szT] at hc
    rw [nonT]
    refine at_callG [0, 1, 2] (non1B_fn (.mk k n s l) L cp rr (by omega) hcc hrr) rfl ⟨rfl, rfl, trivial⟩ rfl ?_
    rintro sv post ⟨c1, r1, e1, e2, rfl, rfl⟩
    refine ⟨rfl, rfl, ?_⟩
    refine run 400 rfl ?_
    refine at_loop (fun p : Nat × List Int × Nat × Nat => p.1 ≤ l.length ∧ p.2.1 ++ nonL (l.drop p.1) = L ++ ((if k = 2 then [n] else []) ++ nonL l) ∧ p.2.1.length + szL (l.drop p.1) ≤ 1000000 ∧ p.2.1.length ≤ p.2.2.1 ∧ p.2.1.length + p.2.2.2 = p.2.2.1) (fun p => [(1, .clo 71 [.ptr 0 0]), (2, .ptr 3 0), (12, .lst 4 (rowsT l)), (13, I (rowsT l).length), (14, I p.1)]) (fun p => (3, .cells 33 [I k, I n, .str s, .lst 4 (rowsT l)]) :: nbP p.2.1 p.2.2.1 p.2.2.2) (fun p => l.length - p.1) [4, 5, 6, 7]
      (0, L ++ (if k = 2 then [n] else []), c1, r1) ⟨by dsimp only; omega, by dsimp only; rw [List.drop_zero, List.append_assoc], by dsimp only; rw [List.drop_zero, List.length_append]; split <;> simp <;> omega, e1, e2⟩ ⟨SVle.refl _, SVle.refl _, SVle.refl _, SVle.refl _, SVle.refl _, trivial⟩ ⟨rfl, rfl, rfl, trivial⟩ ?_
    rintro ⟨i, q, c2, r2⟩ ⟨a1, a2, a3, a4, a5⟩
    dsimp only at a1 a2 a3 a4 a5
    refine run 400 rfl ?_
    refine at_ifd rfl (fun g => ?_) (fun g => ?_)
    rotate_left
    · dsimp only at g
      rw [hlen0] at g
      have e : i = l.length := by omega
      subst e
      rw [List.drop_length] at a2
      rw [nonL, List.append_nil] at a2
      refine run 400 rfl ?_
      exact at_ret rfl rfl (nbP q c2 r2) ⟨c2, r2, by rw [← a2]; exact a4, by rw [← a2]; exact a5, rfl, by rw [a2]⟩ ⟨rfl, rfl, trivial⟩
    dsimp only at g
    rw [hlen0] at g
    have hlt : i < l.length := by omega
    have hget := rowsT_get hlt
    have hmem := getD_mem hlt
    rw [drop_getD hlt] at a2 a3
    generalize l.getD i .zero = u at hget hmem a2 a3
    refine run 400 rfl ?_
    refine at_val (.rp (tr u) 0) (does_index ty_ok _ rfl rfl rfl (by omega) (show (rowsT l)[(i : Int).toNat]? = some (tr u) from hget) rfl) ?_
    refine run 400 rfl ?_
    rw [nonL] at a2
    rw [szL] at a3
    have hnl := nonT_len u
    refine at_callG [0, 2, 8] (ih u hmem q c2 r2 (hL.2 u hmem) (by omega) a4 a5) rfl ⟨rfl, rfl, trivial⟩ rfl ?_
    rintro sv post ⟨c3, r3, e3, e4, rfl, rfl⟩
    refine ⟨rfl, rfl, ?_⟩
    refine at_swap 8 2 ?_
    refine run 400 rfl ?_
    exact at_again (i + 1, q ++ nonT u, c3, r3) ⟨by dsimp only; omega, by dsimp only; rw [← a2, List.append_assoc], by dsimp only; rw [List.length_append]; omega, e3, e4⟩ (by dsimp only; omega) ⟨SVle.refl _, SVle.refl _, SVle.refl _, SVle.refl _, SVle.of_eq (by show I ((i : Int) + 1) = I ((i + 1 : Nat) : Int); rw [Int.natCast_add]; rfl), trivial⟩ ⟨rfl, rfl, rfl, trivial⟩
end Go.Proofs.Ytmnmhehddbemkaa
namespace Go.Eng
variable {env : List (Nat × SV)} {own : List (Nat × SO)}
/-- A byte of a string. -/
theorem does_byteAt {T : Nat → TI} {P : Program} (hT : ∀ t, T t = tiOf P t) {o : Oper} {t : Nat} {x i : Operand} {b : ByteArray} {k : IntKind} {n : Int} (y : Int) (ho : o.op = .index t x i) (hx : ev env x = .str b) (hi : ev env i = .int k n) (ht : (T t).kd = .str)
    (h0 : 0 ≤ n) (hy : ∃ h : n.toNat < b.size, ((b[n.toNat]'h).toNat : Int) = y) : DoesV P o env own (.int .u8 y) := by
  refine does_val fun cx g H q a w hd => ?_
  have e1 := hd.ev x
  rw [hx] at e1
  have e2 := hd.ev i
  rw [hi] at e2
  have e1 : a.eval x = .string b := e1
  have e2 : a.eval i = .int k n := e2
  have hu : P.underlying t = some .string := by
    rw [hT] at ht
    obtain ⟨i, d, hs, e⟩ := und_kd (P := P) ht (by simp)
    cases d <;> simp [kdOf] at e
    exact hs.und
  refine ⟨_, ?_, rfl⟩
  obtain ⟨hlt, hy⟩ := hy
  simp [execOp, ho, e1, e2, run_index_string _ _ _ _ _ hu, h0, hy, show n < b.size by omega]
end Go.Eng
namespace Go.Proofs.Ytmnmhehddbemkaa
open Go Go.Eng
set_option maxRecDepth 100000
theorem len64_0 : Gives Try.prog 115 [.int .u64 0] (I 0) := by
  refine contract_of ty_ok [1, 2, 3, 4, 5, 6, 7] Try.func115 rfl (by decide) Try.ntmps115 rfl fun z => ?_
  refine run 400 rfl ?_
  refine at_ifd rfl (fun g => absurd g (by decide)) (fun _ => ?_)
  refine run 400 rfl ?_
  refine at_ifd rfl (fun g => absurd g (by decide)) (fun _ => ?_)
  refine run 400 rfl ?_
  refine at_ifd rfl (fun g => absurd g (by decide)) (fun _ => ?_)
  refine run 400 rfl ?_
  refine at_val (.int .u8 0) (does_byteAt ty_ok (y := 0) rfl rfl rfl rfl (by decide) ⟨by decide, rfl⟩) ?_
  refine run 400 rfl ?_
  exact at_ret rfl rfl [] ⟨rfl, rfl, rfl⟩ trivial
theorem len_0 : Gives Try.prog 96 [.int .u64 0] (I 0) := by
  refine contract_of ty_ok [1, 2, 3, 4, 5, 6, 7] Try.func96 rfl (by decide) Try.ntmps96 rfl fun z => ?_
  refine run 400 rfl ?_
  refine at_fn len64_0 rfl ?_
  refine run 400 rfl ?_
  exact at_ret rfl rfl [] ⟨rfl, rfl, rfl⟩ trivial

theorem ins_0 : Gives Try.prog 105 [.lst 1 [], I 0, I 0] (.tup []) := by
  refine contract_of ty_ok [1, 2, 3, 4, 5, 6, 7] Try.func105 rfl (by decide) Try.ntmps105 rfl fun z => ?_
  refine run 400 rfl ?_
  refine at_loop (fun _ : Unit => True) (fun _ => [(6, I 1), (2, I 0)]) (fun _ => []) (fun _ => 0) [1, 2, 3, 4, 5, 6, 7] () trivial ⟨SVle.refl _, SVle.refl _, trivial⟩ trivial ?_
  intro _ _
  refine run 400 rfl ?_
  refine at_ifd rfl (fun g => absurd g (by decide)) (fun _ => ?_)
  refine run 400 rfl ?_
  refine at_end ?_
  exact at_ret rfl rfl [] ⟨rfl, rfl, rfl⟩ trivial
theorem pdq_0 : Gives Try.prog 95 [.lst 1 [], I 0, I 0, I 0] (.tup []) := by
  refine contract_of ty_ok [1, 2, 3, 4, 5, 6, 7] Try.func95 rfl (by decide) Try.ntmps95 rfl fun z => ?_
  refine run 400 rfl ?_
  refine at_loop (fun _ : Unit => True) (fun _ => [(0, .lst 1 []), (1, I 0), (2, I 0)]) (fun _ => []) (fun _ => 0) [1, 2, 3, 4, 5, 6, 7] () trivial ⟨SVle.refl _, SVle.refl _, SVle.refl _, trivial⟩ trivial ?_
  intro _ _
  refine run 400 rfl ?_
  refine at_ifd rfl (fun _ => ?_) (fun g => absurd (by decide) g)
  refine run 400 rfl ?_
  refine at_fn ins_0 rfl ?_
  refine run 400 rfl ?_
  exact at_ret rfl rfl [] ⟨rfl, rfl, rfl⟩ trivial
theorem sort_0 : Gives Try.prog 72 [.lst 1 []] (.tup []) := by
  refine contract_of ty_ok [1, 2, 3, 4, 5, 6, 7] Try.func72 rfl (by decide) Try.ntmps72 rfl fun z => ?_
  refine run 400 rfl ?_ (by simp [All, inR])
  refine at_fn len_0 rfl ?_
  refine run 400 rfl ?_
  refine at_fn pdq_0 rfl ?_
  refine run 400 rfl ?_
  refine at_end ?_
  exact at_ret rfl rfl [] ⟨rfl, rfl, rfl⟩ trivial
end Go.Proofs.Ytmnmhehddbemkaa
namespace Go.Proofs.Ytmnmhehddbemkaa
open Go Go.Eng Go.Shelf Go.RowKit Go.Lib Go.Sort
set_option maxRecDepth 100000
shelf_lay Lays.n189 Nm 189 at Try as Try.sortI

def sortZ (l : List Int) : List Int := l.mergeSort fun x y => decide (x ≤ y)
theorem sortZ_len (l : List Int) : (sortZ l).length = l.length := List.length_mergeSort _

variable {E : Stc} {all rest : List Oper} {o : Oper} {s : List Fr} {env : List (Nat × SV)} {own own2 : List (Nat × SO)} {nx : List Nat}

theorem flat_ints : ∀ l : List Int, flatU (ints l) = l.map (SV.int .i64)
  | [] => rfl
  | x :: l => by
    have := flat_ints l
    unfold flatU at this ⊢
    simp only [List.map_cons, List.flatten_cons, List.map_append, this]
    rfl
theorem dens_ints {g : Nat → Value} {H : Hp} : ∀ {l : List Int} {vs : List Value}, Dens g H (l.map (SV.int .i64)) vs → vs = l.map (Value.int .i64)
  | [], [], _ => rfl
  | [], _ :: _, h => h.elim
  | _ :: _, [], h => h.elim
  | x :: l, v :: vs, h => by
    rw [List.map_cons, ← dens_ints h.2]
    have : v = .int .i64 x := h.1
    rw [this]
theorem dens_ints_mk {g : Nat → Value} {H : Hp} : ∀ (l : List Int), Dens g H (l.map (SV.int .i64)) (l.map (Value.int .i64))
  | [] => trivial
  | _ :: l => ⟨rfl, dens_ints_mk l⟩

/-- Numbers are sorted in place. -/
theorem at_sortI (k : Nat) {l : List Int} {c r : Nat} (hP : E.P = Try.prog) (hc : callK o.op env (fun f l => some (f, l)) none = some (72, [.sl k 0 l.length c])) (hk : ownq own k = some (.buf (ints l) r)) (hl : l.length ≤ 1000000)
    (hso : setOwnK k (.buf (ints (sortZ l)) r) own some = some own2)
    (kk : Sat E (.ops all rest) s (put o.dst (.tup []) env) own2 nx)
    (hg : guardK all o.guard env true false false = true := by rfl) (hd : dstLt o.dst E.n = true := by rfl) : Sat E (.ops all (o :: rest)) s env own nx := by
  rw [setOwnK_eq] at hso
  simp only [Option.some.injEq] at hso
  subst hso
  intro a w hat0
  have hwant := wanted_of (E := E) (own := own) hg a w hat0
  unfold wpList
  rw [if_pos hwant]
  refine .inl ?_
  obtain ⟨hdf, g, H, hdn⟩ := hat0
  have hE : Enter E.P 72 := by rw [hP]; exact enter_of Try.func72 rfl (by decide)
  obtain ⟨vs0, hv0, hr⟩ := run_call (P := E.P) hdn hE hc
  obtain ⟨x, rfl, hx⟩ : ∃ x, vs0 = [x] ∧ Den g H (.sl k 0 l.length c) x := by
    match vs0, hv0 with
    | [x], h => exact ⟨x, rfl, h.1⟩
    | [], h => exact h.elim
    | _ :: _ :: _, h => exact h.2.elim
  unfold Oper.wp
  rw [hr]
  show Calls E.P 72 #[x] w _
  rcases hx with ⟨b, hgk, rfl⟩ | ⟨_, hl0, hc0, hgk, ad, rfl⟩
  rotate_left
  · have hl0 : l = [] := List.length_eq_zero_iff.1 hl0
    subst hl0
    have hx : Dens g H [.lst 1 []] [.slice ad 0 0] := ⟨⟨ad, 0, rfl, Nat.le_refl _, fun _ => ⟨rfl, rfl⟩, fun p _ => ⟨.inl rfl, trivial⟩⟩, trivial⟩
    have hC0 : Gives E.P 72 [.lst 1 []] (.tup []) := by rw [hP]; exact sort_0
    refine (hC0.2 g H w [.slice ad 0 0] hdn.hp (fun k o hk => by simp [ownq] at hk) (fun i j hi => by simp [ownq] at hi) hx).mono fun e w' he => ?_
    cases e with
    | returned v =>
      obtain ⟨g', H', sv, own', ⟨rfl, _, rfl⟩, hv, _, _, _, hbase⟩ := he
      have hv : v = .tuple #[] := by
        obtain ⟨cs, e, hcs⟩ := hv
        cases cs with
        | nil => exact e
        | cons _ _ => exact hcs.elim
      subst hv
      obtain ⟨q, os, rfl⟩ := world_grow hbase.os hbase.tape hbase.output hbase.drawn hbase.size fun c hc => hbase.block c hc (by
        rintro ⟨k, hk, _⟩
        simp [ownq] at hk)
      have hd1 := hdn.grown (w' := grow (w.drewN q) os) rfl rfl rfl (by show _ ≤ (_ ++ os).size; rw [Array.size_append]; exact Nat.le_add_right _ _) (fun c hc => by
        show (w.heap ++ os)[c]? = _
        rw [Array.getElem?_append_left hc]) (Nat.le_add_right _ _)
      have hd1 := hd1.le (env' := env) (own' := setOwn k (.buf (ints (sortZ [])) r) own) (fun t => SVle.refl _) (fun j o' hj => by
        rw [ownq_setOwn] at hj
        split at hj
        · rename_i e
          subst e
          rw [hk] at hj
          simp only [Option.map_some, Option.some.injEq] at hj
          subst hj
          rw [show sortZ [] = [] by simp [sortZ]]
          exact hk
        · exact hj)
      exact kk _ _ (At.put hdf hd1 (⟨[], rfl, trivial⟩ : Den g H (.tup []) (.tuple #[])) fun d e => by rw [e] at hd; exact Nat.blt_eq.mp hd)
    | _ => exact he.elim
  rcases hdn.ok k _ hk with ⟨ty, b', vs, e0, hv, hone, hw, hH, hm⟩ | ⟨e0, _⟩
  rotate_left
  · rw [e0] at hgk; cases hgk
  have hbb : b' = b := by rw [e0] at hgk; simpa using hgk
  subst hbb
  have hv' : Dens g H (flatU (ints l) ++ anys r) vs := hv
  obtain ⟨v1, v2, rfl, hva, hvb⟩ := Dens.append_inv hv'
  rw [flat_ints] at hva
  have e1 := dens_ints hva
  subst e1
  have hcon := Any.slices_Sort_int Try.sortI b' 0 c l w (holds_at (Value.int .i64) w b' ty v2 l.toArray hw) (heap_lt hw) (by omega)
  have hcon2 : Calls E.P 72 #[.slice (some ⟨b', 0, none⟩) l.length c] w fun e w' => e = .returned (.tuple #[]) ∧ ∃ n os, w' = grow (putRow (Value.int .i64) (Sort.ahead w n) b' 0 (sortZ l).toArray) os := by rw [hP]; exact hcon
  refine hcon2.mono ?_
  rintro e w' ⟨rfl, n, os, rfl⟩
  have hd1 : Dn E.cx g H env own E.n a.tmps (Sort.ahead w n) := hdn.grown (w' := Sort.ahead w n) rfl rfl rfl (Nat.le_refl _) (fun _ _ => rfl) (Nat.le_add_right _ _)
  obtain ⟨ty', hd2⟩ := hd1.openB hk e0
  have hk' : ownq (setOwn k (.cells ty' (bufC (ints l) r)) own) k = some (.cells ty' (bufC (ints l) r)) := by rw [ownq_setOwn, if_pos rfl, hk]; rfl
  have hden : Dens g H (bufC (ints (sortZ l)) r) ((sortZ l).map (Value.int .i64) ++ v2) := by
    rw [bufC, flat_ints]
    exact Dens.append (dens_ints_mk _) hvb
  have hone2 : ∀ v ∈ (sortZ l).map (Value.int .i64) ++ v2, v.oneCell' = true := by
    intro v hv
    rcases List.mem_append.1 hv with hv | hv
    · obtain ⟨z, _, rfl⟩ := List.mem_map.1 hv
      rfl
    · exact hone v (by simp [hv])
  have hd3 := hd2.write (new := bufC (ints (sortZ l)) r) hk' e0 hden hone2
  have hd4 := hd3.closeB (k := k) (ty := ty') (rw' := ints (sortZ l)) (nn := r) (by rw [ownq_setOwn, if_pos rfl, hk']; rfl)
  rw [setOwn_setOwn, setOwn_setOwn] at hd4
  have hput : putRow (Value.int .i64) (Sort.ahead w n) b' 0 (sortZ l).toArray = (Sort.ahead w n).setRow b' ((sortZ l).map (Value.int .i64) ++ v2).toArray := by
    have := putRow_at (Value.int .i64) (Sort.ahead w n) b' ty (l.map (Value.int .i64)) v2 (sortZ l).toArray hw (by simp [sortZ_len])
    exact this
  have hd5 : Dn E.cx g H env (setOwn k (.buf (ints (sortZ l)) r) own) E.n a.tmps (grow (putRow (Value.int .i64) (Sort.ahead w n) b' 0 (sortZ l).toArray) os) := by
    rw [hput]
    exact hd4.grown (w' := grow ((Sort.ahead w n).setRow b' ((sortZ l).map (Value.int .i64) ++ v2).toArray) os) rfl rfl rfl (by show _ ≤ (_ ++ os).size; rw [Array.size_append]; omega) (fun c hc => by
      show (_ ++ os)[c]? = _
      rw [Array.getElem?_append_left hc]) (Nat.le_refl _)
  exact kk _ _ (At.put hdf hd5 (⟨[], rfl, trivial⟩ : Den g H (.tup []) (.tuple #[])) fun d e => by rw [e] at hd; exact Nat.blt_eq.mp hd)
end Go.Proofs.Ytmnmhehddbemkaa
namespace Go.Proofs.Ytmnmhehddbemkaa
open Go Go.Eng

/-- A strict order in which of two one is less or they are the same. -/
structure Tot {α : Type} (lt : α → α → Prop) (e : α → α → Bool) : Prop where
  irr : ∀ a, ¬ lt a a
  tr : ∀ a b c, lt a b → lt b c → lt a c
  tri : ∀ a b, lt a b ∨ a = b ∨ lt b a
  eq : ∀ a b, e a b = true ↔ a = b

theorem ss_ext {α : Type} {lt : α → α → Prop} {e : α → α → Bool} (h : Tot lt e) : ∀ {l m : List α}, l.Pairwise lt → m.Pairwise lt → (∀ x, x ∈ l ↔ x ∈ m) → l = m
  | [], [], _, _, _ => rfl
  | [], y :: m, _, _, hx => by have := (hx y).2 (by simp); cases this
  | x :: l, [], _, _, hx => by have := (hx x).1 (by simp); cases this
  | x :: l, y :: m, h1, h2, hx => by
    rw [List.pairwise_cons] at h1 h2
    have hxy : x = y := by
      rcases List.mem_cons.1 ((hx x).1 (by simp)) with q | q
      · exact q
      · rcases List.mem_cons.1 ((hx y).2 (by simp)) with p | p
        · exact p.symm
        · exact absurd (h.tr _ _ _ (h1.1 y p) (h2.1 x q)) (h.irr _)
    subst hxy
    have : l = m := ss_ext h h1.2 h2.2 fun z => by
      constructor
      · intro hz
        rcases List.mem_cons.1 ((hx z).1 (by simp [hz])) with q | q
        · subst q; exact absurd (h1.1 z hz) (h.irr z)
        · exact q
      · intro hz
        rcases List.mem_cons.1 ((hx z).2 (by simp [hz])) with q | q
        · subst q; exact absurd (h2.1 z hz) (h.irr z)
        · exact q
    rw [this]

theorem cpt_ss {α : Type} {lt : α → α → Prop} {e : α → α → Bool} (h : Tot lt e) : ∀ (l : List α) (p : α), (p :: l).Pairwise (fun a b => ¬ lt b a) → (cpt e p l).Pairwise lt ∧ (∀ x ∈ cpt e p l, lt p x) ∧ ∀ x, (x = p ∨ x ∈ cpt e p l) ↔ (x = p ∨ x ∈ l)
  | [], p, _ => ⟨.nil, by simp [cpt], by simp [cpt]⟩
  | y :: l, p, hs => by
    have hs0 := hs
    rw [List.pairwise_cons] at hs
    have hpy := hs.1 y (by simp)
    obtain ⟨a1, a2, a3⟩ := cpt_ss h l y hs.2
    cases hq : e y p with
    | true =>
      have q := (h.eq _ _).1 hq
      subst q
      have e1 : cpt e y (y :: l) = cpt e y l := by rw [cpt, hq]; rfl
      rw [e1]
      refine ⟨a1, a2, fun x => ?_⟩
      rw [a3, List.mem_cons]
      constructor
      · rintro (q | q)
        · exact .inl q
        · exact .inr (.inr q)
      · rintro (q | q | q)
        · exact .inl q
        · exact .inl q
        · exact .inr q
    | false =>
      have hne : ¬ y = p := fun q => by rw [(h.eq _ _).2 q] at hq; cases hq
      have hlt : lt p y := by
        rcases h.tri p y with q | q | q
        · exact q
        · exact absurd q.symm hne
        · exact absurd q hpy
      have e1 : cpt e p (y :: l) = y :: cpt e y l := by rw [cpt, hq]; rfl
      rw [e1]
      refine ⟨List.pairwise_cons.2 ⟨a2, a1⟩, ?_, fun x => ?_⟩
      · intro x hx
        rcases List.mem_cons.1 hx with q | q
        · rw [q]; exact hlt
        · exact h.tr _ _ _ hlt (a2 x q)
      · rw [List.mem_cons, List.mem_cons, a3]

theorem cmpF_ss {α : Type} {lt : α → α → Prop} {e : α → α → Bool} (h : Tot lt e) {l : List α} (hs : l.Pairwise fun a b => ¬ lt b a) : (cmpF e l).Pairwise lt ∧ ∀ x, x ∈ cmpF e l ↔ x ∈ l := by
  cases l with
  | nil => exact ⟨.nil, fun _ => Iff.rfl⟩
  | cons y l =>
    obtain ⟨a1, a2, a3⟩ := cpt_ss h l y hs
    exact ⟨List.pairwise_cons.2 ⟨a2, a1⟩, fun x => by rw [cmpF, List.mem_cons, a3, List.mem_cons]⟩

/-- An insertion, by the order. -/
def insO {α : Type} (lt : α → α → Prop) [DecidableRel lt] (e : α → α → Bool) : List α → α → List α
  | [], t => [t]
  | u :: L, t => if lt u t then u :: insO lt e L t else if e u t then u :: L else t :: u :: L
theorem insO_mem {α : Type} {lt : α → α → Prop} [DecidableRel lt] {e : α → α → Bool} (h : Tot lt e) : ∀ {L : List α} {t x : α}, x ∈ insO lt e L t ↔ x ∈ L ∨ x = t
  | [], t, x => by simp [insO]
  | u :: L, t, x => by
    rw [insO]
    split
    · rw [List.mem_cons, insO_mem h, List.mem_cons, or_assoc]
    · split
      · rename_i q
        have := (h.eq _ _).1 q
        subst this
        simp only [List.mem_cons]
        constructor
        · exact .inl
        · rintro (q | q)
          · exact q
          · exact .inl q
      · simp only [List.mem_cons]
        constructor
        · rintro (q | q)
          · exact .inr q
          · exact .inl q
        · rintro (q | q)
          · exact .inr q
          · exact .inl q
theorem insO_ss {α : Type} {lt : α → α → Prop} [DecidableRel lt] {e : α → α → Bool} (h : Tot lt e) : ∀ {L : List α} {t : α}, L.Pairwise lt → (insO lt e L t).Pairwise lt
  | [], t, _ => List.pairwise_singleton _ _
  | u :: L, t, hs => by
    rw [List.pairwise_cons] at hs
    rw [insO]
    split
    · rename_i q
      refine List.pairwise_cons.2 ⟨fun x hx => ?_, insO_ss h hs.2⟩
      rcases (insO_mem h).1 hx with p | p
      · exact hs.1 x p
      · rw [p]; exact q
    · rename_i q
      split
      · exact List.pairwise_cons.2 hs
      · rename_i p
        have hlt : lt t u := by
          rcases h.tri t u with r | r | r
          · exact r
          · exact absurd ((h.eq _ _).2 r.symm) (by simpa using p)
          · exact absurd r q
        refine List.pairwise_cons.2 ⟨fun x hx => ?_, List.pairwise_cons.2 hs⟩
        rcases List.mem_cons.1 hx with r | r
        · rw [r]; exact hlt
        · exact h.tr _ _ _ hlt (hs.1 x r)
theorem foldO {α : Type} {lt : α → α → Prop} [DecidableRel lt] {e : α → α → Bool} (h : Tot lt e) : ∀ (l acc : List α), acc.Pairwise lt → (l.foldl (insO lt e) acc).Pairwise lt ∧ ∀ x, x ∈ l.foldl (insO lt e) acc ↔ x ∈ acc ∨ x ∈ l
  | [], acc, hs => ⟨hs, by simp⟩
  | t :: l, acc, hs => by
    obtain ⟨a1, a2⟩ := foldO h l (insO lt e acc t) (insO_ss h hs)
    refine ⟨a1, fun x => ?_⟩
    rw [List.foldl_cons, a2, insO_mem h, List.mem_cons, or_assoc]

theorem totT : Tot (fun a b : Tm => ordT a b < 0) same where
  irr a h := by simp only [ord_irr] at h; omega
  tr a b c := ord_trans
  tri a b := by
    rcases Int.lt_trichotomy (ordT a b) 0 with h | h | h
    · exact .inl h
    · exact .inr (.inl (ordT_eq a b h))
    · refine .inr (.inr ?_)
      show ordT b a < 0
      rw [ord_anti]; omega
  eq a b := same_iff
theorem addF_insO : addF = insO (fun a b : Tm => ordT a b < 0) same := by
  funext L t
  induction L with
  | nil => rfl
  | cons u L ih => rw [addF, insO, ih]
theorem rsort_ss (l : List Tm) : (rsortF l).Pairwise (fun a b => ordT a b < 0) ∧ ∀ x, x ∈ rsortF l ↔ x ∈ l := by
  have := foldO totT l [] .nil
  rw [rsortF, addF_insO]
  simpa using this

theorem totI : Tot (fun a b : Int => a < b) (fun u v => u == v) where
  irr a h := by simp at h
  tr a b c h1 h2 := by omega
  tri a b := by omega
  eq a b := by simp
theorem insF_insO : insF = insO (fun a b : Int => a < b) (fun u v => u == v) := by
  funext L t
  induction L with
  | nil => rfl
  | cons u L ih => rw [insF, insO, ih]; simp
mutual
theorem rnonT_ss : ∀ t : Tm, (rnonT t).Pairwise (· < ·) ∧ ∀ x, x ∈ rnonT t ↔ x ∈ nonT t
  | .mk k n s l => by
    have := rnonL_ss l (if k = 2 then [n] else []) (by split <;> simp)
    rw [rnonT, nonT]
    exact ⟨this.1, fun x => by rw [this.2, List.mem_append]⟩
theorem rnonL_ss : ∀ (l : List Tm) (acc : List Int), acc.Pairwise (· < ·) → (rnonL l acc).Pairwise (· < ·) ∧ ∀ x, x ∈ rnonL l acc ↔ x ∈ acc ∨ x ∈ nonL l
  | [], acc, h => ⟨h, by simp [rnonL, nonL]⟩
  | t :: l, acc, h => by
    have h1 := rnonT_ss t
    have h2 := foldO totI (rnonT t) acc h
    rw [← insF_insO] at h2
    have h3 := rnonL_ss l ((rnonT t).foldl insF acc) h2.1
    rw [rnonL, nonL]
    exact ⟨h3.1, fun x => by rw [h3.2, h2.2, h1.2, List.mem_append, or_assoc]⟩
end

theorem cmp_rsort {l l' : List Tm} (hs : l'.Pairwise fun a b => ¬ ordT b a < 0) (hm : ∀ x, x ∈ l' ↔ x ∈ l) : cmpF same l' = rsortF l := by
  have h1 := cmpF_ss totT hs
  have h2 := rsort_ss l
  exact ss_ext totT h1.1 h2.1 fun x => by rw [h1.2, h2.2, hm]
theorem cmp_rnon {t : Tm} {l' : List Int} (hs : l'.Pairwise fun a b => a ≤ b) (hm : ∀ x, x ∈ l' ↔ x ∈ nonT t) : cmpF (fun u v : Int => u == v) l' = rnonT t := by
  have h1 := cmpF_ss totI (l := l') (hs.imp fun h => by omega)
  have h2 := rnonT_ss t
  exact ss_ext totI h1.1 h2.1 fun x => by rw [h1.2, h2.2, hm]
end Go.Proofs.Ytmnmhehddbemkaa
namespace Go.Proofs.Ytmnmhehddbemkaa
open Go Go.Eng
set_option maxRecDepth 100000
theorem sortZ_perm (l : List Int) : (sortZ l).Perm l := List.mergeSort_perm _ _
theorem sortZ_ss (l : List Int) : (sortZ l).Pairwise fun a b => a ≤ b := by
  have := List.pairwise_mergeSort (le := fun x y : Int => decide (x ≤ y)) (fun a b c h1 h2 => by simp at *; omega) (fun a b => by simp; omega) l
  exact this.imp fun h => by simpa using h
theorem nonces_fn (t : Tm) (h : Sm t) (hs : szT t ≤ 1000000) : Gives Try.prog 41 [t.sv] (.tl 1 (ints (rnonT t))) := by
  have hn := nonT_len t
  refine contract_of ty_ok [0, 1, 4, 5, 6, 7, 8, 9] Try.func41 rfl (by decide) Try.ntmps41 rfl fun z => ?_
  refine run 400 rfl ?_
  refine at_nilSI 1 2 0 rfl rfl rfl ?_
  refine at_callG [1, 2, 3] (eachB_fn t [] 0 0 h (by simpa using hs) (by simp) (by simp)) rfl ⟨rfl, rfl, trivial⟩ rfl ?_
  rintro sv post ⟨c, r, h1, h2, rfl, rfl⟩
  rw [List.nil_append] at h1 h2
  refine ⟨rfl, rfl, ?_⟩
  show Sat _ _ _ _ [(1, .cells 22 [.sl 3 0 (nonT t).length c]), (3, .buf (ints (nonT t)) r), (0, .cells 33 [I t.k, I t.n, .str t.s, .lst 4 (rowsT t.kids)])] _
  have hp := sortZ_perm (nonT t)
  have hl := hp.length_eq
  have hlaw := cmp_rnon (t := t) (sortZ_ss (nonT t)) fun x => hp.mem_iff
  refine run 400 rfl ?_
  refine at_sortI 3 rfl rfl rfl (by omega) rfl ?_
  rw [← hl] at h1 ⊢
  generalize sortZ (nonT t) = l at *
  refine run 400 rfl ?_
  refine at_callF [3] (cmpactI_fn l c r (by omega) h1) rfl ⟨rfl, trivial⟩ rfl rfl rfl ?_
  refine run 400 rfl ?_
  have hlen := cmp_len eqI l
  refine at_callF [3] (clipI_fn _ _ _ _ (by omega)) rfl ⟨rfl, trivial⟩ rfl rfl rfl ?_
  refine run 400 rfl ?_
  refine at_pubT 2 3 1 (ints (cmpF eqI l)) [] rfl rfl (List.append_nil _).symm (ints_len _).symm (fun r hr => ints_sz r hr) rfl ?_
  exact at_ret rfl rfl [] ⟨by rw [← hlaw], rfl, rfl⟩ trivial
end Go.Proofs.Ytmnmhehddbemkaa
