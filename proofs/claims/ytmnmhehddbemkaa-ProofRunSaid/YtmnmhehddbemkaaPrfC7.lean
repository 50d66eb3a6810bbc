/- The texts Slc, CallG, W4y, W4z, W5a, Swap, one behind the other: an executor over the translated code, contracts of functions, and their laws. -/

import Derived.Test.YtmnmhehddbemkaaPrfC6
/- The proof engine: slices whose cells are owned. -/
namespace Go.Eng
open Go.RowKit

variable {E : Stc} {all rest : List Oper} {o : Oper} {s : List Fr} {env : List (Nat × SV)} {own own2 : List (Nat × SO)} {nx : List Nat}

theorem SVle.arr (k n : Nat) : SVle (.arr k n) (.sl k 0 n n) := fun _ _ _ h => .inl h

/-- A list that has nothing may be owned. -/
theorem at_nilS {m : Md} (t k : Nat) {sz : Nat} (ht : nth env t = .tl sz []) (kk : Sat E m s ((t, .sl k 0 0 0) :: env) ((k, .buf [] 0) :: own) nx)
    (hm : Nat.ble E.cx.m0 k = true := by rfl) (hE : freshE k env = true := by rfl) (hO : freshO k own = true := by rfl) : Sat E m s env own nx := by
  refine sat_mono (fun a w hat => ?_) kk
  obtain ⟨hdf, g, H, hdn⟩ := hat
  have hd2 := hdn.bind (k := k) (x := .pointer none) (so := .buf [] 0) (Nat.le_of_ble_eq_true hm) hE hO (.inr ⟨upd_same _ _ _, rfl⟩) (fun b hb => by cases hb)
  refine ⟨hdf, _, H, { hd2 with den := fun i => ?_ }⟩
  simp only [nth]
  cases hb : Nat.beq t i with
  | true =>
    rw [← beq_true hb]
    have := hdn.den t
    rw [ht] at this
    obtain ⟨_, ad, e⟩ := this
    exact .inr ⟨rfl, rfl, rfl, upd_same _ _ _, ad, e⟩
  | false => exact hd2.den i

/-- The same, in an own block. -/
theorem at_nilSI {m : Md} (c k i : Nat) {ty sz : Nat} {cs : List SV} (hc : ownq own c = some (.cells ty cs)) (hi : cs[i]? = some (.tl sz [])) (hso : setOwnK c (.cells ty (cs.set i (.sl k 0 0 0))) own some = some own2)
    (kk : Sat E m s env ((k, .buf [] 0) :: own2) nx) (hm : Nat.ble E.cx.m0 k = true := by rfl) (hE : freshE k env = true := by rfl) (hO : freshO k own = true := by rfl) (hne : Nat.beq k c = false := by rfl) (hcs : SV.noKs k cs = true := by rfl) : Sat E m s env own nx := by
  rw [setOwnK_eq] at hso
  simp only [Option.some.injEq] at hso
  subst hso
  have hkc : ¬ k = c := fun e => by rw [e, Nat.beq_refl] at hne; cases hne
  refine sat_mono (fun a w hat => ?_) kk
  obtain ⟨hdf, g, H, hdn⟩ := hat
  obtain ⟨b, vs, g1, g2, g3, g4, g5, g6⟩ := hdn.ok c _ hc
  obtain ⟨x, hxi, hxd⟩ := Dens.get g2 hi
  obtain ⟨_, ad, e⟩ := hxd
  have hd3 := hdn.bind (k := k) (x := .pointer none) (so := .buf [] 0) (Nat.le_of_ble_eq_true hm) hE hO (.inr ⟨upd_same _ _ _, rfl⟩) (fun b hb => by cases hb)
  have hp : Den (Eng.upd g k (.pointer none)) H (.sl k 0 0 0) x := .inr ⟨rfl, rfl, rfl, upd_same _ _ _, ad, e⟩
  have hiff : ∀ j, (ownq ((k, SO.buf [] 0) :: setOwn c (.cells ty (cs.set i (.sl k 0 0 0))) own) j).isSome = true → (ownq ((k, SO.buf [] 0) :: own) j).isSome = true := by
    intro j hi
    simp only [ownq] at hi ⊢
    cases hb : Nat.beq k j with
    | true => rfl
    | false =>
      rw [hb, cond_false] at hi
      rw [cond_false]
      rw [ownq_setOwn] at hi
      split at hi
      · rename_i e
        subst e
        rw [hc]; rfl
      · exact hi
  refine ⟨hdf, _, H, { hd3 with ok := fun j o' hj => ?_, inj := fun i j hi hj => hd3.inj i j (hiff i hi) (hiff j hj) }⟩
  simp only [ownq] at hj
  cases hb : Nat.beq k j with
  | true =>
    have hj' : ownq ((k, SO.buf [] 0) :: own) j = some o' := by simp only [ownq, hb, cond_true]; rw [hb, cond_true] at hj; exact hj
    exact hd3.ok j o' hj'
  | false =>
    rw [hb, cond_false, ownq_setOwn] at hj
    have hjk : j ≠ k := fun e => by rw [e, Nat.beq_refl] at hb; cases hb
    by_cases hjc : j = c
    · subst hjc
      rw [if_pos rfl, hc] at hj
      simp only [Option.map_some, Option.some.injEq] at hj
      subst hj
      exact ⟨b, vs, by rw [upd_ne _ _ _ j hjk]; exact g1, Dens.set hp _ _ i (Dens.upd (k := k) (fun j hj => upd_ne _ _ _ j hj) cs vs hcs g2) hxi, g3, g4, g5, g6⟩
    · rw [if_neg hjc] at hj
      exact hd3.ok j o' (by simp only [ownq, hb, cond_false]; exact hj)

/-- A place of an owned slice. -/
theorem does_indexS {P : Program} {T : Nat → TI} (hT : ∀ t, T t = tiOf P t) {o : Oper} {t sz k off m c : Nat} {x i : Operand} {kk : IntKind} {n : Int} (ho : o.op = .indexAddr t x i) (hx : ev env x = .sl k off m c) (hi : ev env i = .int kk n)
    (h0 : 0 ≤ n ∧ n < m) (hkT : lstT T t sz = true) : DoesV P o env own (.ptr k (off + n.toNat * sz)) := by
  obtain ⟨hk, hz, hk2, _⟩ := lstT_spec hT hkT
  obtain ⟨i1, h1⟩ := slice_ti hk
  obtain ⟨i2, d2, h2⟩ := ti_spec hk2
  refine does_val fun cx g H q a w hd => ?_
  have e1 := hd.ev x
  rw [hx] at e1
  rcases e1 with ⟨b, hg, e1⟩ | ⟨_, hm, _⟩
  · have e2 := hd.ev i
    rw [hi] at e2
    have e2 : a.eval i = .int kk n := e2
    refine ⟨.pointer (some ⟨b, off + n.toNat * sz, none⟩), ?_, b, hg, rfl⟩
    have : 0 ≤ n ∧ n < (m : Int) := h0
    simp [execOp, ho, e1, e2, Instr.indexAt, asIntOf, run_underlying h1.und, this, run_sizeOf' h2.info, ← h2.size, hz, Addr.add]
  · subst hm
    omega

theorem flatU_len {sz : Nat} {rows : List (List DV)} (h : ∀ r ∈ rows, r.length = sz) : (flatU rows).length = rows.length * sz := by
  unfold flatU
  rw [List.length_map]
  induction rows with
  | nil => simp
  | cons r l ih =>
    rw [List.flatten_cons, List.length_append, h r (by simp), ih fun q hq => h q (by simp [hq]), List.length_cons, Nat.add_mul]
    omega
theorem flatU_app (a b : List (List DV)) : flatU (a ++ b) = flatU a ++ flatU b := by simp [flatU]

theorem Dens.anys' {g : Nat → Value} {H : Hp} {n : Nat} {vs : List Value} (h : vs.length = n) : Dens g H (Eng.anys n) vs := by
  subst h
  exact Dens.anys vs

theorem zeroCells_one {z : Array Value} (hz : ∀ v ∈ z.toList, v.oneCell' = true) (m : Nat) : ∀ v ∈ (Builtin.zeroCells z m).toList, v.oneCell' = true := by
  intro v hv
  exact made_one hz m v hv

/-- An owned slice grows. -/
theorem at_appendS {T : Nat → TI} (k k' sz : Nat) {t n c r : Nat} {x y : Operand} {rows ys : List (List DV)} {cl : Call} (hT : ∀ t, T t = tiOf E.P t) (ho : o.op = .call cl) (hcl : cl.callee = .builtin .append) (ha : cl.args = #[x, y]) (hat : cl.argTypes = #[t, t])
    (hx : ev env x = .sl k 0 n c) (hy : lstv (ev env y) = some (sz, ys)) (hk : ownq own k = some (.buf rows r)) (hn : n = rows.length) (hr : ∀ q ∈ rows, q.length = sz) (hcs : n * sz + r = c * sz) (hnc : n ≤ c) (hy0 : 0 < ys.length) (hkT : lstT T t sz = true) (hl : ((n + ys.length : Nat) : Int) ≤ 9223372036854775807) (hb : (n + ys.length) * (T (T t).elem).bytes ≤ 140737488355328)
    (hless : lessK k own some = some own2)
    (kk : ∀ c' r', n + ys.length ≤ c' → (n + ys.length) * sz + r' = c' * sz → Sat E (.ops all rest) s (put o.dst (.sl k' 0 (n + ys.length) c') env) ((k', .buf (rows ++ ys) r') :: own2) nx)
    (hm : Nat.ble E.cx.m0 k' = true := by rfl) (hE : freshE k' env = true := by rfl) (hO : freshO k' own2 = true := by rfl) (hones : SV.ones (constsS (T (T t).elem).zero) = true := by rfl)
    (hg : guardK all o.guard env true false false = true := by rfl) (hd : dstLt o.dst E.n = true := by rfl) : Sat E (.ops all (o :: rest)) s env own nx := by
  intro a w hat0
  have hwant := wanted_of (E := E) (own := own) hg a w hat0
  rw [lessK_eq] at hless
  simp only [Option.some.injEq] at hless
  subst hless
  subst hn
  unfold wpList
  rw [if_pos hwant]
  refine .inl ?_
  obtain ⟨hdf, g, H, hdn⟩ := hat0
  obtain ⟨hk1, hz, hk2, hz2, hz0⟩ := lstT_spec hT hkT
  rw [hT (T t).elem, hT t] at hb hones
  obtain ⟨i1, h1⟩ := slice_ti hk1
  obtain ⟨i2, d2, h2⟩ := ti_spec hk2
  obtain ⟨z, hz3, hz4⟩ := zero_spec h2 hz2
  have hzs : z.cells.size = sz := by rw [← hz0, hz4, Array.length_toList]
  have hsz : sz = i2.size := by rw [← hz, h2.size]
  rw [h2.bytes] at hb
  have hrun : ∀ v w', (Builtin.append_ #[t, t] o.type #[a.eval x, a.eval y]).run E.P w = .ok v w' → (execOp a.eval o).run E.P w = .ok (.value v) w' := by
    intro v w' h
    simp only [execOp, ho, resolve, hcl, ha, hat]
    simp [invoke, builtin, h]
  obtain ⟨bd, c2, e2, hc2, hn2, hp2⟩ := lstv_den hy (hdn.ev y)
  cases hbd : bd with
  | none => rw [(hn2 hbd).1] at hy0; simp at hy0
  | some q =>
  subst hbd
  obtain ⟨hq1, hq2⟩ := hp2 q rfl
  obtain ⟨nv, hf2, hc3⟩ := hq2.flat
  have hnl := hf2.length
  have hq1 : q.spot = none := hq1.resolve_left fun e => by rw [e] at hy0; simp at hy0
  have hnews : ∀ (j : Nat) (v : Value), nv[j]? = some v → w.cell? (q.add j) = some v := by
    intro j v hj
    obtain ⟨b, off, spot⟩ := q
    simp only at hq1
    subst hq1
    rw [addr_add]
    exact hdn.hp _ _ _ (hc3 j v hj)
  have hdl : Dn E.cx g H env (rm1 k own) E.n a.tmps w := hdn.lessO (rm1_less k own)
  have hmul : (rows.length + ys.length) * sz = rows.length * sz + ys.length * sz := Nat.add_mul _ _ _
  -- a new block
  have fresh : ∀ (ov : List Value) (cap : Nat), Dens g H (flatU rows) ov → (∀ v ∈ ov, v.oneCell' = true) → rows.length + ys.length ≤ cap →
      (execOp a.eval o).run E.P w = .ok (.value (.slice (some ⟨w.heap.size, 0, none⟩) (rows.length + ys.length) cap)) (w.drew.alloc (.cells (ov.toArray ++ nv.toArray ++ Builtin.zeroCells z.cells (cap - (rows.length + ys.length))) (tiOf E.P t).elem)) →
      o.wp E.P a w (wpList E.P all.toArray (KK E s) rest) (KK E s) := by
    intro ov cap hod ho1 hcap hr'
    have hd1 := hdl.drew.grown (w' := w.drew.alloc (.cells (ov.toArray ++ nv.toArray ++ Builtin.zeroCells z.cells (cap - (rows.length + ys.length))) (tiOf E.P t).elem)) rfl rfl rfl (by simp) (fun b hb => heap_alloc_lt w.drew _ hb)
    have hzl : ((Builtin.zeroCells z.cells (cap - (rows.length + ys.length))).toList).length = (cap - (rows.length + ys.length)) * sz := by rw [Array.length_toList, size_zeroCells, hzs]
    have hone : ∀ v ∈ ov ++ nv ++ (Builtin.zeroCells z.cells (cap - (rows.length + ys.length))).toList, v.oneCell' = true := by
      intro v hv
      rcases List.mem_append.1 hv with hv | hv
      · rcases List.mem_append.1 hv with hv | hv
        · exact ho1 v hv
        · exact hf2.one v hv
      · have hz1 : ∀ v ∈ z.cells.toList, v.oneCell' = true := by
          rw [← hz4]
          exact (constsS_den g H _).oneCells hones
        exact zeroCells_one hz1 _ v hv
    have hden : Dens g H (bufC (rows ++ ys) ((cap - (rows.length + ys.length)) * sz)) (ov ++ nv ++ (Builtin.zeroCells z.cells (cap - (rows.length + ys.length))).toList) := by
      rw [bufC, flatU_app]
      exact Dens.append (Dens.append hod hf2.toFlat) (Dens.anys' hzl)
    have hd2 := hd1.bind (k := k') (x := .pointer (some ⟨w.heap.size, 0, none⟩)) (so := .buf (rows ++ ys) ((cap - (rows.length + ys.length)) * sz)) (Nat.le_of_ble_eq_true hm) hE hO (.inl ⟨(tiOf E.P t).elem, w.heap.size, ov ++ nv ++ (Builtin.zeroCells z.cells (cap - (rows.length + ys.length))).toList, upd_same _ _ _,
      Dens.plain g _ H _ _ _ hden, hone, by
        rw [show (w.drew.alloc (.cells (ov.toArray ++ nv.toArray ++ Builtin.zeroCells z.cells (cap - (rows.length + ys.length))) (tiOf E.P t).elem)).heap[w.heap.size]? = _ from heap_alloc_new w.drew _]
        congr 2
        apply Array.ext'
        simp, fun j => Hp.on_new hdl.hp j, .inl hdl.base.size⟩) (fun b hb j o' hj e => by
        simp only [blkOf, Option.some.injEq] at hb
        subst hb
        have := (hdl.ok j o' hj).blk_lt e
        omega)
    unfold Oper.wp
    rw [hr']
    refine kk cap _ hcap ?_ _ _ (At.put hdf hd2 (.inl ⟨w.heap.size, upd_same _ _ _, rfl⟩) fun d e => by rw [e] at hd; exact Nat.blt_eq.mp hd)
    rw [← Nat.add_mul, Nat.add_sub_cancel' hcap]
  have ex := hdn.ev x
  rw [hx] at ex
  rcases ex with ⟨b, hgk, ex⟩ | ⟨_, hn0, hc0, hgk, ad, ex⟩
  · -- cells of its own
    rcases hdn.ok k _ hk with ⟨ty, b', vs, e0, hv, hv1, hw, hH, hmine⟩ | ⟨e0, _⟩
    rotate_left
    · rw [e0] at hgk; cases hgk
    have hbb : b' = b := by rw [e0] at hgk; simpa using hgk
    subst hbb
    obtain ⟨v1, v2, rfl, hva, hvb⟩ := Dens.append_inv hv
    have hl1 : v1.length = rows.length * sz := by rw [hva.length, flatU_len hr]
    have hl2 : v2.length = r := by rw [hvb.length]; simp [anys]
    have hvl : (v1 ++ v2).length = c * sz := by rw [List.length_append, hl1, hl2, hcs]
    by_cases hroom : rows.length + ys.length ≤ c
    · have hfit : rows.length * sz + nv.length ≤ (v1 ++ v2).length := by
        rw [hnl, hvl, ← Nat.add_mul]
        exact Nat.mul_le_mul_right _ hroom
      have hr' := run_append_room_off (P := E.P) w t o.type _ i2 h1.und h2.info ty b' 0 rows.length c (v1 ++ v2).toArray hw q ys.length c2 nv (by rw [hnl, hsz]) hnews hf2.one hroom (by rw [← hsz]; simpa using hfit)
      rw [← hsz] at hr'
      obtain ⟨ty', hd1⟩ := hdn.openB hk hgk
      have hk' : ownq (setOwn k (.cells ty' (bufC rows r)) own) k = some (.cells ty' (bufC rows r)) := by rw [ownq_setOwn, if_pos rfl, hk]; rfl
      have hone : ∀ v ∈ splice nv (rows.length * sz) (v1 ++ v2), v.oneCell' = true := by
        intro v hv'
        unfold Eng.splice at hv'
        rcases List.mem_append.1 hv' with hv' | hv'
        · rcases List.mem_append.1 hv' with hv' | hv'
          · exact hv1 v (List.mem_of_mem_take hv')
          · exact hf2.one v hv'
        · exact hv1 v (List.mem_of_mem_drop hv')
      have hden : Dens g H (bufC (rows ++ ys) (c * sz - (rows.length + ys.length) * sz)) (splice nv (rows.length * sz) (v1 ++ v2)) := by
        unfold Eng.splice
        rw [bufC, flatU_app, ← hl1, List.take_left']
        · refine Dens.append (Dens.append hva hf2.toFlat) (Dens.anys' ?_)
          rw [List.length_drop, hvl, hl1, hnl, hmul]
        · rfl
      have hd2 := hd1.write (new := bufC (rows ++ ys) (c * sz - (rows.length + ys.length) * sz)) hk' hgk hden hone
      have hd3 := hd2.lessO (own2 := rm1 k own) (k := k) (fun j o' hj => by
        have := rm1_less k own j o' hj
        refine ⟨this.1, ?_⟩
        rw [ownq_setOwn, if_neg this.1, ownq_setOwn, if_neg this.1]
        exact this.2)
      have hd4 := hd3.bind (k := k') (x := .pointer (some ⟨b', 0, none⟩)) (so := .buf (rows ++ ys) (c * sz - (rows.length + ys.length) * sz)) (Nat.le_of_ble_eq_true hm) hE hO
        (.inl ⟨ty, b', splice nv (rows.length * sz) (v1 ++ v2), upd_same _ _ _, Dens.plain g _ H _ _ _ hden, hone, setRow_heap w b' _ _ ty (0, 0) hw, hH, hmine⟩) (fun b2 hb2 j o' hj e => by
          simp only [blkOf, Option.some.injEq] at hb2
          subst hb2
          have hl := rm1_less k own j o' hj
          exact hl.1 (hdn.inj j k (by rw [hl.2]; rfl) (by rw [hk]; rfl) b' e (by rw [hgk]; rfl)))
      unfold Oper.wp
      rw [hrun _ _ (by rw [ex, e2]; exact hr')]
      have e9 : (splice nv (0 + rows.length * sz) (v1 ++ v2).toArray.toList).toArray = (splice nv (rows.length * sz) (v1 ++ v2)).toArray := by rw [Nat.zero_add]
      rw [e9]
      have hle : (rows.length + ys.length) * sz ≤ c * sz := Nat.mul_le_mul_right _ hroom
      exact kk c _ hroom (by omega) _ _ (At.put hdf hd4 (.inl ⟨b', upd_same _ _ _, rfl⟩) fun d e => by rw [e] at hd; exact Nat.blt_eq.mp hd)
    · have holds : ∀ (j : Nat) (v : Value), v1[j]? = some v → w.cell? ((⟨b', 0, none⟩ : Addr).add j) = some v := by
        intro j v hj
        rw [addr_add, ok_cell hw, Nat.zero_add, List.getElem?_append_left (List.getElem?_eq_some_iff.1 hj).1]
        exact hj
      have hr' := run_append_grow (P := E.P) w t o.type _ i2 z h1.und h2.info hz3 ⟨b', 0, none⟩ rows.length c v1 (by rw [hl1, hsz]) holds q ys.length c2 nv (by rw [hnl, hsz]) hnews (by omega) hl (growslice_fits (by omega) hb)
      exact fresh v1 _ hva (fun v hv' => hv1 v (by simp [hv'])) (grownCap_ge _ _ _ _) (hrun _ _ (by rw [ex, e2]; exact hr'))
  · -- there was nothing
    subst hc0
    have hrows : rows = [] := List.eq_nil_of_length_eq_zero hn0
    subst hrows
    simp only [List.length_nil, Nat.zero_add] at hl hb
    cases ad with
    | none =>
      have hr' := run_append_nil (P := E.P) w t o.type _ i2 z h1.und h2.info hz3 q ys.length c2 nv (by rw [hnl, hsz]) hnews hy0 hl (by omega)
      exact fresh [] (grownCap w ys.length 0 (tiOf E.P t).elem) trivial (by simp) (by rw [List.length_nil, Nat.zero_add]; exact grownCap_ge _ _ _ _) (hrun _ _ (by rw [ex, e2, List.length_nil, Nat.zero_add]; simpa using hr'))
    | some p =>
      have hr' := run_append_grow (P := E.P) w t o.type _ i2 z h1.und h2.info hz3 p 0 0 [] (by simp) (by simp) q ys.length c2 nv (by rw [hnl, hsz]) hnews (by omega) (by simpa using hl) (growslice_fits (by omega) (by simpa using hb))
      exact fresh [] _ trivial (by simp) (grownCap_ge _ _ _ _) (hrun _ _ (by rw [ex, e2]; exact hr'))

/-- What was owned is let be read, and written no more: a slice of it, from the front. -/
theorem at_pubG {m : Md} (t k sz : Nat) {n c r : Nat} {rows : List (List DV)} (rows1 rows2 : List (List DV)) (sv : SV) (ht : nth env t = .sl k 0 n c) (hk : ownq own k = some (.buf rows r)) (hcs : rows = rows1 ++ rows2) (hn : n = rows1.length) (hnc : n ≤ c) (hr : ∀ r ∈ rows1, r.length = sz)
    (hsv : ∀ g H x a, DenD H (.lst sz rows1) x → x = .slice a n c → Den g H sv x) (hless : lessK k own some = some own2) (kk : Sat E m s ((t, sv) :: env) own2 nx) : Sat E m s env own nx := by
  refine sat_mono (fun a w h => ?_) kk
  obtain ⟨hdf, g, H, hd⟩ := h
  rw [lessK_eq] at hless
  simp only [Option.some.injEq] at hless
  subst hless
  have hl := rm1_less k own
  subst hcs; subst hn
  have ht' := hd.den t
  rw [ht] at ht'
  rcases ht' with ⟨b0, hg0, ex⟩ | ⟨_, hn0, hc0, hgk, ad, ex⟩
  · rcases hd.ok k _ hk with ⟨ty, b, vs, hg, hv, hone, hw, hH, hm⟩ | ⟨hg, _⟩
    rotate_left
    · rw [hg] at hg0; cases hg0
    have hbb : b0 = b := by rw [hg] at hg0; simpa using hg0.symm
    subst hbb
    rw [bufC, flatU_app, List.append_assoc] at hv
    obtain ⟨v1, v2, rfl, hv1, hv2⟩ := Dens.append_inv hv
    have hf := DenF.of_flatU hr hv1
    have hd2 := hd.fill (v1 ++ v2) hl (fun j o hj hne e => hne (hd.inj j k (by rw [hj]; rfl) (by rw [hk]; rfl) b0 e (by rw [hg]; rfl))) hm hw (fun j _ => hH j) (q := 0) (by simp)
    have e : (splice (v1 ++ v2) 0 (v1 ++ v2).toArray.toList).toArray = (v1 ++ v2).toArray := by simp [splice]
    rw [e, setRow_self w b0 (v1 ++ v2).toArray ty (0, 0) hw] at hd2
    have hle := Hp.add_le (H := H) (b := b0) (q := 0) (fun j _ => hH j) (v1 ++ v2)
    refine ⟨hdf, g, _, { hd2 with den := fun i => ?_ }⟩
    simp only [nth]
    cases hb : Nat.beq t i with
    | false => exact hd2.den i
    | true =>
      rw [← beq_true hb]
      refine hsv g _ _ _ ⟨some ⟨b0, 0, none⟩, c, ex, hnc, fun e => (by cases e), fun p hp => ?_⟩ ex
      simp only [Option.some.injEq] at hp
      subst hp
      refine ⟨.inr rfl, (hf.mono hle).rs fun j v hj => ?_⟩
      have := Hp.add_at H b0 0 (v1 ++ v2) (j := j) (v := v) (by rw [List.getElem?_append_left (List.getElem?_eq_some_iff.1 hj).1]; exact hj)
      simpa using this
  · have hd2 := hd.lessO hl
    refine ⟨hdf, g, H, { hd2 with den := fun i => ?_ }⟩
    simp only [nth]
    cases hb : Nat.beq t i with
    | false => exact hd2.den i
    | true =>
      rw [← beq_true hb]
      have hrows : rows1 = [] := List.eq_nil_of_length_eq_zero hn0
      subst hrows
      subst hc0
      exact hsv g H _ _ ⟨ad, 0, ex, Nat.le_refl _, fun _ => ⟨rfl, rfl⟩, fun p _ => ⟨.inl rfl, trivial⟩⟩ ex

theorem at_pubS {m : Md} (t k sz : Nat) {n c r : Nat} {rows : List (List DV)} (ht : nth env t = .sl k 0 n c) (hk : ownq own k = some (.buf rows r)) (hn : n = rows.length) (hnc : n ≤ c) (hr : ∀ r ∈ rows, r.length = sz)
    (hless : lessK k own some = some own2) (kk : Sat E m s ((t, .lst sz rows) :: env) own2 nx) : Sat E m s env own nx :=
  at_pubG t k sz rows [] (.lst sz rows) ht hk (by simp) hn hnc hr (fun _ _ _ _ h _ => h) hless kk
theorem at_pubT {m : Md} (t k sz : Nat) {n r : Nat} {rows : List (List DV)} (rows1 rows2 : List (List DV)) (ht : nth env t = .sl k 0 n n) (hk : ownq own k = some (.buf rows r)) (hcs : rows = rows1 ++ rows2) (hn : n = rows1.length) (hr : ∀ r ∈ rows1, r.length = sz)
    (hless : lessK k own some = some own2) (kk : Sat E m s ((t, .tl sz rows1) :: env) own2 nx) : Sat E m s env own nx :=
  at_pubG t k sz rows1 rows2 (.tl sz rows1) ht hk hcs hn (Nat.le_refl _) hr (fun _ _ _ a h e => ⟨h, a, by rw [e, hn]⟩) hless kk

end Go.Eng
/- The proof engine: calls that are handed own things, and hand back own things. -/
namespace Go.Eng

/-- Names by a list. -/
def rl (l : List Nat) : Nat → Nat := fun k => l.getD k 0

def updl (g : Nat → Value) : List (Nat × Value) → Nat → Value
  | [] => g
  | (n, v) :: r => upd (updl g r) n v
theorem updl_ne (g : Nat → Value) : ∀ (ps : List (Nat × Value)) (j : Nat), (∀ p ∈ ps, p.1 ≠ j) → updl g ps j = g j
  | [], _, _ => rfl
  | (n, v) :: r, j, h => by
    rw [updl, upd_ne _ _ _ _ (fun e => h (n, v) (by simp) e.symm), updl_ne g r j fun p hp => h p (by simp [hp])]
theorem updl_at (g : Nat → Value) : ∀ (ps : List (Nat × Value)) (i : Nat) (p : Nat × Value), ps[i]? = some p → (ps.map (·.1)).Nodup → updl g ps p.1 = p.2
  | [], _, _, h, _ => by simp at h
  | (n, v) :: r, 0, p, h, _ => by
    simp only [List.getElem?_cons_zero, Option.some.injEq] at h
    subst h
    rw [updl, upd_same]
  | (n, v) :: r, i + 1, p, h, hn => by
    simp only [List.getElem?_cons_succ] at h
    simp only [List.map_cons, List.nodup_cons] at hn
    rw [updl, upd_ne, updl_at g r i p h hn.2]
    intro e
    exact hn.1 (by rw [← e]; exact List.mem_map_of_mem (List.mem_of_getElem? h))

theorem Den.updl {g : Nat → Value} {H : Hp} {s : SV} {x : Value} : ∀ (ps : List (Nat × Value)), (∀ p ∈ ps, s.noK p.1 = true) → Den g H s x → Den (Eng.updl g ps) H s x
  | [], _, h => h
  | (n, v) :: r, hn, h => by
    have ih := Den.updl r (fun p hp => hn p (by simp [hp])) h
    exact Den.upd (k := n) (fun j hj => upd_ne _ _ _ j hj) s x (hn (n, v) (by simp)) ih
theorem OwnOk.updl {mine : Nat → Prop} {g : Nat → Value} {H : Hp} {w : World} {j : Nat} {o : SO} : ∀ (ps : List (Nat × Value)), (∀ p ∈ ps, j ≠ p.1 ∧ o.noK p.1) → OwnOk mine g H w j o → OwnOk mine (Eng.updl g ps) H w j o
  | [], _, h => h
  | (n, v) :: r, hn, h => (OwnOk.updl r (fun p hp => hn p (by simp [hp])) h).upd (hn (n, v) (by simp))

def mapO (r : Nat → Nat) : List (Nat × SO) → List (Nat × SO)
  | [] => []
  | (k, o) :: l => (r k, renO r o) :: mapO r l

def postLt (M : Nat) : List (Nat × SO) → Bool
  | [] => true
  | (k, .cells _ cs) :: l => bif Nat.blt k M then (bif SV.lts M cs then postLt M l else false) else false
  | (k, .buf _ _) :: l => bif Nat.blt k M then postLt M l else false
  | (k, .tok _) :: l => bif Nat.blt k M then postLt M l else false
  | (k, .obj _) :: l => bif Nat.blt k M then postLt M l else false

def SO.ltM (M : Nat) : SO → Prop
  | .cells _ cs => SV.lts M cs = true
  | _ => True

theorem postLt_spec {M : Nat} : ∀ {l : List (Nat × SO)}, postLt M l = true → ∀ p ∈ l, p.1 < M ∧ p.2.ltM M
  | [], _, p, hp => by cases hp
  | (k, .cells t cs) :: l, h, p, hp => by
    simp only [postLt] at h
    cases h1 : Nat.blt k M with
    | false => simp [h1] at h
    | true =>
      cases h2 : SV.lts M cs with
      | false => simp [h1, h2] at h
      | true =>
        simp only [h1, h2, cond_true] at h
        rcases List.mem_cons.1 hp with rfl | hp
        · exact ⟨Nat.blt_eq.mp h1, h2⟩
        · exact postLt_spec h p hp
  | (k, .buf c nn) :: l, h, p, hp => by
    simp only [postLt] at h
    cases h1 : Nat.blt k M with
    | false => simp [h1] at h
    | true =>
      simp only [h1, cond_true] at h
      rcases List.mem_cons.1 hp with rfl | hp
      · exact ⟨Nat.blt_eq.mp h1, trivial⟩
      · exact postLt_spec h p hp
  | (k, .tok c) :: l, h, p, hp => by
    simp only [postLt] at h
    cases h1 : Nat.blt k M with
    | false => simp [h1] at h
    | true =>
      simp only [h1, cond_true] at h
      rcases List.mem_cons.1 hp with rfl | hp
      · exact ⟨Nat.blt_eq.mp h1, trivial⟩
      · exact postLt_spec h p hp
  | (k, .obj f) :: l, h, p, hp => by
    simp only [postLt] at h
    cases h1 : Nat.blt k M with
    | false => simp [h1] at h
    | true =>
      simp only [h1, cond_true] at h
      rcases List.mem_cons.1 hp with rfl | hp
      · exact ⟨Nat.blt_eq.mp h1, trivial⟩
      · exact postLt_spec h p hp

theorem ownq_mem' {l : List (Nat × SO)} {k : Nat} {o : SO} (h : ownq l k = some o) : (k, o) ∈ l := by
  induction l with
  | nil => simp [ownq] at h
  | cons y l ih =>
    obtain ⟨i, x⟩ := y
    simp only [ownq] at h
    cases hb : Nat.beq i k with
    | true =>
      simp only [hb, cond_true, Option.some.injEq] at h
      rw [← beq_true hb, h]
      simp
    | false =>
      simp only [hb, cond_false] at h
      exact List.mem_cons_of_mem _ (ih h)

theorem ownq_mapO {r : Nat → Nat} {M : Nat} (hr : ∀ i j, i < M → j < M → r i = r j → i = j) : ∀ {l : List (Nat × SO)}, (∀ p ∈ l, p.1 < M) → ∀ {j : Nat} {o' : SO}, ownq (mapO r l) j = some o' → ∃ k o, ownq l k = some o ∧ k < M ∧ r k = j ∧ o' = renO r o
  | [], _, j, o', h => by simp [mapO, ownq] at h
  | (k, o) :: l, hl, j, o', h => by
    simp only [mapO, ownq] at h
    cases hb : Nat.beq (r k) j with
    | true =>
      simp only [hb, cond_true, Option.some.injEq] at h
      exact ⟨k, o, by simp [ownq], hl (k, o) (by simp), beq_true hb, h.symm⟩
    | false =>
      simp only [hb, cond_false] at h
      obtain ⟨k', o2, h1, h2, h3, h4⟩ := ownq_mapO hr (fun p hp => hl p (by simp [hp])) h
      refine ⟨k', o2, ?_, h2, h3, h4⟩
      have : Nat.beq k k' = false := by
        cases hk : Nat.beq k k' with
        | false => rfl
        | true =>
          rw [beq_true hk, h3] at hb
          simp at hb
      simp only [ownq, this, cond_false]
      exact h1
theorem ownq_mapO_none {r : Nat → Nat} : ∀ {l : List (Nat × SO)} {j : Nat}, ownq (mapO r l) j = none → ∀ k o, ownq l k = some o → r k ≠ j
  | [], _, _, k, o, h => by simp [ownq] at h
  | (i, x) :: l, j, hn, k, o, h => by
    simp only [mapO, ownq] at hn
    cases hb : Nat.beq (r i) j with
    | true => rw [hb] at hn; cases hn
    | false =>
      rw [hb, cond_false] at hn
      simp only [ownq] at h
      cases hk : Nat.beq i k with
      | true =>
        rw [← beq_true hk]
        exact beq_false hb
      | false =>
        rw [hk, cond_false] at h
        exact ownq_mapO_none hn k o h

/-- Names left out. -/
def outK {α : Type} : List Nat → List (Nat × SO) → (List (Nat × SO) → α) → α
  | [], own, c => c own
  | k :: l, own, c => lessK k own fun r => outK l r c
def outO : List Nat → List (Nat × SO) → List (Nat × SO)
  | [], own => own
  | k :: l, own => outO l (rm1 k own)
theorem outK_eq {α : Type} : ∀ (l : List Nat) (own : List (Nat × SO)) (c : List (Nat × SO) → α), outK l own c = c (outO l own)
  | [], _, _ => rfl
  | k :: l, own, c => by simp only [outK, outO, lessK_eq, outK_eq l]
theorem outO_spec : ∀ (l : List Nat) (own : List (Nat × SO)) (j : Nat) (o : SO), ownq (outO l own) j = some o → j ∉ l ∧ ownq own j = some o
  | [], _, _, _, h => ⟨by simp, h⟩
  | k :: l, own, j, o, h => by
    have h1 := outO_spec l (rm1 k own) j o h
    have h2 := rm1_less k own j o h1.2
    exact ⟨by simp [h1.1, h2.1], h2.2⟩

def nodB : List Nat → Bool
  | [] => true
  | x :: l => bif hasB x l then false else nodB l
  where
  hasB (x : Nat) : List Nat → Bool
  | [] => false
  | y :: l => bif Nat.beq x y then true else hasB x l
theorem hasB_spec {x : Nat} : ∀ {l : List Nat}, nodB.hasB x l = false → x ∉ l
  | [], _, h => by cases h
  | y :: l, h, hm => by
    simp only [nodB.hasB] at h
    cases hb : Nat.beq x y with
    | true => simp [hb] at h
    | false =>
      simp only [hb, cond_false] at h
      rcases List.mem_cons.1 hm with e | hm
      · exact beq_false hb e
      · exact hasB_spec h hm
theorem nodB_spec : ∀ {l : List Nat}, nodB l = true → l.Nodup
  | [], _ => List.nodup_nil
  | x :: l, h => by
    simp only [nodB] at h
    cases hb : nodB.hasB x l with
    | true => simp [hb] at h
    | false =>
      simp only [hb, cond_false] at h
      exact List.nodup_cons.2 ⟨hasB_spec hb, nodB_spec h⟩

def freshL (m0 : Nat) (env : List (Nat × SV)) (own : List (Nat × SO)) : List Nat → Bool
  | [] => true
  | k :: l => bif Nat.ble m0 k then (bif freshE k env then (bif freshO k own then freshL m0 env own l else false) else false) else false
theorem freshL_spec {m0 : Nat} {env : List (Nat × SV)} {own : List (Nat × SO)} : ∀ {l : List Nat}, freshL m0 env own l = true → ∀ k ∈ l, m0 ≤ k ∧ freshE k env = true ∧ freshO k own = true
  | [], _, k, hk => by cases hk
  | x :: l, h, k, hk => by
    simp only [freshL] at h
    cases h1 : Nat.ble m0 x with
    | false => simp [h1] at h
    | true =>
      cases h2 : freshE x env with
      | false => simp [h1, h2] at h
      | true =>
        cases h3 : freshO x own with
        | false => simp [h1, h2, h3] at h
        | true =>
          simp only [h1, h2, h3, cond_true] at h
          rcases List.mem_cons.1 hk with rfl | hk
          · exact ⟨Nat.le_of_ble_eq_true h1, h2, h3⟩
          · exact freshL_spec h k hk

def keysLt (pre : List (Nat × SO)) : Nat → Bool
  | 0 => true
  | n + 1 => (ownq pre n).isSome && keysLt pre n
theorem keysLt_spec {pre : List (Nat × SO)} : ∀ {m : Nat}, keysLt pre m = true → ∀ k, k < m → (ownq pre k).isSome = true
  | 0, _, k, hk => absurd hk (Nat.not_lt_zero k)
  | n + 1, h, k, hk => by
    simp only [keysLt, Bool.and_eq_true] at h
    rcases Nat.lt_or_ge k n with h' | h'
    · exact keysLt_spec h.2 k h'
    · rw [show k = n by omega]; exact h.1
def preLt (m : Nat) : List (Nat × SO) → Bool
  | [] => true
  | (k, _) :: l => bif Nat.blt k m then preLt m l else false
theorem preLt_spec {m : Nat} : ∀ {pre : List (Nat × SO)}, preLt m pre = true → ∀ k, (ownq pre k).isSome = true → k < m
  | [], _, k, hk => by simp [ownq] at hk
  | (i, x) :: l, h, k, hk => by
    simp only [preLt] at h
    cases h1 : Nat.blt i m with
    | false => simp [h1] at h
    | true =>
      simp only [h1, cond_true] at h
      simp only [ownq] at hk
      cases hb : Nat.beq i k with
      | true => rw [← beq_true hb]; exact Nat.blt_eq.mp h1
      | false =>
        rw [hb, cond_false] at hk
        exact preLt_spec h k hk

variable {E : Stc} {all rest : List Oper} {o : Oper} {s : List Fr} {env : List (Nat × SV)} {own own2 : List (Nat × SO)} {nx : List Nat}

/-- A call: l are the caller's names of the callee's names, first those that it is handed, then those of what it hands back. -/
theorem at_callG (l : List Nat) {m f : Nat} {pre : List (Nat × SO)} {args : List SV} {Post : SV → List (Nat × SO) → Prop} (hC : Contract E.P f m pre args Post) (hc : callK o.op env (fun f l => some (f, l)) none = some (f, rens (rl l) args))
    (hpre : pres (rl l) own pre) (ho : outK (l.take m) own some = some own2)
    (k : ∀ sv post, Post sv post → sv.lt l.length = true ∧ postLt l.length post = true ∧ Sat E (.ops all rest) s (put o.dst (ren (rl l) sv) env) (mapO (rl l) post ++ own2) nx)
    (hml : Nat.ble m l.length = true := by rfl) (hnd : nodB l = true := by rfl) (hfr : freshL E.cx.m0 env own2 (l.drop m) = true := by rfl) (hk1 : keysLt pre m = true := by rfl) (hk2 : preLt m pre = true := by rfl)
    (hg : guardK all o.guard env true false false = true := by rfl) (hd : dstLt o.dst E.n = true := by rfl) : Sat E (.ops all (o :: rest)) s env own nx := by
  intro a w hat
  have hwant := wanted_of (E := E) (own := own) hg a w hat
  rw [outK_eq] at ho
  simp only [Option.some.injEq] at ho
  subst ho
  have hml := Nat.le_of_ble_eq_true hml
  have hnd := nodB_spec hnd
  have hfr := freshL_spec hfr
  have hk1 := keysLt_spec hk1
  have hk2 := preLt_spec hk2
  have hrl : ∀ i (hi : i < l.length), rl l i = l[i] := fun i hi => by simp [rl, List.getD_eq_getElem?_getD, hi]
  have hinjr : ∀ i j, i < l.length → j < l.length → rl l i = rl l j → i = j := fun i j hi hj e => by
    rw [hrl i hi, hrl j hj] at e
    exact (List.getElem_inj hnd).1 e
  unfold wpList
  rw [if_pos hwant]
  refine .inl ?_
  obtain ⟨hdf, g, H, hdn⟩ := hat
  obtain ⟨vs, hv, hr⟩ := run_call (P := E.P) hdn hC.1 hc
  have hv' : Dens (fun k => g (rl l k)) H args vs := Dens.unren (g' := g) (r := rl l) (fun _ => rfl) args vs hv
  have hok : ∀ k o, ownq pre k = some o → OwnOk (fun _ => True) (fun k => g (rl l k)) H w k o := by
    intro k o hk
    have := hdn.ok (rl l k) _ (pres_spec hpre k o hk)
    cases o with
    | cells ty cs =>
      obtain ⟨b, ws, e, h1, h2, h3, h4, h5⟩ := this
      exact ⟨b, ws, e, Dens.unren (g' := g) (r := rl l) (fun _ => rfl) cs ws h1, h2, h3, h4, trivial⟩
    | tok sz =>
      obtain ⟨ad, q, c, e, h1, hle, h2⟩ := this
      refine ⟨ad, q, c, e, h1, hle, fun p hpa hlt => ?_⟩
      obtain ⟨h3, _, h5⟩ := h2 p hpa hlt
      exact ⟨h3, trivial, h5⟩
    | obj q =>
      obtain ⟨r, o, e, h1, h2, h3, _⟩ := this
      exact ⟨r, o, e, h1, h2, h3, trivial⟩
    | buf rw nn =>
      rcases this with ⟨ty, b, ws, e, h1, h2, h3, h4, h5⟩ | ⟨e, h1⟩
      · exact .inl ⟨ty, b, ws, e, Dens.plain g _ H rw nn ws h1, h2, h3, h4, trivial⟩
      · exact .inr ⟨e, h1⟩
  have hsome : ∀ i, (ownq pre i).isSome = true → (ownq own (rl l i)).isSome = true := fun i hi => by
    cases ho : ownq pre i with
    | none => rw [ho] at hi; cases hi
    | some x => rw [pres_spec hpre i x ho]; rfl
  have hinj' : InjOn (fun k => g (rl l k)) pre := by
    intro i j hi hj b hbi hbj
    have h1 := hk2 i hi
    have h2 := hk2 j hj
    exact hinjr i j (by omega) (by omega) (hdn.inj (rl l i) (rl l j) (hsome i hi) (hsome j hj) b hbi hbj)
  have hcall := hC.2 (fun k => g (rl l k)) H w vs hdn.hp hok hinj' hv'
  unfold Oper.wp
  rw [hr]
  refine hcall.mono fun e w' he => ?_
  cases e with
  | panicked c => exact he.elim
  | outgrown => exact he.elim
  | returned x =>
    obtain ⟨g', H', sv, post, hP, hx, hok', hinjp, hon, hb⟩ := he
    obtain ⟨hlt, hpl, hS⟩ := k sv post hP
    have hpl := postLt_spec hpl
    have hout := outO_spec (l.take m) own
    have htake : ∀ i, i < m → rl l i ∈ l.take m := fun i hi => by
      rw [hrl i (by omega)]
      exact List.mem_take_iff_getElem.2 ⟨i, by omega, rfl⟩
    obtain ⟨hd2, hother⟩ := hdn.left (r := rl l) (own2 := outO (l.take m) own) hpre hb hon (fun j o hj => ⟨(hout j o hj).2, fun i hi e => (hout j o hj).1 (by rw [e]; exact htake i (hk2 i hi))⟩)
    -- the new names
    let ps : List (Nat × Value) := (List.range' m (l.length - m)).map fun i => (rl l i, g' i)
    have hps : ∀ p ∈ ps, ∃ i, m ≤ i ∧ i < l.length ∧ p = (rl l i, g' i) := fun p hp => by
      obtain ⟨i, hi, rfl⟩ := List.mem_map.1 hp
      rw [List.mem_range'_1] at hi
      exact ⟨i, hi.1, by omega, rfl⟩
    have hpd : ∀ p ∈ ps, p.1 ∈ l.drop m := fun p hp => by
      obtain ⟨i, h1, h2, rfl⟩ := hps p hp
      rw [hrl i h2]
      exact List.mem_drop_iff_getElem.2 ⟨i - m, by omega, by simp [show m + (i - m) = i by omega]⟩
    have hpsn : (ps.map (·.1)).Nodup := by
      rw [List.map_map]
      have key : ∀ q : List Nat, q.Nodup → (∀ i ∈ q, i < l.length) → (q.map ((fun p : Nat × Value => p.1) ∘ fun i => (rl l i, g' i))).Nodup := by
        intro q
        induction q with
        | nil => intro _ _; exact List.nodup_nil
        | cons i q ih =>
          intro h1 h2
          rw [List.nodup_cons] at h1
          rw [List.map_cons, List.nodup_cons]
          refine ⟨fun hm => ?_, ih h1.2 fun i hi => h2 i (by simp [hi])⟩
          obtain ⟨j, hj, e⟩ := List.mem_map.1 hm
          have := hinjr j i (h2 j (by simp [hj])) (h2 i (by simp)) e
          exact h1.1 (this ▸ hj)
      exact key _ (List.nodup_range' ..) fun i hi => by rw [List.mem_range'_1] at hi; omega
    have hgk : ∀ i, i < l.length → updl g ps (rl l i) = g' i := fun i hi => by
      rcases Nat.lt_or_ge i m with h | h
      · rw [updl_ne, hb.fix i h]
        intro p hp e
        obtain ⟨j, h1, h2, rfl⟩ := hps p hp
        have := hinjr j i h2 hi e
        omega
      · have hidx : ps[i - m]? = some (rl l i, g' i) := by
          simp only [ps, List.getElem?_map]
          rw [List.getElem?_range' (by omega)]
          simp [show m + (i - m) = i by omega]
        exact updl_at g ps (i - m) (rl l i, g' i) hidx hpsn
    have hold : ∀ j, (∀ q ∈ l.drop m, q ≠ j) → updl g ps j = g j := fun j hj => updl_ne g ps j fun p hp e => hj p.1 (hpd p hp) e
    have hren : ∀ i, i < l.length → updl g ps (rl l i) = g' i := hgk
    have hfix : ∀ j, j < E.cx.m0 → updl g ps j = g j := fun j hj => hold j fun q hq e => by have := (hfr q hq).1; omega
    have hpost : ∀ k o, ownq post k = some o → OwnOk E.cx.mine (updl g ps) H' w' (rl l k) (renO (rl l) o) := by
      intro k o hk
      have hkl := hpl (k, o) (ownq_mem' hk)
      have h0 := hok' k o hk
      have hge := hgk k hkl.1
      cases o with
      | cells ty cs =>
        obtain ⟨b, ws, e, q1, q2, q3, q4, q5⟩ := h0
        exact ⟨b, ws, by rw [hge]; exact e, Dens.ren (g := g') (g' := updl g ps) (r := rl l) (m := l.length) hren cs ws hkl.2 q1, q2, q3, q4, (hother b q5).1⟩
      | tok sz =>
        obtain ⟨ad, q, c, e, q1, hle, q2⟩ := h0
        refine ⟨ad, q, c, by rw [hge]; exact e, q1, hle, fun p hpa hlt => ?_⟩
        obtain ⟨q3, q4, q5⟩ := q2 p hpa hlt
        exact ⟨q3, (hother _ q4).1, q5⟩
      | obj q =>
        obtain ⟨r, o, e, q1, q2, q3, q4⟩ := h0
        exact ⟨r, o, by rw [hge]; exact e, q1, q2, q3, (hother r q4).1⟩
      | buf rw nn =>
        rcases h0 with ⟨ty, b, ws, e, q1, q2, q3, q4, q5⟩ | ⟨e, q1⟩
        · exact .inl ⟨ty, b, ws, by rw [hge]; exact e, Dens.plain g' _ H' rw nn ws q1, q2, q3, q4, (hother b q5).1⟩
        · exact .inr ⟨by rw [hge]; exact e, q1⟩
    have hown2 : ∀ j o, ownq (outO (l.take m) own) j = some o → (∀ q ∈ l.drop m, j ≠ q ∧ o.noK q) := fun j o hj q hq => freshO_own (hfr q hq).2.2 hj
    have hd3 : Dn E.cx (updl g ps) H' env (mapO (rl l) post ++ outO (l.take m) own) E.n a.tmps w' := by
      refine { size := hd2.size, den := fun t => Den.updl ps (fun p hp => freshE_nth t (hfr p.1 (hpd p hp)).2.1) (hd2.den t), ok := fun j o hj => ?_, inj := fun i j hi hj b hbi hbj => ?_, hp := hd2.hp, base := { hd2.base with fix := fun j hj => by rw [hfix j hj]; exact hd2.base.fix j hj } }
      · rw [ownq_append] at hj
        cases hq : ownq (mapO (rl l) post) j with
        | some o' =>
          rw [hq] at hj
          simp only [Option.some_or, Option.some.injEq] at hj
          subst hj
          obtain ⟨k, o2, q1, _, rfl, rfl⟩ := ownq_mapO hinjr (fun p hp => (hpl p hp).1) hq
          exact hpost k o2 q1
        | none =>
          rw [hq, Option.none_or] at hj
          exact (hd2.ok j o hj).updl ps fun p hp => hown2 j o hj p.1 (hpd p hp)
      · have cls : ∀ j b, (ownq (mapO (rl l) post ++ outO (l.take m) own) j).isSome = true → blkOf (updl g ps j) = some b →
            (∃ k o, ownq post k = some o ∧ rl l k = j ∧ blkOf (g' k) = some b ∧ (w.heap.size ≤ b ∨ preX (fun k => g (rl l k)) pre b)) ∨ (∃ o, ownq (outO (l.take m) own) j = some o ∧ blkOf (g j) = some b) := by
          intro j b hj hbj
          rw [ownq_append] at hj
          cases hq : ownq (mapO (rl l) post) j with
          | some o' =>
            obtain ⟨k, o2, q1, q2, rfl, rfl⟩ := ownq_mapO hinjr (fun p hp => (hpl p hp).1) hq
            rw [hgk k q2] at hbj
            exact .inl ⟨k, o2, q1, rfl, hbj, (hok' k o2 q1).blk_mine hbj⟩
          | none =>
            rw [hq, Option.none_or] at hj
            cases ho : ownq (outO (l.take m) own) j with
            | none => rw [ho] at hj; cases hj
            | some o => exact .inr ⟨o, rfl, by rw [← hold j fun q hq e => (hown2 j o ho q hq).1 e.symm]; exact hbj⟩
        rcases cls i b hi hbi with ⟨k, o1, p1, rfl, p2, p3⟩ | ⟨o1, p1, p2⟩ <;> rcases cls j b hj hbj with ⟨k', o2, q1, rfl, q2, q3⟩ | ⟨o2, q1, q2⟩
        · rw [hinjp k k' (by rw [p1]; rfl) (by rw [q1]; rfl) b p2 q2]
        · exact absurd q2 ((hother b p3).2 j o2 q1)
        · exact absurd p2 ((hother b q3).2 i o1 p1)
        · exact hd2.inj i j (by rw [p1]; rfl) (by rw [q1]; rfl) b p2 q2
    exact hS _ _ (At.put hdf hd3 (Den.ren (g := g') (g' := updl g ps) (r := rl l) (m := l.length) hren sv x hlt hx) fun d e => by rw [e] at hd; exact Nat.blt_eq.mp hd)

/-- The same, where the answer is told. -/
theorem at_callF (l : List Nat) {m f : Nat} {pre q q' : List (Nat × SO)} {args : List SV} {sv : SV} (hC : Contract E.P f m pre args fun s post => s = sv ∧ post = q) (hc : callK o.op env (fun f l => some (f, l)) none = some (f, rens (rl l) args))
    (hpre : pres (rl l) own pre) (ho : outK (l.take m) own some = some own2) (hq : mapO (rl l) q = q') (hpl : postLt l.length q = true)
    (k : Sat E (.ops all rest) s (put o.dst (ren (rl l) sv) env) (q' ++ own2) nx) (hlt : sv.lt l.length = true := by rfl)
    (hml : Nat.ble m l.length = true := by rfl) (hnd : nodB l = true := by rfl) (hfr : freshL E.cx.m0 env own2 (l.drop m) = true := by rfl) (hk1 : keysLt pre m = true := by rfl) (hk2 : preLt m pre = true := by rfl)
    (hg : guardK all o.guard env true false false = true := by rfl) (hd : dstLt o.dst E.n = true := by rfl) : Sat E (.ops all (o :: rest)) s env own nx :=
  at_callG l hC hc hpre ho (fun sv' post hP => by
    obtain ⟨rfl, rfl⟩ := hP
    rw [hq]
    exact ⟨hlt, hpl, k⟩) hml hnd hfr hk1 hk2 hg hd

theorem flat_drop {sz : Nat} : ∀ {rows : List (List DV)} (i : Nat) (q : List SV), (∀ r ∈ rows, r.length = sz) → i ≤ rows.length → (flatU rows ++ q).drop (i * sz) = flatU (rows.drop i) ++ q
  | rows, 0, q, _, _ => by simp
  | [], i + 1, q, _, h => by simp at h
  | r :: rows, i + 1, q, hr, h => by
    have h1 : r.length = sz := hr r (by simp)
    have ih := flat_drop (rows := rows) i q (fun x hx => hr x (by simp [hx])) (by simpa using h)
    have e : flatU (r :: rows) = r.map up ++ flatU rows := by simp [flatU]
    rw [e, Nat.add_mul, Nat.one_mul, List.append_assoc, show i * sz + sz = (r.map up).length + i * sz by rw [List.length_map, h1]; omega, List.drop_append, Nat.add_sub_cancel_left, ih, List.drop_eq_nil_of_le (by omega)]
    rfl
theorem flat_get {sz i : Nat} {rows : List (List DV)} {r : List DV} (q : List SV) (hr : ∀ r ∈ rows, r.length = sz) (hi : rows[i]? = some r) : ((flatU rows ++ q).drop (i * sz)).take sz = r.map up := by
  have hlt := (List.getElem?_eq_some_iff.1 hi).1
  rw [flat_drop i q hr (by omega), List.drop_eq_getElem_cons hlt]
  have e : rows[i] = r := (List.getElem?_eq_some_iff.1 hi).2
  rw [e]
  have h1 : (r.map up).length = sz := by rw [List.length_map]; exact hr r (List.mem_of_getElem? hi)
  have e2 : flatU (r :: rows.drop (i + 1)) = r.map up ++ flatU (rows.drop (i + 1)) := by simp [flatU]
  rw [e2, List.append_assoc, ← h1, List.take_left']
  rfl

/-- A row of an owned slice is read. -/
theorem does_loadB {P : Program} {T : Nat → TI} (hT : ∀ t, T t = tiOf P t) {o : Oper} {t k off sz i : Nat} {x : Operand} {rows : List (List DV)} {n : Nat} {row : List DV} (ho : o.op = .load t x) (hx : ev env x = .ptr k off) (hk : ownq own k = some (.buf rows n)) (hs : (T t).kd = .struct) (hsz : (T t).size = sz) (hoff : off = i * sz) (hr : ∀ r ∈ rows, r.length = sz) (hi : rows[i]? = some row) :
    DoesV P o env own (.agg (row.map up)) := by
  subst hoff
  have h1 := flat_get (anys n) hr hi
  have h2 : sz ≤ ((bufC rows n).drop (i * sz)).length := by
    have := congrArg List.length h1
    rw [List.length_take, List.length_map, hr row (List.mem_of_getElem? hi)] at this
    rw [bufC]
    omega
  rw [hT t] at hs hsz
  rw [← hsz] at h1 h2
  have e : row.map up = ((bufC rows n).drop (i * (tiOf P t).size)).take (tiOf P t).size := h1.symm
  rw [e]
  refine does_load_buf (by rw [hx]) hk fun own' ty hk' => ?_
  rw [← hsz] at hx
  exact does_load_own ho hx hk' hs h2
/-- A plain cell of one. -/
theorem does_loadB1 {P : Program} {T : Nat → TI} (hT : ∀ t, T t = tiOf P t) {o : Oper} {t k off sz i j : Nat} {x : Operand} {rows : List (List DV)} {n : Nat} {row : List DV} {d : DV} (ho : o.op = .load t x) (hx : ev env x = .ptr k off) (hk : ownq own k = some (.buf rows n)) (hs : (T t).kd ≠ .struct) (hs' : (T t).kd ≠ .other) (hoff : off = i * sz + j) (hr : ∀ r ∈ rows, r.length = sz) (hi : rows[i]? = some row) (hj : row[j]? = some d) :
    DoesV P o env own (up d) := by
  subst hoff
  have h1 := flat_get (anys n) hr hi
  have hjl := (List.getElem?_eq_some_iff.1 hj).1
  have h2 : (bufC rows n)[i * sz + j]? = some (up d) := by
    have h3 := congrArg (fun l => l[j]?) h1
    simp only [List.getElem?_map, hj, Option.map_some] at h3
    rw [List.getElem?_take, if_pos (by rw [hr row (List.mem_of_getElem? hi)] at hjl; exact hjl), List.getElem?_drop] at h3
    exact h3
  rw [hT t] at hs hs'
  exact does_load_buf hx hk fun own' ty hk' => does_load_own1 ho hx hk' hs hs' h2

theorem flatU_cons (r : List DV) (l : List (List DV)) : flatU (r :: l) = r.map up ++ flatU l := by simp [flatU]
theorem splice_row {sz i n : Nat} {rows : List (List DV)} {r : List DV} (hr : ∀ r ∈ rows, r.length = sz) (hi : i < rows.length) (h : r.length = sz) : splice (r.map up) (i * sz) (bufC rows n) = bufC (rows.set i r) n := by
  have e1 : rows = rows.take i ++ rows[i] :: rows.drop (i + 1) := by rw [← List.drop_eq_getElem_cons hi, List.take_append_drop]
  have h1 : (flatU (rows.take i)).length = i * sz := by
    rw [flatU_len fun q hq => hr q (List.mem_of_mem_take hq), List.length_take, Nat.min_eq_left (by omega)]
  have h2 : (rows[i].map up).length = sz := by rw [List.length_map]; exact hr _ (List.getElem_mem hi)
  have e2 : bufC rows n = flatU (rows.take i) ++ (rows[i].map up ++ (flatU (rows.drop (i + 1)) ++ anys n)) := by
    have e4 := congrArg flatU e1
    rw [flatU_app] at e4
    have e5 := flatU_cons rows[i] (rows.drop (i + 1))
    rw [bufC, e4, e5, List.append_assoc, List.append_assoc]
  have e3 : bufC (rows.set i r) n = flatU (rows.take i) ++ (r.map up ++ (flatU (rows.drop (i + 1)) ++ anys n)) := by
    rw [bufC, List.set_eq_take_append_cons_drop, if_pos hi, flatU_app, List.append_assoc]
    have e5 := flatU_cons r (rows.drop (i + 1))
    rw [e5, List.append_assoc]
  rw [e2, e3]
  unfold splice
  rw [← h1, List.take_left, List.length_map, h, ← h2, List.append_assoc]
  congr 1
  congr 1
  rw [List.drop_append, Nat.add_sub_cancel_left, List.drop_eq_nil_of_le (by omega), List.nil_append, List.drop_left]

/-- A row of an owned slice is written. -/
theorem doesWS_row {P : Program} {T : Nat → TI} (hT : ∀ t, T t = tiOf P t) {o : Oper} {t k off sz i n : Nat} {x y : Operand} {rows : List (List DV)} (row : List DV) (ho : o.op = .store t x y) (hx : ev env x = .ptr k off) (hy : cellsOf (ev env y) = some (row.map up)) (hs : (T t).kd ≠ .other) (hsz : (T t).size = sz) (hoff : off = i * sz)
    (hr : ∀ r ∈ rows, r.length = sz) (hi : i < rows.length) (hl : row.length = sz) : DoesWS P o env own k (.buf rows n) (.buf (rows.set i row) n) := by
  subst hoff
  rw [hT t] at hs hsz
  refine doesWS_buf hx fun ty => ?_
  rw [← splice_row hr hi hl]
  refine doesW_store ho hx hy hs (by rw [List.length_map, hl, hsz]) ?_
  rw [List.length_map, hl, bufC, List.length_append, flatU_len hr]
  have : (i + 1) * sz ≤ rows.length * sz := Nat.mul_le_mul_right _ hi
  rw [Nat.add_mul, Nat.one_mul] at this
  omega

/-- The same, in the text's order. -/
theorem at_storeB {T : Nat → TI} (hT : ∀ t, T t = tiOf E.P t) {t k off sz i n : Nat} {x y : Operand} {rows : List (List DV)} (row : List DV) (ho : o.op = .store t x y) (hdst : o.dst = none) (hx : ev env x = .ptr k off) (hk : ownq own k = some (.buf rows n)) (hy : cellsOf (ev env y) = some (row.map up)) (hs : (T t).kd ≠ .other) (hsz : (T t).size = sz) (hoff : off = i * sz)
    (hr : ∀ r ∈ rows, r.length = sz) (hi : i < rows.length) (hl : row.length = sz) (hso : setOwnK k (.buf (rows.set i row) n) own some = some own2) (kk : Sat E (.ops all rest) s env own2 nx)
    (hg : guardK all o.guard env true false false = true := by rfl) : Sat E (.ops all (o :: rest)) s env own nx := by
  intro a w hat
  have hwant := wanted_of (E := E) (own := own) hg a w hat
  rw [setOwnK_eq] at hso
  simp only [Option.some.injEq] at hso
  subst hso
  unfold wpList
  rw [if_pos hwant]
  refine .inl ?_
  obtain ⟨hdf, g, H, hdn⟩ := hat
  obtain ⟨w', h1, h2⟩ := doesWS_row (own := own) hT row ho hx hy hs hsz hoff hr hi hl E.cx g H E.n own env a w hdn hdn hk
  unfold Oper.wp
  rw [h1]
  show wpList E.P all.toArray (KK E s) rest (a.put o.dst undef) w'
  rw [hdst]
  exact kk _ _ ⟨hdf, g, H, h2⟩
end Go.Eng
namespace Go.Proofs.Ytmnmhehddbemkaa
open Go Go.Eng

abbrev rsO (L out : List Tm) (c r : Nat) : List (Nat × SO) := [(0, .cells 73 [.lst 4 (rowsT L), .sl 1 0 out.length c]), (1, .buf (rowsT out) r)]
abbrev zSV : SV := .agg [I 0, I 0, .str .empty, .tl 0 []]
theorem at_no_fn (L out : List Tm) (c r : Nat) (n : Int) (h : inF n out.length = false) : Contract Try.prog 86 2 (rsO L out c r) [.ptr 0 0, I n] fun s post => s = .tup [zSV, .ff] ∧ post = rsO L out c r := by
  refine contract_of ty_ok [3, 4, 5, 6, 7] Try.func86 rfl (by decide) Try.ntmps86 rfl fun z => ?_
  refine run 400 rfl ?_
  refine at_split 8 rfl (fun q => ?_) (fun q => ?_)
  · refine run 400 rfl ?_
    exact at_ret rfl rfl (rsO L out c r) ⟨rfl, rfl⟩ ⟨rfl, rfl, trivial⟩
  · refine run 400 rfl ?_
    refine at_ifd rfl (fun q2 => ?_) (fun q2 => ?_)
    · refine run 400 rfl ?_
      exact at_ret rfl rfl (rsO L out c r) ⟨rfl, rfl⟩ ⟨rfl, rfl, trivial⟩
    · exfalso
      simp [inF] at h q
      omega
theorem at_yes_fn (L out : List Tm) (c r : Nat) (n : Int) (h : inF n out.length = true) : Contract Try.prog 86 2 (rsO L out c r) [.ptr 0 0, I n] fun s post => s = .tup [(out.getD n.toNat .zero).sv, .tt] ∧ post = rsO L out c r := by
  have hn := inF_lt h
  have hget := rowsT_get (l := out) (n := n.toNat) (by omega)
  generalize out.getD n.toNat .zero = u at hget
  refine contract_of ty_ok [3, 4, 5, 6, 7] Try.func86 rfl (by decide) Try.ntmps86 rfl fun z => ?_
  refine run 400 rfl ?_
  refine at_false 8 rfl (by simp; omega) ?_
  refine run 400 rfl ?_
  refine at_ifd rfl (fun q2 => ?_) (fun q2 => ?_)
  · omega
  · refine run 400 rfl ?_
    refine at_val (.ptr 1 (0 + n.toNat * 4)) (does_indexS ty_ok rfl rfl rfl hn rfl) ?_
    refine at_val u.sv (does_loadB ty_ok rfl rfl rfl rfl rfl (Nat.zero_add _) rowsT_sz hget) ?_
    refine run 400 rfl ?_
    exact at_ret rfl rfl (rsO L out c r) ⟨rfl, rfl⟩ ⟨rfl, rfl, trivial⟩

/-- One move, by the document, ahead of the question whether the result may be. -/
def oneF (l res : List Tm) (m : Mv) : Option Tm × Int :=
  match readF m with
  | none => (none, 2)
  | some s => if nearF s res.length l.length then (match stepT l res s with
    | some t => (some t, 0)
    | none => (none, 3)) else (none, 8)
abbrev oneS (r : Option Tm × Int) : SV := match r with
  | (some t, e) => .tup [t.sv, I e]
  | (none, e) => .tup [zSV, I e]
end Go.Proofs.Ytmnmhehddbemkaa
namespace Go.Proofs.Ytmnmhehddbemkaa
open Go Go.Eng
set_option maxRecDepth 100000

theorem one_bad (l res : List Tm) (c r : Nat) (m : Mv) (h : m.k < 1 ∨ 10 < m.k) : Contract Try.prog 60 2 (rsO l res c r) [.ptr 0 0, m.sv] fun s post => s = .tup [zSV, I 2] ∧ post = rsO l res c r := by
  refine contract_of ty_ok [3, 4, 5, 6, 7] Try.func60 rfl (by decide) Try.ntmps60 rfl fun z => ?_
  refine run 400 rfl ?_
  refine at_split 15 rfl (fun q => ?_) (fun q => ?_)
  · refine run 400 rfl ?_
    exact at_ret rfl rfl (rsO l res c r) ⟨rfl, rfl⟩ ⟨rfl, rfl, trivial⟩
  · refine run 400 rfl ?_
    refine at_ifd rfl (fun q2 => ?_) (fun q2 => ?_)
    · refine run 400 rfl ?_
      exact at_ret rfl rfl (rsO l res c r) ⟨rfl, rfl⟩ ⟨rfl, rfl, trivial⟩
    · exfalso
      simp at q
      omega
theorem one_known (l res : List Tm) (c r : Nat) (m : Mv) (hk : m.k = 1) (h : inF m.a l.length = true) : Contract Try.prog 60 2 (rsO l res c r) [.ptr 0 0, m.sv] fun s post => s = .tup [(l.getD m.a.toNat .zero).sv, I 0] ∧ post = rsO l res c r := by
  have hl := rowsT_len l
  have hn := inF_lt h
  have hget := rowsT_get (l := l) (n := m.a.toNat) (by omega)
  generalize l.getD m.a.toNat .zero = u at hget
  refine contract_of ty_ok [3, 4, 5, 6, 7] Try.func60 rfl (by decide) Try.ntmps60 rfl fun z => ?_
  refine run 400 rfl ?_
  refine at_false 15 rfl (by rw [hk]; rfl) ?_
  refine run 400 rfl ?_
  refine at_ifd rfl (fun q2 => by omega) (fun _ => ?_)
  refine run 400 rfl ?_
  refine at_drawn 19 rfl rfl [(2, .yes), (6, .no)] [20, 21, 22] rfl ⟨by simp; omega, by rw [hk]; rfl⟩ ?_
  refine run 400 rfl ?_
  refine at_ifd rfl (fun q2 => by omega) (fun _ => ?_)
  refine run 400 rfl ?_
  refine at_if rfl (fun _ => ?_) (fun q2 => by rw [hk] at q2; cases q2)
  refine run 400 rfl ?_
  refine at_drawn 8 rfl rfl [(6, .val (.rp (tr u) 0))] [20, 21, 22] rfl (by exact does_index ty_ok _ rfl rfl rfl (by omega) (show (rowsT l)[m.a.toNat]? = some (tr u) from hget) rfl) ?_
  refine run 400 rfl ?_
  exact at_ret rfl rfl (rsO l res c r) ⟨rfl, rfl⟩ ⟨rfl, rfl, trivial⟩
theorem one_known_no (l res : List Tm) (c r : Nat) (m : Mv) (hk : m.k = 1) (h : inF m.a l.length = false) : Contract Try.prog 60 2 (rsO l res c r) [.ptr 0 0, m.sv] fun s post => s = .tup [zSV, I 8] ∧ post = rsO l res c r := by
  have hl := rowsT_len l
  have hn : m.a < 0 ∨ (l.length : Int) ≤ m.a := by
    simp [inF] at h
    omega
  by_cases h0 : m.a < 0
  · refine contract_of ty_ok [3, 4, 5, 6, 7] Try.func60 rfl (by decide) Try.ntmps60 rfl fun z => ?_
    refine run 400 rfl ?_
    refine at_false 15 rfl (by rw [hk]; rfl) ?_
    refine run 400 rfl ?_
    refine at_ifd rfl (fun q2 => by omega) (fun _ => ?_)
    refine run 400 rfl ?_
    refine at_drawn 19 rfl rfl [(2, .yes), (6, .yes)] [20, 21, 22] rfl ⟨by simp; omega, by rw [hk]; rfl⟩ ?_
    refine run 400 rfl ?_
    exact at_ret rfl rfl (rsO l res c r) ⟨rfl, rfl⟩ ⟨rfl, rfl, trivial⟩
  · refine contract_of ty_ok [3, 4, 5, 6, 7] Try.func60 rfl (by decide) Try.ntmps60 rfl fun z => ?_
    refine run 400 rfl ?_
    refine at_false 15 rfl (by rw [hk]; rfl) ?_
    refine run 400 rfl ?_
    refine at_ifd rfl (fun q2 => by omega) (fun _ => ?_)
    refine run 400 rfl ?_
    refine at_drawn 19 rfl rfl [(2, .yes), (6, .no)] [20, 21, 22] rfl ⟨by simp; omega, by rw [hk]; rfl⟩ ?_
    refine run 400 rfl ?_
    refine at_ifd rfl (fun q2 => ?_) (fun _ => by omega)
    refine run 400 rfl ?_
    exact at_ret rfl rfl (rsO l res c r) ⟨rfl, rfl⟩ ⟨rfl, rfl, trivial⟩
theorem one_atom (l res : List Tm) (c r : Nat) (m : Mv) (hk : m.k = 2) : Contract Try.prog 60 2 (rsO l res c r) [.ptr 0 0, m.sv] fun s post => s = .tup [(Tm.mk 1 0 m.s []).sv, I 0] ∧ post = rsO l res c r := by
  refine contract_of ty_ok [3, 4, 5, 6, 7] Try.func60 rfl (by decide) Try.ntmps60 rfl fun z => ?_
  refine run 400 rfl ?_
  refine at_false 15 rfl (by rw [hk]; rfl) ?_
  refine run 400 rfl ?_
  refine at_ifd rfl (fun q2 => by omega) (fun _ => ?_)
  refine run 400 rfl ?_
  refine at_drawn 19 rfl rfl [(2, .no)] [20, 21, 22] rfl (by rw [hk]; rfl) ?_
  refine run 400 rfl ?_
  refine at_if rfl (fun q2 => by rw [hk] at q2; cases q2) (fun _ => ?_)
  refine run 400 rfl ?_
  refine at_if rfl (fun _ => ?_) (fun q2 => by rw [hk] at q2; cases q2)
  refine run 400 rfl ?_
  refine at_fn (A_fn m.s) rfl ?_
  refine run 400 rfl ?_
  exact at_ret rfl rfl (rsO l res c r) ⟨rfl, rfl⟩ ⟨rfl, rfl, trivial⟩
theorem one_left_no (l res : List Tm) (c r : Nat) (m : Mv) (hk : m.k = 3) (h : inF m.a res.length = false) : Contract Try.prog 60 2 (rsO l res c r) [.ptr 0 0, m.sv] fun s post => s = .tup [zSV, I 8] ∧ post = rsO l res c r := by
  have ha := at_no_fn l res c r m.a h
  by_cases hb : inF m.b res.length = true
  · refine contract_of ty_ok [3, 4, 5, 6, 7] Try.func60 rfl (by decide) Try.ntmps60 rfl fun z => ?_
    refine run 400 rfl ?_
    refine at_false 15 rfl (by rw [hk]; rfl) ?_
    refine run 400 rfl ?_
    refine at_ifd rfl (fun q2 => by omega) (fun _ => ?_)
    refine run 400 rfl ?_
    refine at_drawn 19 rfl rfl [(2, .no)] [20, 21, 22] rfl (by rw [hk]; rfl) ?_
    refine run 400 rfl ?_
    refine at_if rfl (fun q2 => by rw [hk] at q2; cases q2) (fun _ => ?_)
    refine run 400 rfl ?_
    refine at_if rfl (fun q2 => by rw [hk] at q2; cases q2) (fun _ => ?_)
    refine run 400 rfl ?_
    refine at_callF [0, 1] (ha) rfl ⟨rfl, rfl, trivial⟩ rfl rfl rfl ?_
    refine run 400 rfl ?_
    refine at_callF [0, 1] (at_yes_fn l res c r m.b hb) rfl ⟨rfl, rfl, trivial⟩ rfl rfl rfl ?_
    refine run 400 rfl ?_
    refine at_false 77 rfl (by rw [hk]; rfl) ?_
    refine run 400 rfl ?_
    refine at_false 82 rfl (by rw [hk]; rfl) ?_
    refine run 400 rfl ?_
    refine at_false 10 rfl (by rw [hk]; rfl) ?_
    refine run 400 rfl ?_
    exact at_ret rfl rfl (rsO l res c r) ⟨rfl, rfl⟩ ⟨rfl, rfl, trivial⟩
  · refine contract_of ty_ok [3, 4, 5, 6, 7] Try.func60 rfl (by decide) Try.ntmps60 rfl fun z => ?_
    refine run 400 rfl ?_
    refine at_false 15 rfl (by rw [hk]; rfl) ?_
    refine run 400 rfl ?_
    refine at_ifd rfl (fun q2 => by omega) (fun _ => ?_)
    refine run 400 rfl ?_
    refine at_drawn 19 rfl rfl [(2, .no)] [20, 21, 22] rfl (by rw [hk]; rfl) ?_
    refine run 400 rfl ?_
    refine at_if rfl (fun q2 => by rw [hk] at q2; cases q2) (fun _ => ?_)
    refine run 400 rfl ?_
    refine at_if rfl (fun q2 => by rw [hk] at q2; cases q2) (fun _ => ?_)
    refine run 400 rfl ?_
    refine at_callF [0, 1] (ha) rfl ⟨rfl, rfl, trivial⟩ rfl rfl rfl ?_
    refine run 400 rfl ?_
    refine at_callF [0, 1] (at_no_fn l res c r m.b (by simpa using hb)) rfl ⟨rfl, rfl, trivial⟩ rfl rfl rfl ?_
    refine run 400 rfl ?_
    refine at_false 77 rfl (by rw [hk]; rfl) ?_
    refine run 400 rfl ?_
    refine at_false 82 rfl (by rw [hk]; rfl) ?_
    refine run 400 rfl ?_
    refine at_false 10 rfl (by rw [hk]; rfl) ?_
    refine run 400 rfl ?_
    exact at_ret rfl rfl (rsO l res c r) ⟨rfl, rfl⟩ ⟨rfl, rfl, trivial⟩
theorem one_right_no (l res : List Tm) (c r : Nat) (m : Mv) (hk : m.k = 4) (h : inF m.a res.length = false) : Contract Try.prog 60 2 (rsO l res c r) [.ptr 0 0, m.sv] fun s post => s = .tup [zSV, I 8] ∧ post = rsO l res c r := by
  have ha := at_no_fn l res c r m.a h
  by_cases hb : inF m.b res.length = true
  · refine contract_of ty_ok [3, 4, 5, 6, 7] Try.func60 rfl (by decide) Try.ntmps60 rfl fun z => ?_
    refine run 400 rfl ?_
    refine at_false 15 rfl (by rw [hk]; rfl) ?_
    refine run 400 rfl ?_
    refine at_ifd rfl (fun q2 => by omega) (fun _ => ?_)
    refine run 400 rfl ?_
    refine at_drawn 19 rfl rfl [(2, .no)] [20, 21, 22] rfl (by rw [hk]; rfl) ?_
    refine run 400 rfl ?_
    refine at_if rfl (fun q2 => by rw [hk] at q2; cases q2) (fun _ => ?_)
    refine run 400 rfl ?_
    refine at_if rfl (fun q2 => by rw [hk] at q2; cases q2) (fun _ => ?_)
    refine run 400 rfl ?_
    refine at_callF [0, 1] (ha) rfl ⟨rfl, rfl, trivial⟩ rfl rfl rfl ?_
    refine run 400 rfl ?_
    refine at_callF [0, 1] (at_yes_fn l res c r m.b hb) rfl ⟨rfl, rfl, trivial⟩ rfl rfl rfl ?_
    refine run 400 rfl ?_
    refine at_false 77 rfl (by rw [hk]; rfl) ?_
    refine run 400 rfl ?_
    refine at_false 82 rfl (by rw [hk]; rfl) ?_
    refine run 400 rfl ?_
    refine at_false 10 rfl (by rw [hk]; rfl) ?_
    refine run 400 rfl ?_
    exact at_ret rfl rfl (rsO l res c r) ⟨rfl, rfl⟩ ⟨rfl, rfl, trivial⟩
  · refine contract_of ty_ok [3, 4, 5, 6, 7] Try.func60 rfl (by decide) Try.ntmps60 rfl fun z => ?_
    refine run 400 rfl ?_
    refine at_false 15 rfl (by rw [hk]; rfl) ?_
    refine run 400 rfl ?_
    refine at_ifd rfl (fun q2 => by omega) (fun _ => ?_)
    refine run 400 rfl ?_
    refine at_drawn 19 rfl rfl [(2, .no)] [20, 21, 22] rfl (by rw [hk]; rfl) ?_
    refine run 400 rfl ?_
    refine at_if rfl (fun q2 => by rw [hk] at q2; cases q2) (fun _ => ?_)
    refine run 400 rfl ?_
    refine at_if rfl (fun q2 => by rw [hk] at q2; cases q2) (fun _ => ?_)
    refine run 400 rfl ?_
    refine at_callF [0, 1] (ha) rfl ⟨rfl, rfl, trivial⟩ rfl rfl rfl ?_
    refine run 400 rfl ?_
    refine at_callF [0, 1] (at_no_fn l res c r m.b (by simpa using hb)) rfl ⟨rfl, rfl, trivial⟩ rfl rfl rfl ?_
    refine run 400 rfl ?_
    refine at_false 77 rfl (by rw [hk]; rfl) ?_
    refine run 400 rfl ?_
    refine at_false 82 rfl (by rw [hk]; rfl) ?_
    refine run 400 rfl ?_
    refine at_false 10 rfl (by rw [hk]; rfl) ?_
    refine run 400 rfl ?_
    exact at_ret rfl rfl (rsO l res c r) ⟨rfl, rfl⟩ ⟨rfl, rfl, trivial⟩
theorem one_open_no (l res : List Tm) (c r : Nat) (m : Mv) (hk : m.k = 5) (h : inF m.a res.length = false) : Contract Try.prog 60 2 (rsO l res c r) [.ptr 0 0, m.sv] fun s post => s = .tup [zSV, I 8] ∧ post = rsO l res c r := by
  have ha := at_no_fn l res c r m.a h
  by_cases hb : inF m.b res.length = true
  · refine contract_of ty_ok [3, 4, 5, 6, 7] Try.func60 rfl (by decide) Try.ntmps60 rfl fun z => ?_
    refine run 400 rfl ?_
    refine at_false 15 rfl (by rw [hk]; rfl) ?_
    refine run 400 rfl ?_
    refine at_ifd rfl (fun q2 => by omega) (fun _ => ?_)
    refine run 400 rfl ?_
    refine at_drawn 19 rfl rfl [(2, .no)] [20, 21, 22] rfl (by rw [hk]; rfl) ?_
    refine run 400 rfl ?_
    refine at_if rfl (fun q2 => by rw [hk] at q2; cases q2) (fun _ => ?_)
    refine run 400 rfl ?_
    refine at_if rfl (fun q2 => by rw [hk] at q2; cases q2) (fun _ => ?_)
    refine run 400 rfl ?_
    refine at_callF [0, 1] (ha) rfl ⟨rfl, rfl, trivial⟩ rfl rfl rfl ?_
    refine run 400 rfl ?_
    refine at_callF [0, 1] (at_yes_fn l res c r m.b hb) rfl ⟨rfl, rfl, trivial⟩ rfl rfl rfl ?_
    refine run 400 rfl ?_
    refine at_false 77 rfl (by rw [hk]; rfl) ?_
    refine run 400 rfl ?_
    refine at_false 82 rfl (by rw [hk]; rfl) ?_
    refine run 400 rfl ?_
    refine at_false 10 rfl (by rw [hk]; rfl) ?_
    refine run 400 rfl ?_
    exact at_ret rfl rfl (rsO l res c r) ⟨rfl, rfl⟩ ⟨rfl, rfl, trivial⟩
  · refine contract_of ty_ok [3, 4, 5, 6, 7] Try.func60 rfl (by decide) Try.ntmps60 rfl fun z => ?_
    refine run 400 rfl ?_
    refine at_false 15 rfl (by rw [hk]; rfl) ?_
    refine run 400 rfl ?_
    refine at_ifd rfl (fun q2 => by omega) (fun _ => ?_)
    refine run 400 rfl ?_
    refine at_drawn 19 rfl rfl [(2, .no)] [20, 21, 22] rfl (by rw [hk]; rfl) ?_
    refine run 400 rfl ?_
    refine at_if rfl (fun q2 => by rw [hk] at q2; cases q2) (fun _ => ?_)
    refine run 400 rfl ?_
    refine at_if rfl (fun q2 => by rw [hk] at q2; cases q2) (fun _ => ?_)
    refine run 400 rfl ?_
    refine at_callF [0, 1] (ha) rfl ⟨rfl, rfl, trivial⟩ rfl rfl rfl ?_
    refine run 400 rfl ?_
    refine at_callF [0, 1] (at_no_fn l res c r m.b (by simpa using hb)) rfl ⟨rfl, rfl, trivial⟩ rfl rfl rfl ?_
    refine run 400 rfl ?_
    refine at_false 77 rfl (by rw [hk]; rfl) ?_
    refine run 400 rfl ?_
    refine at_false 82 rfl (by rw [hk]; rfl) ?_
    refine run 400 rfl ?_
    refine at_false 10 rfl (by rw [hk]; rfl) ?_
    refine run 400 rfl ?_
    exact at_ret rfl rfl (rsO l res c r) ⟨rfl, rfl⟩ ⟨rfl, rfl, trivial⟩
theorem one_hash_no (l res : List Tm) (c r : Nat) (m : Mv) (hk : m.k = 6) (h : inF m.a res.length = false) : Contract Try.prog 60 2 (rsO l res c r) [.ptr 0 0, m.sv] fun s post => s = .tup [zSV, I 8] ∧ post = rsO l res c r := by
  have ha := at_no_fn l res c r m.a h
  by_cases hb : inF m.b res.length = true
  · refine contract_of ty_ok [3, 4, 5, 6, 7] Try.func60 rfl (by decide) Try.ntmps60 rfl fun z => ?_
    refine run 400 rfl ?_
    refine at_false 15 rfl (by rw [hk]; rfl) ?_
    refine run 400 rfl ?_
    refine at_ifd rfl (fun q2 => by omega) (fun _ => ?_)
    refine run 400 rfl ?_
    refine at_drawn 19 rfl rfl [(2, .no)] [20, 21, 22] rfl (by rw [hk]; rfl) ?_
    refine run 400 rfl ?_
    refine at_if rfl (fun q2 => by rw [hk] at q2; cases q2) (fun _ => ?_)
    refine run 400 rfl ?_
    refine at_if rfl (fun q2 => by rw [hk] at q2; cases q2) (fun _ => ?_)
    refine run 400 rfl ?_
    refine at_callF [0, 1] (ha) rfl ⟨rfl, rfl, trivial⟩ rfl rfl rfl ?_
    refine run 400 rfl ?_
    refine at_callF [0, 1] (at_yes_fn l res c r m.b hb) rfl ⟨rfl, rfl, trivial⟩ rfl rfl rfl ?_
    refine run 400 rfl ?_
    refine at_false 77 rfl (by rw [hk]; rfl) ?_
    refine run 400 rfl ?_
    refine at_false 82 rfl (by rw [hk]; rfl) ?_
    refine run 400 rfl ?_
    refine at_false 10 rfl (by rw [hk]; rfl) ?_
    refine run 400 rfl ?_
    exact at_ret rfl rfl (rsO l res c r) ⟨rfl, rfl⟩ ⟨rfl, rfl, trivial⟩
  · refine contract_of ty_ok [3, 4, 5, 6, 7] Try.func60 rfl (by decide) Try.ntmps60 rfl fun z => ?_
    refine run 400 rfl ?_
    refine at_false 15 rfl (by rw [hk]; rfl) ?_
    refine run 400 rfl ?_
    refine at_ifd rfl (fun q2 => by omega) (fun _ => ?_)
    refine run 400 rfl ?_
    refine at_drawn 19 rfl rfl [(2, .no)] [20, 21, 22] rfl (by rw [hk]; rfl) ?_
    refine run 400 rfl ?_
    refine at_if rfl (fun q2 => by rw [hk] at q2; cases q2) (fun _ => ?_)
    refine run 400 rfl ?_
    refine at_if rfl (fun q2 => by rw [hk] at q2; cases q2) (fun _ => ?_)
    refine run 400 rfl ?_
    refine at_callF [0, 1] (ha) rfl ⟨rfl, rfl, trivial⟩ rfl rfl rfl ?_
    refine run 400 rfl ?_
    refine at_callF [0, 1] (at_no_fn l res c r m.b (by simpa using hb)) rfl ⟨rfl, rfl, trivial⟩ rfl rfl rfl ?_
    refine run 400 rfl ?_
    refine at_false 77 rfl (by rw [hk]; rfl) ?_
    refine run 400 rfl ?_
    refine at_false 82 rfl (by rw [hk]; rfl) ?_
    refine run 400 rfl ?_
    refine at_false 10 rfl (by rw [hk]; rfl) ?_
    refine run 400 rfl ?_
    exact at_ret rfl rfl (rsO l res c r) ⟨rfl, rfl⟩ ⟨rfl, rfl, trivial⟩
theorem one_pub_no (l res : List Tm) (c r : Nat) (m : Mv) (hk : m.k = 7) (h : inF m.a res.length = false) : Contract Try.prog 60 2 (rsO l res c r) [.ptr 0 0, m.sv] fun s post => s = .tup [zSV, I 8] ∧ post = rsO l res c r := by
  have ha := at_no_fn l res c r m.a h
  by_cases hb : inF m.b res.length = true
  · refine contract_of ty_ok [3, 4, 5, 6, 7] Try.func60 rfl (by decide) Try.ntmps60 rfl fun z => ?_
    refine run 400 rfl ?_
    refine at_false 15 rfl (by rw [hk]; rfl) ?_
    refine run 400 rfl ?_
    refine at_ifd rfl (fun q2 => by omega) (fun _ => ?_)
    refine run 400 rfl ?_
    refine at_drawn 19 rfl rfl [(2, .no)] [20, 21, 22] rfl (by rw [hk]; rfl) ?_
    refine run 400 rfl ?_
    refine at_if rfl (fun q2 => by rw [hk] at q2; cases q2) (fun _ => ?_)
    refine run 400 rfl ?_
    refine at_if rfl (fun q2 => by rw [hk] at q2; cases q2) (fun _ => ?_)
    refine run 400 rfl ?_
    refine at_callF [0, 1] (ha) rfl ⟨rfl, rfl, trivial⟩ rfl rfl rfl ?_
    refine run 400 rfl ?_
    refine at_callF [0, 1] (at_yes_fn l res c r m.b hb) rfl ⟨rfl, rfl, trivial⟩ rfl rfl rfl ?_
    refine run 400 rfl ?_
    refine at_false 77 rfl (by rw [hk]; rfl) ?_
    refine run 400 rfl ?_
    refine at_false 82 rfl (by rw [hk]; rfl) ?_
    refine run 400 rfl ?_
    refine at_false 10 rfl (by rw [hk]; rfl) ?_
    refine run 400 rfl ?_
    exact at_ret rfl rfl (rsO l res c r) ⟨rfl, rfl⟩ ⟨rfl, rfl, trivial⟩
  · refine contract_of ty_ok [3, 4, 5, 6, 7] Try.func60 rfl (by decide) Try.ntmps60 rfl fun z => ?_
    refine run 400 rfl ?_
    refine at_false 15 rfl (by rw [hk]; rfl) ?_
    refine run 400 rfl ?_
    refine at_ifd rfl (fun q2 => by omega) (fun _ => ?_)
    refine run 400 rfl ?_
    refine at_drawn 19 rfl rfl [(2, .no)] [20, 21, 22] rfl (by rw [hk]; rfl) ?_
    refine run 400 rfl ?_
    refine at_if rfl (fun q2 => by rw [hk] at q2; cases q2) (fun _ => ?_)
    refine run 400 rfl ?_
    refine at_if rfl (fun q2 => by rw [hk] at q2; cases q2) (fun _ => ?_)
    refine run 400 rfl ?_
    refine at_callF [0, 1] (ha) rfl ⟨rfl, rfl, trivial⟩ rfl rfl rfl ?_
    refine run 400 rfl ?_
    refine at_callF [0, 1] (at_no_fn l res c r m.b (by simpa using hb)) rfl ⟨rfl, rfl, trivial⟩ rfl rfl rfl ?_
    refine run 400 rfl ?_
    refine at_false 77 rfl (by rw [hk]; rfl) ?_
    refine run 400 rfl ?_
    refine at_false 82 rfl (by rw [hk]; rfl) ?_
    refine run 400 rfl ?_
    refine at_false 10 rfl (by rw [hk]; rfl) ?_
    refine run 400 rfl ?_
    exact at_ret rfl rfl (rsO l res c r) ⟨rfl, rfl⟩ ⟨rfl, rfl, trivial⟩
theorem T1_fn (k : Int) (u : Tm) : Gives Try.prog 35 [I k, .tl 4 [tr u]] (Tm.mk k 0 .empty [u]).sv := (T_fn k [u]).weak ⟨SVle.refl _, by rw [rowsT_cons, rowsT_nil]; exact SVle.tl _ _, trivial⟩
theorem T2_fn (k : Int) (u v : Tm) : Gives Try.prog 35 [I k, .tl 4 [tr u, tr v]] (Tm.mk k 0 .empty [u, v]).sv := (T_fn k [u, v]).weak ⟨SVle.refl _, by rw [rowsT_cons, rowsT_cons, rowsT_nil]; exact SVle.tl _ _, trivial⟩
theorem one_left_form (l res : List Tm) (c r : Nat) (m : Mv) (hk : m.k = 3) (h : inF m.a res.length = true) (hq : (res.getD m.a.toNat .zero).k ≠ 7) : Contract Try.prog 60 2 (rsO l res c r) [.ptr 0 0, m.sv] fun s post => s = .tup [zSV, I 3] ∧ post = rsO l res c r := by
  have ha := at_yes_fn l res c r m.a h
  generalize res.getD m.a.toNat .zero = u at ha hq
  by_cases hb : inF m.b res.length = true
  · refine contract_of ty_ok [3, 4, 5, 6, 7] Try.func60 rfl (by decide) Try.ntmps60 rfl fun z => ?_
    refine run 400 rfl ?_
    refine at_false 15 rfl (by rw [hk]; rfl) ?_
    refine run 400 rfl ?_
    refine at_ifd rfl (fun q2 => by omega) (fun _ => ?_)
    refine run 400 rfl ?_
    refine at_drawn 19 rfl rfl [(2, .no)] [20, 21, 22] rfl (by rw [hk]; rfl) ?_
    refine run 400 rfl ?_
    refine at_if rfl (fun q2 => by rw [hk] at q2; cases q2) (fun _ => ?_)
    refine run 400 rfl ?_
    refine at_if rfl (fun q2 => by rw [hk] at q2; cases q2) (fun _ => ?_)
    refine run 400 rfl ?_
    refine at_callF [0, 1] (ha) rfl ⟨rfl, rfl, trivial⟩ rfl rfl rfl ?_
    refine run 400 rfl ?_
    refine at_callF [0, 1] (at_yes_fn l res c r m.b hb) rfl ⟨rfl, rfl, trivial⟩ rfl rfl rfl ?_
    refine run 400 rfl ?_
    refine at_false 77 rfl (by rw [hk]; rfl) ?_
    refine run 400 rfl ?_
    refine at_false 82 rfl (by rw [hk]; rfl) ?_
    refine run 400 rfl ?_
    refine at_false 91 rfl (by rw [hk]; rfl) ?_
    refine run 400 rfl ?_
    refine at_if rfl (fun _ => ?_) (fun q2 => by rw [hk] at q2; cases q2)
    refine run 400 rfl ?_
    refine at_if rfl (fun _ => ?_) (fun q2 => by rw [hk] at q2; cases q2)
    refine run 400 rfl ?_
    refine at_if rfl (fun _ => ?_) (fun q2 => absurd (by simpa using q2) hq)
    refine run 400 rfl ?_
    exact at_ret rfl rfl (rsO l res c r) ⟨rfl, rfl⟩ ⟨rfl, rfl, trivial⟩
  · refine contract_of ty_ok [3, 4, 5, 6, 7] Try.func60 rfl (by decide) Try.ntmps60 rfl fun z => ?_
    refine run 400 rfl ?_
    refine at_false 15 rfl (by rw [hk]; rfl) ?_
    refine run 400 rfl ?_
    refine at_ifd rfl (fun q2 => by omega) (fun _ => ?_)
    refine run 400 rfl ?_
    refine at_drawn 19 rfl rfl [(2, .no)] [20, 21, 22] rfl (by rw [hk]; rfl) ?_
    refine run 400 rfl ?_
    refine at_if rfl (fun q2 => by rw [hk] at q2; cases q2) (fun _ => ?_)
    refine run 400 rfl ?_
    refine at_if rfl (fun q2 => by rw [hk] at q2; cases q2) (fun _ => ?_)
    refine run 400 rfl ?_
    refine at_callF [0, 1] (ha) rfl ⟨rfl, rfl, trivial⟩ rfl rfl rfl ?_
    refine run 400 rfl ?_
    refine at_callF [0, 1] (at_no_fn l res c r m.b (by simpa using hb)) rfl ⟨rfl, rfl, trivial⟩ rfl rfl rfl ?_
    refine run 400 rfl ?_
    refine at_false 77 rfl (by rw [hk]; rfl) ?_
    refine run 400 rfl ?_
    refine at_false 82 rfl (by rw [hk]; rfl) ?_
    refine run 400 rfl ?_
    refine at_false 91 rfl (by rw [hk]; rfl) ?_
    refine run 400 rfl ?_
    refine at_if rfl (fun _ => ?_) (fun q2 => by rw [hk] at q2; cases q2)
    refine run 400 rfl ?_
    refine at_if rfl (fun _ => ?_) (fun q2 => by rw [hk] at q2; cases q2)
    refine run 400 rfl ?_
    refine at_if rfl (fun _ => ?_) (fun q2 => absurd (by simpa using q2) hq)
    refine run 400 rfl ?_
    exact at_ret rfl rfl (rsO l res c r) ⟨rfl, rfl⟩ ⟨rfl, rfl, trivial⟩
theorem one_left (l res : List Tm) (c r : Nat) (m : Mv) (hk : m.k = 3) (h : inF m.a res.length = true) (hq : (res.getD m.a.toNat .zero).k = 7) (hn : 0 < (res.getD m.a.toNat .zero).kids.length) : Contract Try.prog 60 2 (rsO l res c r) [.ptr 0 0, m.sv] fun s post => s = .tup [((res.getD m.a.toNat .zero).kids.getD 0 .zero).sv, I 0] ∧ post = rsO l res c r := by
  have ha := at_yes_fn l res c r m.a h
  generalize res.getD m.a.toNat .zero = u at ha hq hn
  have hget := rowsT_get hn
  generalize u.kids.getD 0 .zero = v at hget
  by_cases hb : inF m.b res.length = true
  · refine contract_of ty_ok [3, 4, 5, 6, 7] Try.func60 rfl (by decide) Try.ntmps60 rfl fun z => ?_
    refine run 400 rfl ?_
    refine at_false 15 rfl (by rw [hk]; rfl) ?_
    refine run 400 rfl ?_
    refine at_ifd rfl (fun q2 => by omega) (fun _ => ?_)
    refine run 400 rfl ?_
    refine at_drawn 19 rfl rfl [(2, .no)] [20, 21, 22] rfl (by rw [hk]; rfl) ?_
    refine run 400 rfl ?_
    refine at_if rfl (fun q2 => by rw [hk] at q2; cases q2) (fun _ => ?_)
    refine run 400 rfl ?_
    refine at_if rfl (fun q2 => by rw [hk] at q2; cases q2) (fun _ => ?_)
    refine run 400 rfl ?_
    refine at_callF [0, 1] (ha) rfl ⟨rfl, rfl, trivial⟩ rfl rfl rfl ?_
    refine run 400 rfl ?_
    refine at_callF [0, 1] (at_yes_fn l res c r m.b hb) rfl ⟨rfl, rfl, trivial⟩ rfl rfl rfl ?_
    refine run 400 rfl ?_
    refine at_false 77 rfl (by rw [hk]; rfl) ?_
    refine run 400 rfl ?_
    refine at_false 82 rfl (by rw [hk]; rfl) ?_
    refine run 400 rfl ?_
    refine at_false 91 rfl (by rw [hk]; rfl) ?_
    refine run 400 rfl ?_
    refine at_if rfl (fun _ => ?_) (fun q2 => by rw [hk] at q2; cases q2)
    refine run 400 rfl ?_
    refine at_if rfl (fun _ => ?_) (fun q2 => by rw [hk] at q2; cases q2)
    refine run 400 rfl ?_
    refine at_if rfl (fun q2 => absurd hq (by simpa using q2)) (fun _ => ?_)
    refine run 400 rfl ?_
    refine at_val (.rp (tr v) 0) (does_index ty_ok _ rfl rfl rfl (by omega) (show (rowsT u.kids)[(m.k - 3).toNat]? = some (tr v) from by rw [hk]; exact hget) rfl) ?_
    refine run 400 rfl ?_
    exact at_ret rfl rfl (rsO l res c r) ⟨rfl, rfl⟩ ⟨rfl, rfl, trivial⟩
  · refine contract_of ty_ok [3, 4, 5, 6, 7] Try.func60 rfl (by decide) Try.ntmps60 rfl fun z => ?_
    refine run 400 rfl ?_
    refine at_false 15 rfl (by rw [hk]; rfl) ?_
    refine run 400 rfl ?_
    refine at_ifd rfl (fun q2 => by omega) (fun _ => ?_)
    refine run 400 rfl ?_
    refine at_drawn 19 rfl rfl [(2, .no)] [20, 21, 22] rfl (by rw [hk]; rfl) ?_
    refine run 400 rfl ?_
    refine at_if rfl (fun q2 => by rw [hk] at q2; cases q2) (fun _ => ?_)
    refine run 400 rfl ?_
    refine at_if rfl (fun q2 => by rw [hk] at q2; cases q2) (fun _ => ?_)
    refine run 400 rfl ?_
    refine at_callF [0, 1] (ha) rfl ⟨rfl, rfl, trivial⟩ rfl rfl rfl ?_
    refine run 400 rfl ?_
    refine at_callF [0, 1] (at_no_fn l res c r m.b (by simpa using hb)) rfl ⟨rfl, rfl, trivial⟩ rfl rfl rfl ?_
    refine run 400 rfl ?_
    refine at_false 77 rfl (by rw [hk]; rfl) ?_
    refine run 400 rfl ?_
    refine at_false 82 rfl (by rw [hk]; rfl) ?_
    refine run 400 rfl ?_
    refine at_false 91 rfl (by rw [hk]; rfl) ?_
    refine run 400 rfl ?_
    refine at_if rfl (fun _ => ?_) (fun q2 => by rw [hk] at q2; cases q2)
    refine run 400 rfl ?_
    refine at_if rfl (fun _ => ?_) (fun q2 => by rw [hk] at q2; cases q2)
    refine run 400 rfl ?_
    refine at_if rfl (fun q2 => absurd hq (by simpa using q2)) (fun _ => ?_)
    refine run 400 rfl ?_
    refine at_val (.rp (tr v) 0) (does_index ty_ok _ rfl rfl rfl (by omega) (show (rowsT u.kids)[(m.k - 3).toNat]? = some (tr v) from by rw [hk]; exact hget) rfl) ?_
    refine run 400 rfl ?_
    exact at_ret rfl rfl (rsO l res c r) ⟨rfl, rfl⟩ ⟨rfl, rfl, trivial⟩
theorem one_right_form (l res : List Tm) (c r : Nat) (m : Mv) (hk : m.k = 4) (h : inF m.a res.length = true) (hq : (res.getD m.a.toNat .zero).k ≠ 7) : Contract Try.prog 60 2 (rsO l res c r) [.ptr 0 0, m.sv] fun s post => s = .tup [zSV, I 3] ∧ post = rsO l res c r := by
  have ha := at_yes_fn l res c r m.a h
  generalize res.getD m.a.toNat .zero = u at ha hq
  by_cases hb : inF m.b res.length = true
  · refine contract_of ty_ok [3, 4, 5, 6, 7] Try.func60 rfl (by decide) Try.ntmps60 rfl fun z => ?_
    refine run 400 rfl ?_
    refine at_false 15 rfl (by rw [hk]; rfl) ?_
    refine run 400 rfl ?_
    refine at_ifd rfl (fun q2 => by omega) (fun _ => ?_)
    refine run 400 rfl ?_
    refine at_drawn 19 rfl rfl [(2, .no)] [20, 21, 22] rfl (by rw [hk]; rfl) ?_
    refine run 400 rfl ?_
    refine at_if rfl (fun q2 => by rw [hk] at q2; cases q2) (fun _ => ?_)
    refine run 400 rfl ?_
    refine at_if rfl (fun q2 => by rw [hk] at q2; cases q2) (fun _ => ?_)
    refine run 400 rfl ?_
    refine at_callF [0, 1] (ha) rfl ⟨rfl, rfl, trivial⟩ rfl rfl rfl ?_
    refine run 400 rfl ?_
    refine at_callF [0, 1] (at_yes_fn l res c r m.b hb) rfl ⟨rfl, rfl, trivial⟩ rfl rfl rfl ?_
    refine run 400 rfl ?_
    refine at_false 77 rfl (by rw [hk]; rfl) ?_
    refine run 400 rfl ?_
    refine at_false 82 rfl (by rw [hk]; rfl) ?_
    refine run 400 rfl ?_
    refine at_false 91 rfl (by rw [hk]; rfl) ?_
    refine run 400 rfl ?_
    refine at_if rfl (fun q2 => by rw [hk] at q2; cases q2) (fun _ => ?_)
    refine run 400 rfl ?_
    refine at_if rfl (fun _ => ?_) (fun q2 => by rw [hk] at q2; cases q2)
    refine run 400 rfl ?_
    refine at_if rfl (fun _ => ?_) (fun q2 => absurd (by simpa using q2) hq)
    refine run 400 rfl ?_
    exact at_ret rfl rfl (rsO l res c r) ⟨rfl, rfl⟩ ⟨rfl, rfl, trivial⟩
  · refine contract_of ty_ok [3, 4, 5, 6, 7] Try.func60 rfl (by decide) Try.ntmps60 rfl fun z => ?_
    refine run 400 rfl ?_
    refine at_false 15 rfl (by rw [hk]; rfl) ?_
    refine run 400 rfl ?_
    refine at_ifd rfl (fun q2 => by omega) (fun _ => ?_)
    refine run 400 rfl ?_
    refine at_drawn 19 rfl rfl [(2, .no)] [20, 21, 22] rfl (by rw [hk]; rfl) ?_
    refine run 400 rfl ?_
    refine at_if rfl (fun q2 => by rw [hk] at q2; cases q2) (fun _ => ?_)
    refine run 400 rfl ?_
    refine at_if rfl (fun q2 => by rw [hk] at q2; cases q2) (fun _ => ?_)
    refine run 400 rfl ?_
    refine at_callF [0, 1] (ha) rfl ⟨rfl, rfl, trivial⟩ rfl rfl rfl ?_
    refine run 400 rfl ?_
    refine at_callF [0, 1] (at_no_fn l res c r m.b (by simpa using hb)) rfl ⟨rfl, rfl, trivial⟩ rfl rfl rfl ?_
    refine run 400 rfl ?_
    refine at_false 77 rfl (by rw [hk]; rfl) ?_
    refine run 400 rfl ?_
    refine at_false 82 rfl (by rw [hk]; rfl) ?_
    refine run 400 rfl ?_
    refine at_false 91 rfl (by rw [hk]; rfl) ?_
    refine run 400 rfl ?_
    refine at_if rfl (fun q2 => by rw [hk] at q2; cases q2) (fun _ => ?_)
    refine run 400 rfl ?_
    refine at_if rfl (fun _ => ?_) (fun q2 => by rw [hk] at q2; cases q2)
    refine run 400 rfl ?_
    refine at_if rfl (fun _ => ?_) (fun q2 => absurd (by simpa using q2) hq)
    refine run 400 rfl ?_
    exact at_ret rfl rfl (rsO l res c r) ⟨rfl, rfl⟩ ⟨rfl, rfl, trivial⟩
theorem one_right (l res : List Tm) (c r : Nat) (m : Mv) (hk : m.k = 4) (h : inF m.a res.length = true) (hq : (res.getD m.a.toNat .zero).k = 7) (hn : 1 < (res.getD m.a.toNat .zero).kids.length) : Contract Try.prog 60 2 (rsO l res c r) [.ptr 0 0, m.sv] fun s post => s = .tup [((res.getD m.a.toNat .zero).kids.getD 1 .zero).sv, I 0] ∧ post = rsO l res c r := by
  have ha := at_yes_fn l res c r m.a h
  generalize res.getD m.a.toNat .zero = u at ha hq hn
  have hget := rowsT_get hn
  generalize u.kids.getD 1 .zero = v at hget
  by_cases hb : inF m.b res.length = true
  · refine contract_of ty_ok [3, 4, 5, 6, 7] Try.func60 rfl (by decide) Try.ntmps60 rfl fun z => ?_
    refine run 400 rfl ?_
    refine at_false 15 rfl (by rw [hk]; rfl) ?_
    refine run 400 rfl ?_
    refine at_ifd rfl (fun q2 => by omega) (fun _ => ?_)
    refine run 400 rfl ?_
    refine at_drawn 19 rfl rfl [(2, .no)] [20, 21, 22] rfl (by rw [hk]; rfl) ?_
    refine run 400 rfl ?_
    refine at_if rfl (fun q2 => by rw [hk] at q2; cases q2) (fun _ => ?_)
    refine run 400 rfl ?_
    refine at_if rfl (fun q2 => by rw [hk] at q2; cases q2) (fun _ => ?_)
    refine run 400 rfl ?_
    refine at_callF [0, 1] (ha) rfl ⟨rfl, rfl, trivial⟩ rfl rfl rfl ?_
    refine run 400 rfl ?_
    refine at_callF [0, 1] (at_yes_fn l res c r m.b hb) rfl ⟨rfl, rfl, trivial⟩ rfl rfl rfl ?_
    refine run 400 rfl ?_
    refine at_false 77 rfl (by rw [hk]; rfl) ?_
    refine run 400 rfl ?_
    refine at_false 82 rfl (by rw [hk]; rfl) ?_
    refine run 400 rfl ?_
    refine at_false 91 rfl (by rw [hk]; rfl) ?_
    refine run 400 rfl ?_
    refine at_if rfl (fun q2 => by rw [hk] at q2; cases q2) (fun _ => ?_)
    refine run 400 rfl ?_
    refine at_if rfl (fun _ => ?_) (fun q2 => by rw [hk] at q2; cases q2)
    refine run 400 rfl ?_
    refine at_if rfl (fun q2 => absurd hq (by simpa using q2)) (fun _ => ?_)
    refine run 400 rfl ?_
    refine at_val (.rp (tr v) 0) (does_index ty_ok _ rfl rfl rfl (by omega) (show (rowsT u.kids)[(m.k - 3).toNat]? = some (tr v) from by rw [hk]; exact hget) rfl) ?_
    refine run 400 rfl ?_
    exact at_ret rfl rfl (rsO l res c r) ⟨rfl, rfl⟩ ⟨rfl, rfl, trivial⟩
  · refine contract_of ty_ok [3, 4, 5, 6, 7] Try.func60 rfl (by decide) Try.ntmps60 rfl fun z => ?_
    refine run 400 rfl ?_
    refine at_false 15 rfl (by rw [hk]; rfl) ?_
    refine run 400 rfl ?_
    refine at_ifd rfl (fun q2 => by omega) (fun _ => ?_)
    refine run 400 rfl ?_
    refine at_drawn 19 rfl rfl [(2, .no)] [20, 21, 22] rfl (by rw [hk]; rfl) ?_
    refine run 400 rfl ?_
    refine at_if rfl (fun q2 => by rw [hk] at q2; cases q2) (fun _ => ?_)
    refine run 400 rfl ?_
    refine at_if rfl (fun q2 => by rw [hk] at q2; cases q2) (fun _ => ?_)
    refine run 400 rfl ?_
    refine at_callF [0, 1] (ha) rfl ⟨rfl, rfl, trivial⟩ rfl rfl rfl ?_
    refine run 400 rfl ?_
    refine at_callF [0, 1] (at_no_fn l res c r m.b (by simpa using hb)) rfl ⟨rfl, rfl, trivial⟩ rfl rfl rfl ?_
    refine run 400 rfl ?_
    refine at_false 77 rfl (by rw [hk]; rfl) ?_
    refine run 400 rfl ?_
    refine at_false 82 rfl (by rw [hk]; rfl) ?_
    refine run 400 rfl ?_
    refine at_false 91 rfl (by rw [hk]; rfl) ?_
    refine run 400 rfl ?_
    refine at_if rfl (fun q2 => by rw [hk] at q2; cases q2) (fun _ => ?_)
    refine run 400 rfl ?_
    refine at_if rfl (fun _ => ?_) (fun q2 => by rw [hk] at q2; cases q2)
    refine run 400 rfl ?_
    refine at_if rfl (fun q2 => absurd hq (by simpa using q2)) (fun _ => ?_)
    refine run 400 rfl ?_
    refine at_val (.rp (tr v) 0) (does_index ty_ok _ rfl rfl rfl (by omega) (show (rowsT u.kids)[(m.k - 3).toNat]? = some (tr v) from by rw [hk]; exact hget) rfl) ?_
    refine run 400 rfl ?_
    exact at_ret rfl rfl (rsO l res c r) ⟨rfl, rfl⟩ ⟨rfl, rfl, trivial⟩
theorem one_open_form (l res : List Tm) (c r : Nat) (m : Mv) (hk : m.k = 5) (h : inF m.a res.length = true) (hq : (res.getD m.a.toNat .zero).k ≠ 6) : Contract Try.prog 60 2 (rsO l res c r) [.ptr 0 0, m.sv] fun s post => s = .tup [zSV, I 3] ∧ post = rsO l res c r := by
  have ha := at_yes_fn l res c r m.a h
  generalize res.getD m.a.toNat .zero = u at ha hq
  by_cases hb : inF m.b res.length = true
  · refine contract_of ty_ok [3, 4, 5, 6, 7] Try.func60 rfl (by decide) Try.ntmps60 rfl fun z => ?_
    refine run 400 rfl ?_
    refine at_false 15 rfl (by rw [hk]; rfl) ?_
    refine run 400 rfl ?_
    refine at_ifd rfl (fun q2 => by omega) (fun _ => ?_)
    refine run 400 rfl ?_
    refine at_drawn 19 rfl rfl [(2, .no)] [20, 21, 22] rfl (by rw [hk]; rfl) ?_
    refine run 400 rfl ?_
    refine at_if rfl (fun q2 => by rw [hk] at q2; cases q2) (fun _ => ?_)
    refine run 400 rfl ?_
    refine at_if rfl (fun q2 => by rw [hk] at q2; cases q2) (fun _ => ?_)
    refine run 400 rfl ?_
    refine at_callF [0, 1] (ha) rfl ⟨rfl, rfl, trivial⟩ rfl rfl rfl ?_
    refine run 400 rfl ?_
    refine at_callF [0, 1] (at_yes_fn l res c r m.b hb) rfl ⟨rfl, rfl, trivial⟩ rfl rfl rfl ?_
    refine run 400 rfl ?_
    refine at_false 77 rfl (by rw [hk]; rfl) ?_
    refine run 400 rfl ?_
    refine at_false 82 rfl (by rw [hk]; rfl) ?_
    refine run 400 rfl ?_
    refine at_false 91 rfl (by rw [hk]; rfl) ?_
    refine run 400 rfl ?_
    refine at_if rfl (fun q2 => by rw [hk] at q2; cases q2) (fun _ => ?_)
    refine run 400 rfl ?_
    refine at_if rfl (fun q2 => by rw [hk] at q2; cases q2) (fun _ => ?_)
    refine run 400 rfl ?_
    refine at_if rfl (fun _ => ?_) (fun q2 => by rw [hk] at q2; cases q2)
    refine run 400 rfl ?_
    refine at_if rfl (fun _ => ?_) (fun q2 => absurd (by simpa using q2) hq)
    refine run 400 rfl ?_
    exact at_ret rfl rfl (rsO l res c r) ⟨rfl, rfl⟩ ⟨rfl, rfl, trivial⟩
  · refine contract_of ty_ok [3, 4, 5, 6, 7] Try.func60 rfl (by decide) Try.ntmps60 rfl fun z => ?_
    refine run 400 rfl ?_
    refine at_false 15 rfl (by rw [hk]; rfl) ?_
    refine run 400 rfl ?_
    refine at_ifd rfl (fun q2 => by omega) (fun _ => ?_)
    refine run 400 rfl ?_
    refine at_drawn 19 rfl rfl [(2, .no)] [20, 21, 22] rfl (by rw [hk]; rfl) ?_
    refine run 400 rfl ?_
    refine at_if rfl (fun q2 => by rw [hk] at q2; cases q2) (fun _ => ?_)
    refine run 400 rfl ?_
    refine at_if rfl (fun q2 => by rw [hk] at q2; cases q2) (fun _ => ?_)
    refine run 400 rfl ?_
    refine at_callF [0, 1] (ha) rfl ⟨rfl, rfl, trivial⟩ rfl rfl rfl ?_
    refine run 400 rfl ?_
    refine at_callF [0, 1] (at_no_fn l res c r m.b (by simpa using hb)) rfl ⟨rfl, rfl, trivial⟩ rfl rfl rfl ?_
    refine run 400 rfl ?_
    refine at_false 77 rfl (by rw [hk]; rfl) ?_
    refine run 400 rfl ?_
    refine at_false 82 rfl (by rw [hk]; rfl) ?_
    refine run 400 rfl ?_
    refine at_false 91 rfl (by rw [hk]; rfl) ?_
    refine run 400 rfl ?_
    refine at_if rfl (fun q2 => by rw [hk] at q2; cases q2) (fun _ => ?_)
    refine run 400 rfl ?_
    refine at_if rfl (fun q2 => by rw [hk] at q2; cases q2) (fun _ => ?_)
    refine run 400 rfl ?_
    refine at_if rfl (fun _ => ?_) (fun q2 => by rw [hk] at q2; cases q2)
    refine run 400 rfl ?_
    refine at_if rfl (fun _ => ?_) (fun q2 => absurd (by simpa using q2) hq)
    refine run 400 rfl ?_
    exact at_ret rfl rfl (rsO l res c r) ⟨rfl, rfl⟩ ⟨rfl, rfl, trivial⟩
theorem one_open (l res : List Tm) (c r : Nat) (m : Mv) (hk : m.k = 5) (h : inF m.a res.length = true) (hq : (res.getD m.a.toNat .zero).k = 6) (hn : 1 < (res.getD m.a.toNat .zero).kids.length) : Contract Try.prog 60 2 (rsO l res c r) [.ptr 0 0, m.sv] fun s post => s = .tup [((res.getD m.a.toNat .zero).kids.getD 1 .zero).sv, I 0] ∧ post = rsO l res c r := by
  have ha := at_yes_fn l res c r m.a h
  generalize res.getD m.a.toNat .zero = u at ha hq hn
  have hget := rowsT_get hn
  generalize u.kids.getD 1 .zero = v at hget
  by_cases hb : inF m.b res.length = true
  · refine contract_of ty_ok [3, 4, 5, 6, 7] Try.func60 rfl (by decide) Try.ntmps60 rfl fun z => ?_
    refine run 400 rfl ?_
    refine at_false 15 rfl (by rw [hk]; rfl) ?_
    refine run 400 rfl ?_
    refine at_ifd rfl (fun q2 => by omega) (fun _ => ?_)
    refine run 400 rfl ?_
    refine at_drawn 19 rfl rfl [(2, .no)] [20, 21, 22] rfl (by rw [hk]; rfl) ?_
    refine run 400 rfl ?_
    refine at_if rfl (fun q2 => by rw [hk] at q2; cases q2) (fun _ => ?_)
    refine run 400 rfl ?_
    refine at_if rfl (fun q2 => by rw [hk] at q2; cases q2) (fun _ => ?_)
    refine run 400 rfl ?_
    refine at_callF [0, 1] (ha) rfl ⟨rfl, rfl, trivial⟩ rfl rfl rfl ?_
    refine run 400 rfl ?_
    refine at_callF [0, 1] (at_yes_fn l res c r m.b hb) rfl ⟨rfl, rfl, trivial⟩ rfl rfl rfl ?_
    refine run 400 rfl ?_
    refine at_false 77 rfl (by rw [hk]; rfl) ?_
    refine run 400 rfl ?_
    refine at_false 82 rfl (by rw [hk]; rfl) ?_
    refine run 400 rfl ?_
    refine at_false 91 rfl (by rw [hk]; rfl) ?_
    refine run 400 rfl ?_
    refine at_if rfl (fun q2 => by rw [hk] at q2; cases q2) (fun _ => ?_)
    refine run 400 rfl ?_
    refine at_if rfl (fun q2 => by rw [hk] at q2; cases q2) (fun _ => ?_)
    refine run 400 rfl ?_
    refine at_if rfl (fun _ => ?_) (fun q2 => by rw [hk] at q2; cases q2)
    refine run 400 rfl ?_
    refine at_if rfl (fun q2 => absurd hq (by simpa using q2)) (fun _ => ?_)
    refine run 400 rfl ?_
    refine at_val (.rp (tr v) 0) (does_index ty_ok _ rfl rfl rfl (by omega) (show (rowsT u.kids)[(1 : Int).toNat]? = some (tr v) from hget) rfl) ?_
    refine run 400 rfl ?_
    exact at_ret rfl rfl (rsO l res c r) ⟨rfl, rfl⟩ ⟨rfl, rfl, trivial⟩
  · refine contract_of ty_ok [3, 4, 5, 6, 7] Try.func60 rfl (by decide) Try.ntmps60 rfl fun z => ?_
    refine run 400 rfl ?_
    refine at_false 15 rfl (by rw [hk]; rfl) ?_
    refine run 400 rfl ?_
    refine at_ifd rfl (fun q2 => by omega) (fun _ => ?_)
    refine run 400 rfl ?_
    refine at_drawn 19 rfl rfl [(2, .no)] [20, 21, 22] rfl (by rw [hk]; rfl) ?_
    refine run 400 rfl ?_
    refine at_if rfl (fun q2 => by rw [hk] at q2; cases q2) (fun _ => ?_)
    refine run 400 rfl ?_
    refine at_if rfl (fun q2 => by rw [hk] at q2; cases q2) (fun _ => ?_)
    refine run 400 rfl ?_
    refine at_callF [0, 1] (ha) rfl ⟨rfl, rfl, trivial⟩ rfl rfl rfl ?_
    refine run 400 rfl ?_
    refine at_callF [0, 1] (at_no_fn l res c r m.b (by simpa using hb)) rfl ⟨rfl, rfl, trivial⟩ rfl rfl rfl ?_
    refine run 400 rfl ?_
    refine at_false 77 rfl (by rw [hk]; rfl) ?_
    refine run 400 rfl ?_
    refine at_false 82 rfl (by rw [hk]; rfl) ?_
    refine run 400 rfl ?_
    refine at_false 91 rfl (by rw [hk]; rfl) ?_
    refine run 400 rfl ?_
    refine at_if rfl (fun q2 => by rw [hk] at q2; cases q2) (fun _ => ?_)
    refine run 400 rfl ?_
    refine at_if rfl (fun q2 => by rw [hk] at q2; cases q2) (fun _ => ?_)
    refine run 400 rfl ?_
    refine at_if rfl (fun _ => ?_) (fun q2 => by rw [hk] at q2; cases q2)
    refine run 400 rfl ?_
    refine at_if rfl (fun q2 => absurd hq (by simpa using q2)) (fun _ => ?_)
    refine run 400 rfl ?_
    refine at_val (.rp (tr v) 0) (does_index ty_ok _ rfl rfl rfl (by omega) (show (rowsT u.kids)[(1 : Int).toNat]? = some (tr v) from hget) rfl) ?_
    refine run 400 rfl ?_
    exact at_ret rfl rfl (rsO l res c r) ⟨rfl, rfl⟩ ⟨rfl, rfl, trivial⟩
theorem one_hash (l res : List Tm) (c r : Nat) (m : Mv) (hk : m.k = 6) (h : inF m.a res.length = true) : Contract Try.prog 60 2 (rsO l res c r) [.ptr 0 0, m.sv] fun s post => s = .tup [(Tm.mk 3 0 .empty [res.getD m.a.toNat .zero]).sv, I 0] ∧ post = rsO l res c r := by
  have ha := at_yes_fn l res c r m.a h
  generalize res.getD m.a.toNat .zero = u at ha
  by_cases hb : inF m.b res.length = true
  · refine contract_of ty_ok [3, 4, 5, 6, 7] Try.func60 rfl (by decide) Try.ntmps60 rfl fun z => ?_
    refine run 400 rfl ?_
    refine at_false 15 rfl (by rw [hk]; rfl) ?_
    refine run 400 rfl ?_
    refine at_ifd rfl (fun q2 => by omega) (fun _ => ?_)
    refine run 400 rfl ?_
    refine at_drawn 19 rfl rfl [(2, .no)] [20, 21, 22] rfl (by rw [hk]; rfl) ?_
    refine run 400 rfl ?_
    refine at_if rfl (fun q2 => by rw [hk] at q2; cases q2) (fun _ => ?_)
    refine run 400 rfl ?_
    refine at_if rfl (fun q2 => by rw [hk] at q2; cases q2) (fun _ => ?_)
    refine run 400 rfl ?_
    refine at_callF [0, 1] (ha) rfl ⟨rfl, rfl, trivial⟩ rfl rfl rfl ?_
    refine run 400 rfl ?_
    refine at_callF [0, 1] (at_yes_fn l res c r m.b hb) rfl ⟨rfl, rfl, trivial⟩ rfl rfl rfl ?_
    refine run 400 rfl ?_
    refine at_false 77 rfl (by rw [hk]; rfl) ?_
    refine run 400 rfl ?_
    refine at_false 82 rfl (by rw [hk]; rfl) ?_
    refine run 400 rfl ?_
    refine at_false 91 rfl (by rw [hk]; rfl) ?_
    refine run 400 rfl ?_
    refine at_if rfl (fun q2 => by rw [hk] at q2; cases q2) (fun _ => ?_)
    refine run 400 rfl ?_
    refine at_if rfl (fun q2 => by rw [hk] at q2; cases q2) (fun _ => ?_)
    refine run 400 rfl ?_
    refine at_if rfl (fun q2 => by rw [hk] at q2; cases q2) (fun _ => ?_)
    refine run 400 rfl ?_
    refine at_if rfl (fun _ => ?_) (fun q2 => by rw [hk] at q2; cases q2)
    refine run 400 rfl ?_
    refine at_gro (.tl 4 [tr u]) (doesG_build ty_ok _ rfl ⟨⟨rfl, rfl, _, rfl, SVles.refl _⟩, trivial⟩ rfl rfl (by decide)) ?_
    refine run 400 rfl ?_
    refine at_fn (T1_fn 3 u) rfl ?_
    refine run 400 rfl ?_
    exact at_ret rfl rfl (rsO l res c r) ⟨rfl, rfl⟩ ⟨rfl, rfl, trivial⟩
  · refine contract_of ty_ok [3, 4, 5, 6, 7] Try.func60 rfl (by decide) Try.ntmps60 rfl fun z => ?_
    refine run 400 rfl ?_
    refine at_false 15 rfl (by rw [hk]; rfl) ?_
    refine run 400 rfl ?_
    refine at_ifd rfl (fun q2 => by omega) (fun _ => ?_)
    refine run 400 rfl ?_
    refine at_drawn 19 rfl rfl [(2, .no)] [20, 21, 22] rfl (by rw [hk]; rfl) ?_
    refine run 400 rfl ?_
    refine at_if rfl (fun q2 => by rw [hk] at q2; cases q2) (fun _ => ?_)
    refine run 400 rfl ?_
    refine at_if rfl (fun q2 => by rw [hk] at q2; cases q2) (fun _ => ?_)
    refine run 400 rfl ?_
    refine at_callF [0, 1] (ha) rfl ⟨rfl, rfl, trivial⟩ rfl rfl rfl ?_
    refine run 400 rfl ?_
    refine at_callF [0, 1] (at_no_fn l res c r m.b (by simpa using hb)) rfl ⟨rfl, rfl, trivial⟩ rfl rfl rfl ?_
    refine run 400 rfl ?_
    refine at_false 77 rfl (by rw [hk]; rfl) ?_
    refine run 400 rfl ?_
    refine at_false 82 rfl (by rw [hk]; rfl) ?_
    refine run 400 rfl ?_
    refine at_false 91 rfl (by rw [hk]; rfl) ?_
    refine run 400 rfl ?_
    refine at_if rfl (fun q2 => by rw [hk] at q2; cases q2) (fun _ => ?_)
    refine run 400 rfl ?_
    refine at_if rfl (fun q2 => by rw [hk] at q2; cases q2) (fun _ => ?_)
    refine run 400 rfl ?_
    refine at_if rfl (fun q2 => by rw [hk] at q2; cases q2) (fun _ => ?_)
    refine run 400 rfl ?_
    refine at_if rfl (fun _ => ?_) (fun q2 => by rw [hk] at q2; cases q2)
    refine run 400 rfl ?_
    refine at_gro (.tl 4 [tr u]) (doesG_build ty_ok _ rfl ⟨⟨rfl, rfl, _, rfl, SVles.refl _⟩, trivial⟩ rfl rfl (by decide)) ?_
    refine run 400 rfl ?_
    refine at_fn (T1_fn 3 u) rfl ?_
    refine run 400 rfl ?_
    exact at_ret rfl rfl (rsO l res c r) ⟨rfl, rfl⟩ ⟨rfl, rfl, trivial⟩
theorem one_pub (l res : List Tm) (c r : Nat) (m : Mv) (hk : m.k = 7) (h : inF m.a res.length = true) : Contract Try.prog 60 2 (rsO l res c r) [.ptr 0 0, m.sv] fun s post => s = .tup [(Tm.mk 4 0 .empty [res.getD m.a.toNat .zero]).sv, I 0] ∧ post = rsO l res c r := by
  have ha := at_yes_fn l res c r m.a h
  generalize res.getD m.a.toNat .zero = u at ha
  by_cases hb : inF m.b res.length = true
  · refine contract_of ty_ok [3, 4, 5, 6, 7] Try.func60 rfl (by decide) Try.ntmps60 rfl fun z => ?_
    refine run 400 rfl ?_
    refine at_false 15 rfl (by rw [hk]; rfl) ?_
    refine run 400 rfl ?_
    refine at_ifd rfl (fun q2 => by omega) (fun _ => ?_)
    refine run 400 rfl ?_
    refine at_drawn 19 rfl rfl [(2, .no)] [20, 21, 22] rfl (by rw [hk]; rfl) ?_
    refine run 400 rfl ?_
    refine at_if rfl (fun q2 => by rw [hk] at q2; cases q2) (fun _ => ?_)
    refine run 400 rfl ?_
    refine at_if rfl (fun q2 => by rw [hk] at q2; cases q2) (fun _ => ?_)
    refine run 400 rfl ?_
    refine at_callF [0, 1] (ha) rfl ⟨rfl, rfl, trivial⟩ rfl rfl rfl ?_
    refine run 400 rfl ?_
    refine at_callF [0, 1] (at_yes_fn l res c r m.b hb) rfl ⟨rfl, rfl, trivial⟩ rfl rfl rfl ?_
    refine run 400 rfl ?_
    refine at_false 77 rfl (by rw [hk]; rfl) ?_
    refine run 400 rfl ?_
    refine at_false 82 rfl (by rw [hk]; rfl) ?_
    refine run 400 rfl ?_
    refine at_false 91 rfl (by rw [hk]; rfl) ?_
    refine run 400 rfl ?_
    refine at_if rfl (fun q2 => by rw [hk] at q2; cases q2) (fun _ => ?_)
    refine run 400 rfl ?_
    refine at_if rfl (fun q2 => by rw [hk] at q2; cases q2) (fun _ => ?_)
    refine run 400 rfl ?_
    refine at_if rfl (fun q2 => by rw [hk] at q2; cases q2) (fun _ => ?_)
    refine run 400 rfl ?_
    refine at_if rfl (fun q2 => by rw [hk] at q2; cases q2) (fun _ => ?_)
    refine run 400 rfl ?_
    refine at_if rfl (fun _ => ?_) (fun q2 => by rw [hk] at q2; cases q2)
    refine run 400 rfl ?_
    refine at_gro (.tl 4 [tr u]) (doesG_build ty_ok _ rfl ⟨⟨rfl, rfl, _, rfl, SVles.refl _⟩, trivial⟩ rfl rfl (by decide)) ?_
    refine run 400 rfl ?_
    refine at_fn (T1_fn 4 u) rfl ?_
    refine run 400 rfl ?_
    exact at_ret rfl rfl (rsO l res c r) ⟨rfl, rfl⟩ ⟨rfl, rfl, trivial⟩
  · refine contract_of ty_ok [3, 4, 5, 6, 7] Try.func60 rfl (by decide) Try.ntmps60 rfl fun z => ?_
    refine run 400 rfl ?_
    refine at_false 15 rfl (by rw [hk]; rfl) ?_
    refine run 400 rfl ?_
    refine at_ifd rfl (fun q2 => by omega) (fun _ => ?_)
    refine run 400 rfl ?_
    refine at_drawn 19 rfl rfl [(2, .no)] [20, 21, 22] rfl (by rw [hk]; rfl) ?_
    refine run 400 rfl ?_
    refine at_if rfl (fun q2 => by rw [hk] at q2; cases q2) (fun _ => ?_)
    refine run 400 rfl ?_
    refine at_if rfl (fun q2 => by rw [hk] at q2; cases q2) (fun _ => ?_)
    refine run 400 rfl ?_
    refine at_callF [0, 1] (ha) rfl ⟨rfl, rfl, trivial⟩ rfl rfl rfl ?_
    refine run 400 rfl ?_
    refine at_callF [0, 1] (at_no_fn l res c r m.b (by simpa using hb)) rfl ⟨rfl, rfl, trivial⟩ rfl rfl rfl ?_
    refine run 400 rfl ?_
    refine at_false 77 rfl (by rw [hk]; rfl) ?_
    refine run 400 rfl ?_
    refine at_false 82 rfl (by rw [hk]; rfl) ?_
    refine run 400 rfl ?_
    refine at_false 91 rfl (by rw [hk]; rfl) ?_
    refine run 400 rfl ?_
    refine at_if rfl (fun q2 => by rw [hk] at q2; cases q2) (fun _ => ?_)
    refine run 400 rfl ?_
    refine at_if rfl (fun q2 => by rw [hk] at q2; cases q2) (fun _ => ?_)
    refine run 400 rfl ?_
    refine at_if rfl (fun q2 => by rw [hk] at q2; cases q2) (fun _ => ?_)
    refine run 400 rfl ?_
    refine at_if rfl (fun q2 => by rw [hk] at q2; cases q2) (fun _ => ?_)
    refine run 400 rfl ?_
    refine at_if rfl (fun _ => ?_) (fun q2 => by rw [hk] at q2; cases q2)
    refine run 400 rfl ?_
    refine at_gro (.tl 4 [tr u]) (doesG_build ty_ok _ rfl ⟨⟨rfl, rfl, _, rfl, SVles.refl _⟩, trivial⟩ rfl rfl (by decide)) ?_
    refine run 400 rfl ?_
    refine at_fn (T1_fn 4 u) rfl ?_
    refine run 400 rfl ?_
    exact at_ret rfl rfl (rsO l res c r) ⟨rfl, rfl⟩ ⟨rfl, rfl, trivial⟩
theorem one_mac (l res : List Tm) (c r : Nat) (m : Mv) (hk : m.k = 8) (h : inF m.a res.length = true) (hb : inF m.b res.length = true) : Contract Try.prog 60 2 (rsO l res c r) [.ptr 0 0, m.sv] fun s post => s = .tup [(Tm.mk 5 0 .empty [res.getD m.a.toNat .zero, res.getD m.b.toNat .zero]).sv, I 0] ∧ post = rsO l res c r := by
  have ha := at_yes_fn l res c r m.a h
  have hc := at_yes_fn l res c r m.b hb
  generalize res.getD m.a.toNat .zero = u at ha
  generalize res.getD m.b.toNat .zero = v at hc
  refine contract_of ty_ok [3, 4, 5, 6, 7] Try.func60 rfl (by decide) Try.ntmps60 rfl fun z => ?_
  refine run 400 rfl ?_
  refine at_false 15 rfl (by rw [hk]; rfl) ?_
  refine run 400 rfl ?_
  refine at_ifd rfl (fun q2 => by omega) (fun _ => ?_)
  refine run 400 rfl ?_
  refine at_drawn 19 rfl rfl [(2, .no)] [20, 21, 22] rfl (by rw [hk]; rfl) ?_
  refine run 400 rfl ?_
  refine at_if rfl (fun q2 => by rw [hk] at q2; cases q2) (fun _ => ?_)
  refine run 400 rfl ?_
  refine at_if rfl (fun q2 => by rw [hk] at q2; cases q2) (fun _ => ?_)
  refine run 400 rfl ?_
  refine at_callF [0, 1] (ha) rfl ⟨rfl, rfl, trivial⟩ rfl rfl rfl ?_
  refine run 400 rfl ?_
  refine at_callF [0, 1] (hc) rfl ⟨rfl, rfl, trivial⟩ rfl rfl rfl ?_
  refine run 400 rfl ?_
  refine at_true 77 rfl (by rw [hk]; rfl) ?_
  refine run 400 rfl ?_
  refine at_if rfl (fun q2 => by rw [hk] at q2; cases q2) (fun _ => ?_)
  refine run 400 rfl ?_
  refine at_if rfl (fun q2 => by rw [hk] at q2; cases q2) (fun _ => ?_)
  refine run 400 rfl ?_
  refine at_if rfl (fun q2 => by rw [hk] at q2; cases q2) (fun _ => ?_)
  refine run 400 rfl ?_
  refine at_if rfl (fun q2 => by rw [hk] at q2; cases q2) (fun _ => ?_)
  refine run 400 rfl ?_
  refine at_if rfl (fun q2 => by rw [hk] at q2; cases q2) (fun _ => ?_)
  refine run 400 rfl ?_
  refine at_if rfl (fun _ => ?_) (fun q2 => by rw [hk] at q2; cases q2)
  refine run 400 rfl ?_
  refine at_gro (.tl 4 [tr u, tr v]) (doesG_build ty_ok _ rfl ⟨⟨rfl, rfl, _, rfl, SVles.refl _⟩, ⟨rfl, rfl, _, rfl, SVles.refl _⟩, trivial⟩ rfl rfl (by decide)) ?_
  refine run 400 rfl ?_
  refine at_fn (T2_fn 5 u v) rfl ?_
  refine run 400 rfl ?_
  exact at_ret rfl rfl (rsO l res c r) ⟨rfl, rfl⟩ ⟨rfl, rfl, trivial⟩
theorem one_mac_no (l res : List Tm) (c r : Nat) (m : Mv) (hk : m.k = 8) (h : inF m.a res.length = false) : Contract Try.prog 60 2 (rsO l res c r) [.ptr 0 0, m.sv] fun s post => s = .tup [zSV, I 8] ∧ post = rsO l res c r := by
  have ha := at_no_fn l res c r m.a h
  by_cases hb : inF m.b res.length = true
  · refine contract_of ty_ok [3, 4, 5, 6, 7] Try.func60 rfl (by decide) Try.ntmps60 rfl fun z => ?_
    refine run 400 rfl ?_
    refine at_false 15 rfl (by rw [hk]; rfl) ?_
    refine run 400 rfl ?_
    refine at_ifd rfl (fun q2 => by omega) (fun _ => ?_)
    refine run 400 rfl ?_
    refine at_drawn 19 rfl rfl [(2, .no)] [20, 21, 22] rfl (by rw [hk]; rfl) ?_
    refine run 400 rfl ?_
    refine at_if rfl (fun q2 => by rw [hk] at q2; cases q2) (fun _ => ?_)
    refine run 400 rfl ?_
    refine at_if rfl (fun q2 => by rw [hk] at q2; cases q2) (fun _ => ?_)
    refine run 400 rfl ?_
    refine at_callF [0, 1] (ha) rfl ⟨rfl, rfl, trivial⟩ rfl rfl rfl ?_
    refine run 400 rfl ?_
    refine at_callF [0, 1] (at_yes_fn l res c r m.b hb) rfl ⟨rfl, rfl, trivial⟩ rfl rfl rfl ?_
    refine run 400 rfl ?_
    refine at_true 77 rfl (by rw [hk]; rfl) ?_
    refine run 400 rfl ?_
    exact at_ret rfl rfl (rsO l res c r) ⟨rfl, rfl⟩ ⟨rfl, rfl, trivial⟩
  · refine contract_of ty_ok [3, 4, 5, 6, 7] Try.func60 rfl (by decide) Try.ntmps60 rfl fun z => ?_
    refine run 400 rfl ?_
    refine at_false 15 rfl (by rw [hk]; rfl) ?_
    refine run 400 rfl ?_
    refine at_ifd rfl (fun q2 => by omega) (fun _ => ?_)
    refine run 400 rfl ?_
    refine at_drawn 19 rfl rfl [(2, .no)] [20, 21, 22] rfl (by rw [hk]; rfl) ?_
    refine run 400 rfl ?_
    refine at_if rfl (fun q2 => by rw [hk] at q2; cases q2) (fun _ => ?_)
    refine run 400 rfl ?_
    refine at_if rfl (fun q2 => by rw [hk] at q2; cases q2) (fun _ => ?_)
    refine run 400 rfl ?_
    refine at_callF [0, 1] (ha) rfl ⟨rfl, rfl, trivial⟩ rfl rfl rfl ?_
    refine run 400 rfl ?_
    refine at_callF [0, 1] (at_no_fn l res c r m.b (by simpa using hb)) rfl ⟨rfl, rfl, trivial⟩ rfl rfl rfl ?_
    refine run 400 rfl ?_
    refine at_true 77 rfl (by rw [hk]; rfl) ?_
    refine run 400 rfl ?_
    exact at_ret rfl rfl (rsO l res c r) ⟨rfl, rfl⟩ ⟨rfl, rfl, trivial⟩
theorem one_mac_no2 (l res : List Tm) (c r : Nat) (m : Mv) (hk : m.k = 8) (h : inF m.a res.length = true) (hb : inF m.b res.length = false) : Contract Try.prog 60 2 (rsO l res c r) [.ptr 0 0, m.sv] fun s post => s = .tup [zSV, I 8] ∧ post = rsO l res c r := by
  have ha := at_yes_fn l res c r m.a h
  have hc := at_no_fn l res c r m.b hb
  generalize res.getD m.a.toNat .zero = u at ha
  refine contract_of ty_ok [3, 4, 5, 6, 7] Try.func60 rfl (by decide) Try.ntmps60 rfl fun z => ?_
  refine run 400 rfl ?_
  refine at_false 15 rfl (by rw [hk]; rfl) ?_
  refine run 400 rfl ?_
  refine at_ifd rfl (fun q2 => by omega) (fun _ => ?_)
  refine run 400 rfl ?_
  refine at_drawn 19 rfl rfl [(2, .no)] [20, 21, 22] rfl (by rw [hk]; rfl) ?_
  refine run 400 rfl ?_
  refine at_if rfl (fun q2 => by rw [hk] at q2; cases q2) (fun _ => ?_)
  refine run 400 rfl ?_
  refine at_if rfl (fun q2 => by rw [hk] at q2; cases q2) (fun _ => ?_)
  refine run 400 rfl ?_
  refine at_callF [0, 1] (ha) rfl ⟨rfl, rfl, trivial⟩ rfl rfl rfl ?_
  refine run 400 rfl ?_
  refine at_callF [0, 1] (hc) rfl ⟨rfl, rfl, trivial⟩ rfl rfl rfl ?_
  refine run 400 rfl ?_
  refine at_true 77 rfl (by rw [hk]; rfl) ?_
  refine run 400 rfl ?_
  exact at_ret rfl rfl (rsO l res c r) ⟨rfl, rfl⟩ ⟨rfl, rfl, trivial⟩
theorem one_sig (l res : List Tm) (c r : Nat) (m : Mv) (hk : m.k = 9) (h : inF m.a res.length = true) (hb : inF m.b res.length = true) : Contract Try.prog 60 2 (rsO l res c r) [.ptr 0 0, m.sv] fun s post => s = .tup [(Tm.mk 6 0 .empty [res.getD m.a.toNat .zero, res.getD m.b.toNat .zero]).sv, I 0] ∧ post = rsO l res c r := by
  have ha := at_yes_fn l res c r m.a h
  have hc := at_yes_fn l res c r m.b hb
  generalize res.getD m.a.toNat .zero = u at ha
  generalize res.getD m.b.toNat .zero = v at hc
  refine contract_of ty_ok [3, 4, 5, 6, 7] Try.func60 rfl (by decide) Try.ntmps60 rfl fun z => ?_
  refine run 400 rfl ?_
  refine at_false 15 rfl (by rw [hk]; rfl) ?_
  refine run 400 rfl ?_
  refine at_ifd rfl (fun q2 => by omega) (fun _ => ?_)
  refine run 400 rfl ?_
  refine at_drawn 19 rfl rfl [(2, .no)] [20, 21, 22] rfl (by rw [hk]; rfl) ?_
  refine run 400 rfl ?_
  refine at_if rfl (fun q2 => by rw [hk] at q2; cases q2) (fun _ => ?_)
  refine run 400 rfl ?_
  refine at_if rfl (fun q2 => by rw [hk] at q2; cases q2) (fun _ => ?_)
  refine run 400 rfl ?_
  refine at_callF [0, 1] (ha) rfl ⟨rfl, rfl, trivial⟩ rfl rfl rfl ?_
  refine run 400 rfl ?_
  refine at_callF [0, 1] (hc) rfl ⟨rfl, rfl, trivial⟩ rfl rfl rfl ?_
  refine run 400 rfl ?_
  refine at_false 77 rfl (by rw [hk]; rfl) ?_
  refine run 400 rfl ?_
  refine at_true 82 rfl (by rw [hk]; rfl) ?_
  refine run 400 rfl ?_
  refine at_if rfl (fun q2 => by rw [hk] at q2; cases q2) (fun _ => ?_)
  refine run 400 rfl ?_
  refine at_if rfl (fun q2 => by rw [hk] at q2; cases q2) (fun _ => ?_)
  refine run 400 rfl ?_
  refine at_if rfl (fun q2 => by rw [hk] at q2; cases q2) (fun _ => ?_)
  refine run 400 rfl ?_
  refine at_if rfl (fun q2 => by rw [hk] at q2; cases q2) (fun _ => ?_)
  refine run 400 rfl ?_
  refine at_if rfl (fun q2 => by rw [hk] at q2; cases q2) (fun _ => ?_)
  refine run 400 rfl ?_
  refine at_if rfl (fun q2 => by rw [hk] at q2; cases q2) (fun _ => ?_)
  refine run 400 rfl ?_
  refine at_if rfl (fun _ => ?_) (fun q2 => by rw [hk] at q2; cases q2)
  refine run 400 rfl ?_
  refine at_gro (.tl 4 [tr u, tr v]) (doesG_build ty_ok _ rfl ⟨⟨rfl, rfl, _, rfl, SVles.refl _⟩, ⟨rfl, rfl, _, rfl, SVles.refl _⟩, trivial⟩ rfl rfl (by decide)) ?_
  refine run 400 rfl ?_
  refine at_fn (T2_fn 6 u v) rfl ?_
  refine run 400 rfl ?_
  exact at_ret rfl rfl (rsO l res c r) ⟨rfl, rfl⟩ ⟨rfl, rfl, trivial⟩
theorem one_sig_no (l res : List Tm) (c r : Nat) (m : Mv) (hk : m.k = 9) (h : inF m.a res.length = false) : Contract Try.prog 60 2 (rsO l res c r) [.ptr 0 0, m.sv] fun s post => s = .tup [zSV, I 8] ∧ post = rsO l res c r := by
  have ha := at_no_fn l res c r m.a h
  by_cases hb : inF m.b res.length = true
  · refine contract_of ty_ok [3, 4, 5, 6, 7] Try.func60 rfl (by decide) Try.ntmps60 rfl fun z => ?_
    refine run 400 rfl ?_
    refine at_false 15 rfl (by rw [hk]; rfl) ?_
    refine run 400 rfl ?_
    refine at_ifd rfl (fun q2 => by omega) (fun _ => ?_)
    refine run 400 rfl ?_
    refine at_drawn 19 rfl rfl [(2, .no)] [20, 21, 22] rfl (by rw [hk]; rfl) ?_
    refine run 400 rfl ?_
    refine at_if rfl (fun q2 => by rw [hk] at q2; cases q2) (fun _ => ?_)
    refine run 400 rfl ?_
    refine at_if rfl (fun q2 => by rw [hk] at q2; cases q2) (fun _ => ?_)
    refine run 400 rfl ?_
    refine at_callF [0, 1] (ha) rfl ⟨rfl, rfl, trivial⟩ rfl rfl rfl ?_
    refine run 400 rfl ?_
    refine at_callF [0, 1] (at_yes_fn l res c r m.b hb) rfl ⟨rfl, rfl, trivial⟩ rfl rfl rfl ?_
    refine run 400 rfl ?_
    refine at_false 77 rfl (by rw [hk]; rfl) ?_
    refine run 400 rfl ?_
    refine at_true 82 rfl (by rw [hk]; rfl) ?_
    refine run 400 rfl ?_
    exact at_ret rfl rfl (rsO l res c r) ⟨rfl, rfl⟩ ⟨rfl, rfl, trivial⟩
  · refine contract_of ty_ok [3, 4, 5, 6, 7] Try.func60 rfl (by decide) Try.ntmps60 rfl fun z => ?_
    refine run 400 rfl ?_
    refine at_false 15 rfl (by rw [hk]; rfl) ?_
    refine run 400 rfl ?_
    refine at_ifd rfl (fun q2 => by omega) (fun _ => ?_)
    refine run 400 rfl ?_
    refine at_drawn 19 rfl rfl [(2, .no)] [20, 21, 22] rfl (by rw [hk]; rfl) ?_
    refine run 400 rfl ?_
    refine at_if rfl (fun q2 => by rw [hk] at q2; cases q2) (fun _ => ?_)
    refine run 400 rfl ?_
    refine at_if rfl (fun q2 => by rw [hk] at q2; cases q2) (fun _ => ?_)
    refine run 400 rfl ?_
    refine at_callF [0, 1] (ha) rfl ⟨rfl, rfl, trivial⟩ rfl rfl rfl ?_
    refine run 400 rfl ?_
    refine at_callF [0, 1] (at_no_fn l res c r m.b (by simpa using hb)) rfl ⟨rfl, rfl, trivial⟩ rfl rfl rfl ?_
    refine run 400 rfl ?_
    refine at_false 77 rfl (by rw [hk]; rfl) ?_
    refine run 400 rfl ?_
    refine at_true 82 rfl (by rw [hk]; rfl) ?_
    refine run 400 rfl ?_
    exact at_ret rfl rfl (rsO l res c r) ⟨rfl, rfl⟩ ⟨rfl, rfl, trivial⟩
theorem one_sig_no2 (l res : List Tm) (c r : Nat) (m : Mv) (hk : m.k = 9) (h : inF m.a res.length = true) (hb : inF m.b res.length = false) : Contract Try.prog 60 2 (rsO l res c r) [.ptr 0 0, m.sv] fun s post => s = .tup [zSV, I 8] ∧ post = rsO l res c r := by
  have ha := at_yes_fn l res c r m.a h
  have hc := at_no_fn l res c r m.b hb
  generalize res.getD m.a.toNat .zero = u at ha
  refine contract_of ty_ok [3, 4, 5, 6, 7] Try.func60 rfl (by decide) Try.ntmps60 rfl fun z => ?_
  refine run 400 rfl ?_
  refine at_false 15 rfl (by rw [hk]; rfl) ?_
  refine run 400 rfl ?_
  refine at_ifd rfl (fun q2 => by omega) (fun _ => ?_)
  refine run 400 rfl ?_
  refine at_drawn 19 rfl rfl [(2, .no)] [20, 21, 22] rfl (by rw [hk]; rfl) ?_
  refine run 400 rfl ?_
  refine at_if rfl (fun q2 => by rw [hk] at q2; cases q2) (fun _ => ?_)
  refine run 400 rfl ?_
  refine at_if rfl (fun q2 => by rw [hk] at q2; cases q2) (fun _ => ?_)
  refine run 400 rfl ?_
  refine at_callF [0, 1] (ha) rfl ⟨rfl, rfl, trivial⟩ rfl rfl rfl ?_
  refine run 400 rfl ?_
  refine at_callF [0, 1] (hc) rfl ⟨rfl, rfl, trivial⟩ rfl rfl rfl ?_
  refine run 400 rfl ?_
  refine at_false 77 rfl (by rw [hk]; rfl) ?_
  refine run 400 rfl ?_
  refine at_true 82 rfl (by rw [hk]; rfl) ?_
  refine run 400 rfl ?_
  exact at_ret rfl rfl (rsO l res c r) ⟨rfl, rfl⟩ ⟨rfl, rfl, trivial⟩
theorem one_pair (l res : List Tm) (c r : Nat) (m : Mv) (hk : m.k = 10) (h : inF m.a res.length = true) (hb : inF m.b res.length = true) : Contract Try.prog 60 2 (rsO l res c r) [.ptr 0 0, m.sv] fun s post => s = .tup [(Tm.mk 7 0 .empty [res.getD m.a.toNat .zero, res.getD m.b.toNat .zero]).sv, I 0] ∧ post = rsO l res c r := by
  have ha := at_yes_fn l res c r m.a h
  have hc := at_yes_fn l res c r m.b hb
  generalize res.getD m.a.toNat .zero = u at ha
  generalize res.getD m.b.toNat .zero = v at hc
  refine contract_of ty_ok [3, 4, 5, 6, 7] Try.func60 rfl (by decide) Try.ntmps60 rfl fun z => ?_
  refine run 400 rfl ?_
  refine at_false 15 rfl (by rw [hk]; rfl) ?_
  refine run 400 rfl ?_
  refine at_ifd rfl (fun q2 => by omega) (fun _ => ?_)
  refine run 400 rfl ?_
  refine at_drawn 19 rfl rfl [(2, .no)] [20, 21, 22] rfl (by rw [hk]; rfl) ?_
  refine run 400 rfl ?_
  refine at_if rfl (fun q2 => by rw [hk] at q2; cases q2) (fun _ => ?_)
  refine run 400 rfl ?_
  refine at_if rfl (fun q2 => by rw [hk] at q2; cases q2) (fun _ => ?_)
  refine run 400 rfl ?_
  refine at_callF [0, 1] (ha) rfl ⟨rfl, rfl, trivial⟩ rfl rfl rfl ?_
  refine run 400 rfl ?_
  refine at_callF [0, 1] (hc) rfl ⟨rfl, rfl, trivial⟩ rfl rfl rfl ?_
  refine run 400 rfl ?_
  refine at_false 77 rfl (by rw [hk]; rfl) ?_
  refine run 400 rfl ?_
  refine at_false 82 rfl (by rw [hk]; rfl) ?_
  refine run 400 rfl ?_
  refine at_true 91 rfl (by rw [hk]; rfl) ?_
  refine run 400 rfl ?_
  refine at_if rfl (fun q2 => by rw [hk] at q2; cases q2) (fun _ => ?_)
  refine run 400 rfl ?_
  refine at_if rfl (fun q2 => by rw [hk] at q2; cases q2) (fun _ => ?_)
  refine run 400 rfl ?_
  refine at_if rfl (fun q2 => by rw [hk] at q2; cases q2) (fun _ => ?_)
  refine run 400 rfl ?_
  refine at_if rfl (fun q2 => by rw [hk] at q2; cases q2) (fun _ => ?_)
  refine run 400 rfl ?_
  refine at_if rfl (fun q2 => by rw [hk] at q2; cases q2) (fun _ => ?_)
  refine run 400 rfl ?_
  refine at_if rfl (fun q2 => by rw [hk] at q2; cases q2) (fun _ => ?_)
  refine run 400 rfl ?_
  refine at_if rfl (fun q2 => by rw [hk] at q2; cases q2) (fun _ => ?_)
  refine run 400 rfl ?_
  refine at_gro (.tl 4 [tr u, tr v]) (doesG_build ty_ok _ rfl ⟨⟨rfl, rfl, _, rfl, SVles.refl _⟩, ⟨rfl, rfl, _, rfl, SVles.refl _⟩, trivial⟩ rfl rfl (by decide)) ?_
  refine run 400 rfl ?_
  refine at_fn (T2_fn 7 u v) rfl ?_
  refine run 400 rfl ?_
  exact at_ret rfl rfl (rsO l res c r) ⟨rfl, rfl⟩ ⟨rfl, rfl, trivial⟩
theorem one_pair_no (l res : List Tm) (c r : Nat) (m : Mv) (hk : m.k = 10) (h : inF m.a res.length = false) : Contract Try.prog 60 2 (rsO l res c r) [.ptr 0 0, m.sv] fun s post => s = .tup [zSV, I 8] ∧ post = rsO l res c r := by
  have ha := at_no_fn l res c r m.a h
  by_cases hb : inF m.b res.length = true
  · refine contract_of ty_ok [3, 4, 5, 6, 7] Try.func60 rfl (by decide) Try.ntmps60 rfl fun z => ?_
    refine run 400 rfl ?_
    refine at_false 15 rfl (by rw [hk]; rfl) ?_
    refine run 400 rfl ?_
    refine at_ifd rfl (fun q2 => by omega) (fun _ => ?_)
    refine run 400 rfl ?_
    refine at_drawn 19 rfl rfl [(2, .no)] [20, 21, 22] rfl (by rw [hk]; rfl) ?_
    refine run 400 rfl ?_
    refine at_if rfl (fun q2 => by rw [hk] at q2; cases q2) (fun _ => ?_)
    refine run 400 rfl ?_
    refine at_if rfl (fun q2 => by rw [hk] at q2; cases q2) (fun _ => ?_)
    refine run 400 rfl ?_
    refine at_callF [0, 1] (ha) rfl ⟨rfl, rfl, trivial⟩ rfl rfl rfl ?_
    refine run 400 rfl ?_
    refine at_callF [0, 1] (at_yes_fn l res c r m.b hb) rfl ⟨rfl, rfl, trivial⟩ rfl rfl rfl ?_
    refine run 400 rfl ?_
    refine at_false 77 rfl (by rw [hk]; rfl) ?_
    refine run 400 rfl ?_
    refine at_false 82 rfl (by rw [hk]; rfl) ?_
    refine run 400 rfl ?_
    refine at_true 10 rfl (by rw [hk]; rfl) ?_
    refine run 400 rfl ?_
    exact at_ret rfl rfl (rsO l res c r) ⟨rfl, rfl⟩ ⟨rfl, rfl, trivial⟩
  · refine contract_of ty_ok [3, 4, 5, 6, 7] Try.func60 rfl (by decide) Try.ntmps60 rfl fun z => ?_
    refine run 400 rfl ?_
    refine at_false 15 rfl (by rw [hk]; rfl) ?_
    refine run 400 rfl ?_
    refine at_ifd rfl (fun q2 => by omega) (fun _ => ?_)
    refine run 400 rfl ?_
    refine at_drawn 19 rfl rfl [(2, .no)] [20, 21, 22] rfl (by rw [hk]; rfl) ?_
    refine run 400 rfl ?_
    refine at_if rfl (fun q2 => by rw [hk] at q2; cases q2) (fun _ => ?_)
    refine run 400 rfl ?_
    refine at_if rfl (fun q2 => by rw [hk] at q2; cases q2) (fun _ => ?_)
    refine run 400 rfl ?_
    refine at_callF [0, 1] (ha) rfl ⟨rfl, rfl, trivial⟩ rfl rfl rfl ?_
    refine run 400 rfl ?_
    refine at_callF [0, 1] (at_no_fn l res c r m.b (by simpa using hb)) rfl ⟨rfl, rfl, trivial⟩ rfl rfl rfl ?_
    refine run 400 rfl ?_
    refine at_false 77 rfl (by rw [hk]; rfl) ?_
    refine run 400 rfl ?_
    refine at_false 82 rfl (by rw [hk]; rfl) ?_
    refine run 400 rfl ?_
    refine at_true 10 rfl (by rw [hk]; rfl) ?_
    refine run 400 rfl ?_
    exact at_ret rfl rfl (rsO l res c r) ⟨rfl, rfl⟩ ⟨rfl, rfl, trivial⟩
theorem one_pair_no2 (l res : List Tm) (c r : Nat) (m : Mv) (hk : m.k = 10) (h : inF m.a res.length = true) (hb : inF m.b res.length = false) : Contract Try.prog 60 2 (rsO l res c r) [.ptr 0 0, m.sv] fun s post => s = .tup [zSV, I 8] ∧ post = rsO l res c r := by
  have ha := at_yes_fn l res c r m.a h
  have hc := at_no_fn l res c r m.b hb
  generalize res.getD m.a.toNat .zero = u at ha
  refine contract_of ty_ok [3, 4, 5, 6, 7] Try.func60 rfl (by decide) Try.ntmps60 rfl fun z => ?_
  refine run 400 rfl ?_
  refine at_false 15 rfl (by rw [hk]; rfl) ?_
  refine run 400 rfl ?_
  refine at_ifd rfl (fun q2 => by omega) (fun _ => ?_)
  refine run 400 rfl ?_
  refine at_drawn 19 rfl rfl [(2, .no)] [20, 21, 22] rfl (by rw [hk]; rfl) ?_
  refine run 400 rfl ?_
  refine at_if rfl (fun q2 => by rw [hk] at q2; cases q2) (fun _ => ?_)
  refine run 400 rfl ?_
  refine at_if rfl (fun q2 => by rw [hk] at q2; cases q2) (fun _ => ?_)
  refine run 400 rfl ?_
  refine at_callF [0, 1] (ha) rfl ⟨rfl, rfl, trivial⟩ rfl rfl rfl ?_
  refine run 400 rfl ?_
  refine at_callF [0, 1] (hc) rfl ⟨rfl, rfl, trivial⟩ rfl rfl rfl ?_
  refine run 400 rfl ?_
  refine at_false 77 rfl (by rw [hk]; rfl) ?_
  refine run 400 rfl ?_
  refine at_false 82 rfl (by rw [hk]; rfl) ?_
  refine run 400 rfl ?_
  refine at_true 91 rfl (by rw [hk]; rfl) ?_
  refine run 400 rfl ?_
  exact at_ret rfl rfl (rsO l res c r) ⟨rfl, rfl⟩ ⟨rfl, rfl, trivial⟩
end Go.Proofs.Ytmnmhehddbemkaa
namespace Go.Proofs.Ytmnmhehddbemkaa
open Go Go.Eng
set_option maxRecDepth 100000

theorem one_fn (l res : List Tm) (c r : Nat) (m : Mv) (hr : ∀ x ∈ res, Gd x) : Contract Try.prog 60 2 (rsO l res c r) [.ptr 0 0, m.sv] fun s post => s = oneS (oneF l res m) ∧ post = rsO l res c r := by
  have hkid : ∀ (n : Int) (q : Int), inF n res.length = true → (res.getD n.toNat .zero).k = q → ((res.getD n.toNat .zero).kids.length : Int) = kidsF q := by
    intro n q hn hq
    have h0 := inF_lt hn
    have hm := getD_mem (l := res) (n := n.toNat) (by omega)
    have := hr _ hm
    generalize res.getD n.toNat .zero = u at this hq
    cases this with
    | mk h1 h2 => rw [← hq]; exact h1
  by_cases hb : m.k < 1 ∨ 10 < m.k
  · have e : oneF l res m = (none, 2) := by
      have : readF m = none := by
        unfold readF
        repeat rw [if_neg (by omega)]
      rw [oneF, this]
    rw [e]
    exact one_bad l res c r m hb
  have hk : m.k = 1 ∨ m.k = 2 ∨ m.k = 3 ∨ m.k = 4 ∨ m.k = 5 ∨ m.k = 6 ∨ m.k = 7 ∨ m.k = 8 ∨ m.k = 9 ∨ m.k = 10 := by omega
  rcases hk with hk | hk | hk | hk | hk | hk | hk | hk | hk | hk
  · have er : readF m = some (.given m.a) := by unfold readF; rw [if_pos hk]
    cases hn : inF m.a l.length with
    | true =>
      have e : oneF l res m = (some (l.getD m.a.toNat .zero), 0) := by rw [oneF, er]; simp [nearF, hn, stepT]
      rw [e]; exact one_known l res c r m hk hn
    | false =>
      have e : oneF l res m = (none, 8) := by rw [oneF, er]; simp [nearF, hn]
      rw [e]; exact one_known_no l res c r m hk hn
  · have er : readF m = some (.atom m.s) := by unfold readF; rw [if_neg (by omega), if_pos hk]
    have e : oneF l res m = (some (.mk 1 0 m.s []), 0) := by rw [oneF, er]; simp [nearF, stepT]
    rw [e]; exact one_atom l res c r m hk
  · have er : readF m = some (.half m.a 7 0) := by unfold readF; rw [if_neg (by omega), if_neg (by omega), if_pos hk]
    cases hn : inF m.a res.length with
    | true =>
      by_cases hq : (res.getD m.a.toNat .zero).k = 7
      · have hl : ((res.getD m.a.toNat .zero).kids.length : Int) = 2 := hkid _ _ hn hq
        have e : oneF l res m = (some ((res.getD m.a.toNat .zero).kids.getD 0 .zero), 0) := by
          rw [oneF, er]
          dsimp only
          rw [nearF, if_pos hn, stepT, if_pos ⟨hq, by omega⟩]
          rfl
        rw [e]; exact one_left l res c r m hk hn hq (by omega)
      · have e : oneF l res m = (none, 3) := by
          rw [oneF, er]
          dsimp only
          rw [nearF, if_pos hn, stepT, if_neg (fun h => hq h.1)]
        rw [e]; exact one_left_form l res c r m hk hn hq
    | false =>
      have e : oneF l res m = (none, 8) := by
        rw [oneF, er]
        dsimp only
        rw [nearF, hn, if_neg (by decide)]
      rw [e]; exact one_left_no l res c r m hk hn
  · have er : readF m = some (.half m.a 7 1) := by unfold readF; rw [if_neg (by omega), if_neg (by omega), if_neg (by omega), if_pos hk]
    cases hn : inF m.a res.length with
    | true =>
      by_cases hq : (res.getD m.a.toNat .zero).k = 7
      · have hl : ((res.getD m.a.toNat .zero).kids.length : Int) = 2 := hkid _ _ hn hq
        have e : oneF l res m = (some ((res.getD m.a.toNat .zero).kids.getD 1 .zero), 0) := by
          rw [oneF, er]
          dsimp only
          rw [nearF, if_pos hn, stepT, if_pos ⟨hq, by omega⟩]
          rfl
        rw [e]; exact one_right l res c r m hk hn hq (by omega)
      · have e : oneF l res m = (none, 3) := by
          rw [oneF, er]
          dsimp only
          rw [nearF, if_pos hn, stepT, if_neg (fun h => hq h.1)]
        rw [e]; exact one_right_form l res c r m hk hn hq
    | false =>
      have e : oneF l res m = (none, 8) := by
        rw [oneF, er]
        dsimp only
        rw [nearF, hn, if_neg (by decide)]
      rw [e]; exact one_right_no l res c r m hk hn
  · have er : readF m = some (.half m.a 6 1) := by unfold readF; rw [if_neg (by omega), if_neg (by omega), if_neg (by omega), if_neg (by omega), if_pos hk]
    cases hn : inF m.a res.length with
    | true =>
      by_cases hq : (res.getD m.a.toNat .zero).k = 6
      · have hl : ((res.getD m.a.toNat .zero).kids.length : Int) = 2 := hkid _ _ hn hq
        have e : oneF l res m = (some ((res.getD m.a.toNat .zero).kids.getD 1 .zero), 0) := by
          rw [oneF, er]
          dsimp only
          rw [nearF, if_pos hn, stepT, if_pos ⟨hq, by omega⟩]
          rfl
        rw [e]; exact one_open l res c r m hk hn hq (by omega)
      · have e : oneF l res m = (none, 3) := by
          rw [oneF, er]
          dsimp only
          rw [nearF, if_pos hn, stepT, if_neg (fun h => hq h.1)]
        rw [e]; exact one_open_form l res c r m hk hn hq
    | false =>
      have e : oneF l res m = (none, 8) := by
        rw [oneF, er]
        dsimp only
        rw [nearF, hn, if_neg (by decide)]
      rw [e]; exact one_open_no l res c r m hk hn
  · have er : readF m = some (.one 3 m.a) := by unfold readF; rw [if_neg (by omega), if_neg (by omega), if_neg (by omega), if_neg (by omega), if_neg (by omega), if_pos hk]
    cases hn : inF m.a res.length with
    | true =>
      have e : oneF l res m = (some (.mk 3 0 .empty [res.getD m.a.toNat .zero]), 0) := by
        rw [oneF, er]
        dsimp only
        rw [nearF, if_pos hn, stepT]
      rw [e]; exact one_hash l res c r m hk hn
    | false =>
      have e : oneF l res m = (none, 8) := by
        rw [oneF, er]
        dsimp only
        rw [nearF, hn, if_neg (by decide)]
      rw [e]; exact one_hash_no l res c r m hk hn
  · have er : readF m = some (.one 4 m.a) := by unfold readF; rw [if_neg (by omega), if_neg (by omega), if_neg (by omega), if_neg (by omega), if_neg (by omega), if_neg (by omega), if_pos hk]
    cases hn : inF m.a res.length with
    | true =>
      have e : oneF l res m = (some (.mk 4 0 .empty [res.getD m.a.toNat .zero]), 0) := by
        rw [oneF, er]
        dsimp only
        rw [nearF, if_pos hn, stepT]
      rw [e]; exact one_pub l res c r m hk hn
    | false =>
      have e : oneF l res m = (none, 8) := by
        rw [oneF, er]
        dsimp only
        rw [nearF, hn, if_neg (by decide)]
      rw [e]; exact one_pub_no l res c r m hk hn
  · have er : readF m = some (.two 5 m.a m.b) := by unfold readF; rw [if_neg (by omega), if_neg (by omega), if_neg (by omega), if_neg (by omega), if_neg (by omega), if_neg (by omega), if_neg (by omega), if_pos hk]
    cases hn : inF m.a res.length with
    | true =>
      cases hn2 : inF m.b res.length with
      | true =>
        have e : oneF l res m = (some (.mk 5 0 .empty [res.getD m.a.toNat .zero, res.getD m.b.toNat .zero]), 0) := by
          rw [oneF, er]
          dsimp only
          rw [nearF, hn, hn2, if_pos (by decide), stepT]
        rw [e]; exact one_mac l res c r m hk hn hn2
      | false =>
        have e : oneF l res m = (none, 8) := by
          rw [oneF, er]
          dsimp only
          rw [nearF, hn, hn2, if_neg (by decide)]
        rw [e]; exact one_mac_no2 l res c r m hk hn hn2
    | false =>
      have e : oneF l res m = (none, 8) := by
        rw [oneF, er]
        dsimp only
        rw [nearF, hn, Bool.false_and, if_neg (by decide)]
      rw [e]; exact one_mac_no l res c r m hk hn
  · have er : readF m = some (.two 6 m.a m.b) := by unfold readF; rw [if_neg (by omega), if_neg (by omega), if_neg (by omega), if_neg (by omega), if_neg (by omega), if_neg (by omega), if_neg (by omega), if_neg (by omega), if_pos hk]
    cases hn : inF m.a res.length with
    | true =>
      cases hn2 : inF m.b res.length with
      | true =>
        have e : oneF l res m = (some (.mk 6 0 .empty [res.getD m.a.toNat .zero, res.getD m.b.toNat .zero]), 0) := by
          rw [oneF, er]
          dsimp only
          rw [nearF, hn, hn2, if_pos (by decide), stepT]
        rw [e]; exact one_sig l res c r m hk hn hn2
      | false =>
        have e : oneF l res m = (none, 8) := by
          rw [oneF, er]
          dsimp only
          rw [nearF, hn, hn2, if_neg (by decide)]
        rw [e]; exact one_sig_no2 l res c r m hk hn hn2
    | false =>
      have e : oneF l res m = (none, 8) := by
        rw [oneF, er]
        dsimp only
        rw [nearF, hn, Bool.false_and, if_neg (by decide)]
      rw [e]; exact one_sig_no l res c r m hk hn
  · have er : readF m = some (.two 7 m.a m.b) := by unfold readF; rw [if_neg (by omega), if_neg (by omega), if_neg (by omega), if_neg (by omega), if_neg (by omega), if_neg (by omega), if_neg (by omega), if_neg (by omega), if_neg (by omega), if_pos hk]
    cases hn : inF m.a res.length with
    | true =>
      cases hn2 : inF m.b res.length with
      | true =>
        have e : oneF l res m = (some (.mk 7 0 .empty [res.getD m.a.toNat .zero, res.getD m.b.toNat .zero]), 0) := by
          rw [oneF, er]
          dsimp only
          rw [nearF, hn, hn2, if_pos (by decide), stepT]
        rw [e]; exact one_pair l res c r m hk hn hn2
      | false =>
        have e : oneF l res m = (none, 8) := by
          rw [oneF, er]
          dsimp only
          rw [nearF, hn, hn2, if_neg (by decide)]
        rw [e]; exact one_pair_no2 l res c r m hk hn hn2
    | false =>
      have e : oneF l res m = (none, 8) := by
        rw [oneF, er]
        dsimp only
        rw [nearF, hn, Bool.false_and, if_neg (by decide)]
      rw [e]; exact one_pair_no l res c r m hk hn

/-- The document's run. -/
def runR (l : List Tm) : List Mv → List Tm → List Tm × Int
  | [], acc => (acc, 0)
  | m :: ms, acc => match oneF l acc m with
    | (some t, _) => if mayF t then runR l ms (acc ++ [t]) else ([], 3)
    | (none, e) => ([], e)
theorem runR_eq (l : List Tm) : ∀ (ms : List Mv) (acc : List Tm), runR l ms acc = runG l ms acc
  | [], _ => by rw [runR, runG]
  | m :: ms, acc => by
    cases hr : readF m with
    | none => simp only [runR, runG, oneF, hr]
    | some s =>
      by_cases hn : nearF s acc.length l.length = true
      · cases hs : stepT l acc s with
        | none => simp only [runR, runG, oneF, hr, if_pos hn, doesF, hs]
        | some t =>
          cases hm : mayF t with
          | true => simp only [runR, runG, oneF, hr, if_pos hn, doesF, hs, hm, if_true]; exact runR_eq l ms _
          | false => simp [runR, runG, oneF, hr, hn, doesF, hs, hm]
      · simp [runR, runG, oneF, hr, hn]
end Go.Proofs.Ytmnmhehddbemkaa
/- The proof engine: two names change places. -/
namespace Go.Eng

def swpN (a b : Nat) : Nat → Nat := fun k => bif Nat.beq k a then b else bif Nat.beq k b then a else k
theorem swpN_swpN (a b k : Nat) : swpN a b (swpN a b k) = k := by
  unfold swpN
  cases h1 : Nat.beq k a with
  | true =>
    have e := beq_true h1
    subst e
    simp only [cond_true]
    cases h2 : Nat.beq b k with
    | true => simpa using beq_true h2
    | false => simp
  | false =>
    simp only [cond_false]
    cases h2 : Nat.beq k b with
    | true =>
      have e := beq_true h2
      subst e
      simp only [cond_true]
      simp
    | false => simp [h1, h2]

mutual
theorem ren_ren {r : Nat → Nat} (hr : ∀ k, r (r k) = k) : ∀ s : SV, ren r (ren r s) = s
  | .int _ _ => rfl
  | .bl _ => rfl
  | .tt => rfl
  | .ff => rfl
  | .str _ => rfl
  | .val _ => rfl
  | .lst _ _ => rfl
  | .gl k _ _ => by simp only [ren, hr]
  | .tl _ _ => rfl
  | .arr k _ => by simp only [ren, hr]
  | .sl k _ _ _ => by simp only [ren, hr]
  | .mp k => by simp only [ren, hr]
  | .ptr k _ => by simp only [ren, hr]
  | .rp _ _ => rfl
  | .agg l => by simp only [ren, rens_rens hr l]
  | .tup l => by simp only [ren, rens_rens hr l]
  | .clo _ l => by simp only [ren, rens_rens hr l]
  | .any => rfl
theorem rens_rens {r : Nat → Nat} (hr : ∀ k, r (r k) = k) : ∀ l : List SV, rens r (rens r l) = l
  | [] => rfl
  | s :: l => by simp only [rens, ren_ren hr s, rens_rens hr l]
end

def renE (r : Nat → Nat) : List (Nat × SV) → List (Nat × SV)
  | [] => []
  | (t, s) :: l => (t, ren r s) :: renE r l
theorem nth_renE (r : Nat → Nat) : ∀ (env : List (Nat × SV)) (t : Nat), nth (renE r env) t = ren r (nth env t)
  | [], _ => rfl
  | (i, s) :: l, t => by
    simp only [renE, nth]
    cases Nat.beq i t with
    | true => rfl
    | false => exact nth_renE r l t

theorem ownq_mapO' {r : Nat → Nat} (hr : ∀ k, r (r k) = k) : ∀ (l : List (Nat × SO)) (j : Nat), ownq (mapO r l) j = (ownq l (r j)).map (renO r)
  | [], _ => rfl
  | (k, o) :: l, j => by
    simp only [mapO, ownq]
    have e : Nat.beq (r k) j = Nat.beq k (r j) := by
      cases h1 : Nat.beq (r k) j with
      | true =>
        have := beq_true h1
        subst this
        rw [hr]; simp
      | false =>
        cases h2 : Nat.beq k (r j) with
        | false => rfl
        | true =>
          have := beq_true h2
          subst this
          rw [hr] at h1
          simp at h1
    rw [e]
    cases Nat.beq k (r j) with
    | true => rfl
    | false => exact ownq_mapO' hr l j

theorem at_swap {E : Stc} {m : Md} {s : List Fr} {env : List (Nat × SV)} {own : List (Nat × SO)} {nx : List Nat} (a b : Nat) (kk : Sat E m s (renE (swpN a b) env) (mapO (swpN a b) own) nx) (ha : Nat.ble E.cx.m0 a = true := by rfl) (hb : Nat.ble E.cx.m0 b = true := by rfl) : Sat E m s env own nx := by
  refine sat_mono (fun ac w h => ?_) kk
  obtain ⟨hdf, g, H, hd⟩ := h
  have hr := swpN_swpN a b
  have ha := Nat.le_of_ble_eq_true ha
  have hb := Nat.le_of_ble_eq_true hb
  have den : ∀ s x, Den g H s x → Den (fun k => g (swpN a b k)) H (ren (swpN a b) s) x := fun s x h =>
    Den.unren (g := fun k => g (swpN a b k)) (g' := g) (r := swpN a b) (fun _ => rfl) (ren (swpN a b) s) x (by rw [ren_ren hr]; exact h)
  have dens : ∀ l xs, Dens g H l xs → Dens (fun k => g (swpN a b k)) H (rens (swpN a b) l) xs := fun l xs h =>
    Dens.unren (g := fun k => g (swpN a b k)) (g' := g) (r := swpN a b) (fun _ => rfl) (rens (swpN a b) l) xs (by rw [rens_rens hr]; exact h)
  have hfix : ∀ k, k < E.cx.m0 → swpN a b k = k := fun k hk => by
    unfold swpN
    have h1 : Nat.beq k a = false := by
      cases h : Nat.beq k a with
      | false => rfl
      | true => have := beq_true h; omega
    have h2 : Nat.beq k b = false := by
      cases h : Nat.beq k b with
      | false => rfl
      | true => have := beq_true h; omega
    simp [h1, h2]
  refine ⟨hdf, fun k => g (swpN a b k), H, { size := hd.size, den := fun t => by rw [nth_renE]; exact den _ _ (hd.den t), ok := fun k o hk => ?_, inj := fun i j hi hj c hci hcj => ?_, hp := hd.hp, base := { hd.base with fix := fun k hk => by show g (swpN a b k) = _; rw [hfix k hk]; exact hd.base.fix k hk } }⟩
  · rw [ownq_mapO' hr] at hk
    cases ho : ownq own (swpN a b k) with
    | none => rw [ho] at hk; cases hk
    | some so =>
      rw [ho] at hk
      simp only [Option.map_some, Option.some.injEq] at hk
      subst hk
      have := hd.ok _ _ ho
      cases so with
      | cells ty cs =>
        obtain ⟨b, vs, e, h1, h2⟩ := this
        exact ⟨b, vs, e, dens cs vs h1, h2⟩
      | tok sz => exact this
      | obj f => exact this
      | buf rw nn =>
        rcases this with ⟨ty, b, ws, e, h1, h2⟩ | h
        · exact .inl ⟨ty, b, ws, e, Dens.plain g _ H rw nn ws h1, h2⟩
        · exact .inr h
  · have key : ∀ i, (ownq (mapO (swpN a b) own) i).isSome = true → (ownq own (swpN a b i)).isSome = true := fun i hi => by
      rw [ownq_mapO' hr] at hi
      simpa using hi
    have e := hd.inj _ _ (key i hi) (key j hj) c hci hcj
    have := congrArg (swpN a b) e
    rw [hr, hr] at this
    exact this
end Go.Eng
