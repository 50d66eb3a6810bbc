/- The proof engine, part 14e: lists that grow, in order. -/
import Derived.Test.YtmnmhehddbemkaaMk
import Derived.Test.YtmnmhehddbemkaaDrawn
namespace Go.Eng

/-- A list's token is gone: it may be read. -/
def degE (k : Nat) : List (Nat × SV) → List (Nat × SV)
  | [] => []
  | (t, s) :: l => match s with
    | .gl j sz rows => bif Nat.beq j k then (t, .lst sz rows) :: degE k l else (t, s) :: degE k l
    | s => (t, s) :: degE k l

theorem degE_le (k : Nat) : ∀ env : List (Nat × SV), leE env (degE k env)
  | [], _ => SVle.refl _
  | (i, x) :: l, t => by
    have ih := degE_le k l t
    unfold degE
    split
    · rename_i j sz rows
      cases hb : Nat.beq j k with
      | true =>
        simp only [cond_true, nth]
        cases Nat.beq i t with
        | true => exact SVle.gl _ _ _
        | false => exact ih
      | false =>
        simp only [cond_false, nth]
        cases Nat.beq i t with
        | true => exact SVle.refl _
        | false => exact ih
    · simp only [nth]
      cases Nat.beq i t with
      | true => exact SVle.refl _
      | false => exact ih

def lessK {α : Type} (k : Nat) : List (Nat × SO) → (List (Nat × SO) → α) → α
  | [], c => c []
  | (i, x) :: l, c => lessK k l fun r => bif Nat.beq i k then c r else c ((i, x) :: r)

theorem lessK_eq {α : Type} (k : Nat) : ∀ (l : List (Nat × SO)) (c : List (Nat × SO) → α), lessK k l c = c (rm1 k l)
  | [], _ => rfl
  | (i, x) :: l, c => by
    simp only [lessK, rm1, lessK_eq k l]
    cases Nat.beq i k <;> rfl

theorem rm1_less (k : Nat) (l : List (Nat × SO)) : lessO k l (rm1 k l) := fun j o h =>
  ⟨fun e => (by subst e; rw [rm1_none] at h; cases h), rm1_own h⟩

/-- The rear part of a list keeps the room. -/
theorem doesU_slice_l {P : Program} {env : List (Nat × SV)} {own : List (Nat × SO)} {T : Nat → TI} (hT : ∀ t, T t = tiOf P t) {o : Oper} {t sz kk : Nat} {x lo : Operand} {rows : List (List DV)} {k : IntKind} {n : Int} (ho : o.op = .slice t x (some lo) none none) (hx : ev env x = .gl kk sz rows) (hh : ev env lo = .int k n)
    (h0 : 0 ≤ n ∧ n ≤ rows.length) (hkT : lstT T t sz = true) : DoesU P o env own kk sz (rows.drop n.toNat) := by
  have hx' : lstv (ev env x) = some (sz, rows) := by rw [hx]; rfl
  obtain ⟨hk, hz, hk2, _⟩ := lstT_spec hT hkT
  obtain ⟨i1, h1⟩ := slice_ti hk
  obtain ⟨i2, d2, h2⟩ := ti_spec hk2
  have he := prog_elem h1.und
  intro cx g H q own' own2 env' a w hd hd' htok hless
  obtain ⟨ad, c, e1, hc, hn, hp⟩ := lstv_den hx' (hd.ev x)
  have e2 := hd.ev lo
  rw [hh] at e2
  have e2 : a.eval lo = .int k n := e2
  have hu : P.underlying t = some (.slice (P.elem t)) := by rw [he]; exact h1.und
  have key := sliced_den hc hn hp (l := n.toNat) (h := rows.length) (m := c) (by omega) (by omega) (by omega) (Nat.le_refl _)
  have hs := h2.size
  rw [hz] at hs
  have eg := (show DenD H (.lst sz rows) (a.eval x) ∧ a.eval x = g kk by have := hd.ev x; rw [hx] at this; exact this).2
  obtain ⟨ad', n', c', eg', ht1, ht2, ht3⟩ := hd'.ok kk _ htok
  rw [← eg, e1] at eg'
  simp only [Value.slice.injEq] at eg'
  obtain ⟨rfl, rfl, rfl⟩ := eg'
  have hother : ∀ p, ad = some p → rows.length < c → ∀ j o, ownq own' j = some o → j ≠ kk → blkOf (g j) ≠ some p.block := by
    intro p hp hlt j o hj hne e
    refine hne (hd'.inj j kk (by rw [hj]; rfl) (by rw [htok]; rfl) p.block e ?_)
    rw [← eg, e1, hp]
    simp [blkOf, Nat.blt_eq.mpr hlt]
  refine ⟨sliced ad n.toNat rows.length c sz, w, H, ?_, by rw [List.take_of_length_le (by simp)] at key; exact key, hd'.lessO hless, ?_⟩
  · simp [execOp, ho, e1, e2, run_sliceAt_slice w t _ _ _ _ hu, run_slice_l w t ad rows.length c hu k n h0.1 h0.2, he, run_sizeOf' h2.info, ← hs]
  · refine ⟨if c = n.toNat then ad else ad.map (·.add (n.toNat * sz)), rows.length - n.toNat, c - n.toNat, rfl, fun e => ?_, by omega, fun p hpa hlt => ?_⟩
    · have hnone : ad = none := by
        split at e
        · exact e
        · simpa using e
      obtain ⟨e3, e4⟩ := hn hnone
      subst e3
      exact ⟨by simp, by omega⟩
    · rw [if_neg (by omega)] at hpa
      cases had : ad with
      | none => rw [had] at hpa; simp at hpa
      | some r =>
        obtain ⟨t1, t2, cs, ty, t3, t4, t5⟩ := ht3 r had (by omega)
        rw [had] at hpa
        simp only [Option.map_some, Option.some.injEq] at hpa
        have hoth := hother r had (by omega)
        obtain ⟨b, off, spot⟩ := r
        simp only at t1 t2 t3 t4 t5 hoth
        subst t1
        rw [addr_add] at hpa
        subst hpa
        have hmul : n.toNat * sz ≤ c * sz := Nat.mul_le_mul_right _ (by omega)
        have hmul2 : n.toNat * sz ≤ rows.length * sz := Nat.mul_le_mul_right _ (by omega)
        refine ⟨rfl, ⟨t2, fun j o hj => hoth j o (hless j o hj).2 (hless j o hj).1⟩, cs, ty, t3, ?_, fun j hj => t5 j ?_⟩
        · simp only [Nat.sub_mul]
          omega
        · simp only [Nat.sub_mul] at hj
          omega

/-- A list is made that is empty, with room. -/
theorem doesT_make0 {P : Program} {env : List (Nat × SV)} {own : List (Nat × SO)} {T : Nat → TI} (hT : ∀ t, T t = tiOf P t) {o : Oper} {t sz : Nat} {x y : Operand} {kx ky : IntKind} {n : Int} (ho : o.op = .makeSlice t x y) (hx : ev env x = .int kx 0) (hy : ev env y = .int ky n)
    (h0 : 0 ≤ n) (hb : ((T (T t).elem).bytes : Int) * n ≤ 281474976710656) (h63 : n ≤ 9223372036854775807) (hkT : lstT T t sz = true) : DoesT P o env own sz [] := by
  obtain ⟨hk, hz, hk2, hz2, hz0⟩ := lstT_spec hT hkT
  rw [hT (T t).elem, hT t] at hb
  intro cx g H nn own' env' a w hd hd'
  obtain ⟨i1, h1⟩ := slice_ti hk
  obtain ⟨i2, d2, h2⟩ := ti_spec hk2
  obtain ⟨z, hz3, hz4⟩ := zero_spec h2 hz2
  have hzs : z.cells.size = sz := by rw [← hz0, hz4, Array.length_toList]
  have hsz : sz = i2.size := by rw [← hz, h2.size]
  rw [h2.bytes] at hb
  have e1 : a.eval x = .int kx 0 := by have := hd.ev x; rw [hx] at this; exact this
  have e2 : a.eval y = .int ky n := by have := hd.ev y; rw [hy] at this; exact this
  have hr := run_make (P := P) w t _ i2 z h1.und h2.info hz3 kx ky 0 n (Int.le_refl _) h0 hb h63
  have hg := hd'.grown (w' := w.alloc (.cells (madeCells z.cells (n.toNat * i2.size)) (tiOf P t).elem)) rfl rfl rfl (by simp) (fun b hb => heap_alloc_lt w _ hb) (frozen_alloc w _ _)
  refine ⟨.slice (some ⟨w.heap.size, 0, none⟩) (0 : Int).toNat n.toNat, _, H, ?_, ⟨some ⟨w.heap.size, 0, none⟩, n.toNat, rfl, Nat.zero_le _, fun e => (by cases e), fun p _ => ⟨.inl rfl, trivial⟩⟩, hg, ?_⟩
  · simp [execOp, ho, e1, e2, hr]
  · refine ⟨some ⟨w.heap.size, 0, none⟩, 0, n.toNat, rfl, fun e => (by cases e), Nat.zero_le _, fun p hp _ => ?_⟩
    simp only [Option.some.injEq] at hp
    subst hp
    refine ⟨rfl, Nat.le_refl _, _, _, heap_alloc_new w _, ?_, fun j _ => Hp.on_new hd'.hp j⟩
    rw [size_madeCells, hsz]
    simp

/-- Where a part of a made list stands. -/
theorem does_indexArr {P : Program} {env : List (Nat × SV)} {own : List (Nat × SO)} {T : Nat → TI} (hT : ∀ t, T t = tiOf P t) {o : Oper} {t sz k m : Nat} {x i : Operand} {kk : IntKind} {n : Int} (ho : o.op = .indexAddr t x i) (hx : ev env x = .arr k m) (hi : ev env i = .int kk n)
    (h0 : 0 ≤ n ∧ n < m) (hkT : lstT T t sz = true) : DoesV P o env own (.ptr k (n.toNat * sz)) := by
  obtain ⟨hk, hz, hk2, _⟩ := lstT_spec hT hkT
  obtain ⟨i1, h1⟩ := slice_ti hk
  obtain ⟨i2, d2, h2⟩ := ti_spec hk2
  refine does_val fun cx g H q a w hd => ?_
  have e1 := hd.ev x
  rw [hx] at e1
  obtain ⟨b, hg, e1⟩ := e1
  have e2 := hd.ev i
  rw [hi] at e2
  have e2 : a.eval i = .int kk n := e2
  refine ⟨.pointer (some ⟨b, n.toNat * sz, none⟩), ?_, b, hg, rfl⟩
  simp [execOp, ho, e1, e2, Instr.indexAt, asIntOf, run_underlying h1.und, h0, run_sizeOf' h2.info, ← h2.size, hz, addr_add]

section
variable {E : Stc} {all rest : List Oper} {o : Oper} {s : List Fr} {env : List (Nat × SV)} {own own2 : List (Nat × SO)} {nx : List Nat} {m : Md}

theorem wanted_of (hg : guardK all o.guard env true false false = true) : ∀ a w, At E env own a w → Region.wanted o (yielded all.toArray a.tmps) = true := by
  rcases guardK_wanted (E := E) (all := all) (o := o) (env := env) (own := own) (yes := true) (no := false) (stuck := false) with ⟨_, hw⟩ | ⟨h, _⟩ | h
  · exact hw
  · rw [hg] at h; cases h
  · rw [hg] at h; cases h

/-- A list that has room of its own grows: its name may stay. -/
theorem at_grow (k k' sz : Nat) (rows : List (List DV)) (hk : ownq own k = some (.tok sz)) (h : DoesU E.P o env own k sz rows) (ho : lessK k own some = some own2) (kk : Sat E (.ops all rest) s (put o.dst (.gl k' sz rows) (degE k env)) ((k', .tok sz) :: own2) nx)
    (hm : Nat.ble E.cx.m0 k' = true := by rfl) (hE : freshE k' (degE k env) = true := by rfl) (hO : freshO k' own2 = true := by rfl)
    (hg : guardK all o.guard env true false false = true := by rfl) (hd : dstLt o.dst E.n = true := by rfl) : Sat E (.ops all (o :: rest)) s env own nx := by
  intro a w hat
  have hwant := wanted_of (E := E) (own := own) hg a w hat
  rw [lessK_eq] at ho
  simp only [Option.some.injEq] at ho
  subst ho
  unfold wpList
  rw [if_pos hwant]
  refine .inl ?_
  obtain ⟨hdf, g, H, hdn⟩ := hat
  obtain ⟨x, w', H', hr, hx, hd', hsp⟩ := h E.cx g H E.n own (rm1 k own) env a w hdn hdn hk (rm1_less k own)
  have hd2 := hd'.le (degE_le k env) (fun _ _ h => h)
  obtain ⟨hd3, hp⟩ := hd2.tok (Nat.le_of_ble_eq_true hm) hE hO hx hsp
  unfold Oper.wp
  rw [hr]
  exact kk _ _ (At.put hdf hd3 hp fun d e => by rw [e] at hd; exact Nat.blt_eq.mp hd)

/-- A list's room is given up. -/
theorem at_deg (k : Nat) (kk : Sat E m s (degE k env) own nx) : Sat E m s env own nx :=
  sat_mono (fun _ _ hat => at_le hat (degE_le k env) fun _ _ h => h) kk

/-- One of the own blocks is written; what its cells then are is told. -/
theorem at_store {T : Nat → TI} (hT : ∀ t, T t = tiOf E.P t) {t k off ty : Nat} {x y : Operand} {cs new : List SV} (cs' : List SV) {own' : List (Nat × SO)} (ho : o.op = .store t x y) (hdst : o.dst = none) (hx : ev env x = .ptr k off) (hk : ownq own k = some (.cells ty cs)) (hy : cellsOf (ev env y) = some new)
    (hl : new.length = (T t).size) (hf : off + new.length ≤ cs.length) (hc : splice new off cs = cs') (hs : setOwnK k (.cells ty cs') own some = some own') (kk : Sat E (.ops all rest) s env own' nx) (hkd : (T t).kd ≠ .other := by intro h; cases h)
    (hg : guardK all o.guard env true false false = true := by rfl) : Sat E (.ops all (o :: rest)) s env own nx := by
  intro a w hat
  have hwant := wanted_of (E := E) (own := own) hg a w hat
  rw [setOwnK_eq] at hs
  simp only [Option.some.injEq] at hs
  subst hs
  unfold wpList
  rw [if_pos hwant]
  refine .inl ?_
  have hD := does_store (P := E.P) (m0 := E.cx.m0) (env := env) (own := own) ho hx hk hy (by rw [← hT t]; exact hkd) (by rw [← hT t]; exact hl) hf
  rw [hc] at hD
  exact sat_op hD (fun d e => by rw [hdst] at e; cases e) (by rw [hdst]; exact kk) hat

/-- A new block; that its name is new is shown. -/
theorem at_alloc {T : Nat → TI} (hT : ∀ t, T t = tiOf E.P t) {t : Nat} (k : Nat) (cs : List SV) (ho : o.op = .alloc t) (hcs : constsS (T t).zero = cs) (hO : freshO k own = true) (kk : Sat E (.ops all rest) s (put o.dst (.ptr k 0) env) ((k, .cells t cs) :: own) nx)
    (hkd : (T t).kd ≠ .other := by intro h; cases h) (hz : (T t).zok = true := by rfl) (h1 : SV.ones cs = true := by rfl) (hn : SV.noKs k cs = true := by rfl) (hm : Nat.ble E.cx.m0 k = true := by rfl) (hE : freshE k env = true := by rfl)
    (hg : guardK all o.guard env true false false = true := by rfl) (hd : dstLt o.dst E.n = true := by rfl) : Sat E (.ops all (o :: rest)) s env own nx := by
  intro a w hat
  have hwant := wanted_of (E := E) (own := own) hg a w hat
  unfold wpList
  rw [if_pos hwant]
  refine .inl ?_
  subst hcs
  rw [hT t] at hkd hz h1 hn
  obtain ⟨hdf, g, H, hdn⟩ := hat
  obtain ⟨vs, hv, hr⟩ := doesN_alloc (P := E.P) (env := env) (own := own) ho hkd hz E.cx g H E.n a w hdn
  obtain ⟨hd2, hp⟩ := hdn.new (t := t) (Nat.le_of_ble_eq_true hm) hn hE hO hv h1
  unfold Oper.wp
  rw [hr]
  rw [hT t] at kk
  exact kk _ _ (At.put hdf hd2 hp fun d e => by rw [e] at hd; exact Nat.blt_eq.mp hd)

/-- A list is made, that has room of its own. -/
theorem at_new (k' sz : Nat) (rows : List (List DV)) (h : DoesT E.P o env own sz rows) (kk : Sat E (.ops all rest) s (put o.dst (.gl k' sz rows) env) ((k', .tok sz) :: own) nx)
    (hm : Nat.ble E.cx.m0 k' = true := by rfl) (hE : freshE k' env = true := by rfl) (hO : freshO k' own = true := by rfl)
    (hg : guardK all o.guard env true false false = true := by rfl) (hd : dstLt o.dst E.n = true := by rfl) : Sat E (.ops all (o :: rest)) s env own nx := by
  intro a w hat
  have hwant := wanted_of (E := E) (own := own) hg a w hat
  unfold wpList
  rw [if_pos hwant]
  refine .inl ?_
  obtain ⟨hdf, g, H, hdn⟩ := hat
  obtain ⟨x, w', H', hr, hx, hd', hsp⟩ := h E.cx g H E.n own env a w hdn hdn
  obtain ⟨hd3, hp⟩ := hd'.tok (Nat.le_of_ble_eq_true hm) hE hO hx (hsp.mono fun b hb => hdn.new_ok hb)
  unfold Oper.wp
  rw [hr]
  exact kk _ _ (At.put hdf hd3 hp fun d e => by rw [e] at hd; exact Nat.blt_eq.mp hd)

/-- A list that has no room may grow all the same: it gets a name. -/
theorem at_name (t k sz : Nat) {sz0 : Nat} {rows : List (List DV)} (ht : nth env t = .tl sz0 rows) (hs : sz0 = sz ∨ rows = []) (kk : Sat E m s ((t, .gl k sz rows) :: env) ((k, .tok sz) :: own) nx)
    (hm : Nat.ble E.cx.m0 k = true := by rfl) (hE : freshE k env = true := by rfl) (hO : freshO k own = true := by rfl) : Sat E m s env own nx := by
  refine sat_mono (fun a w hat => ?_) kk
  obtain ⟨hdf, g, H, hdn⟩ := hat
  have h0 := hdn.den t
  rw [ht] at h0
  obtain ⟨⟨ad, c, e, h1, h2, h3⟩, ad', e'⟩ := h0
  have hx : DenD H (.lst sz rows) (a.tmps.getD t undef) := by
    refine ⟨ad, c, e, h1, h2, fun p hp => ?_⟩
    rcases hs with rfl | rfl
    · exact h3 p hp
    · exact ⟨.inl rfl, trivial⟩
  have hc : c = rows.length := by
    rw [e] at e'
    simp only [Value.slice.injEq, true_and] at e'
    exact e'.2
  obtain ⟨hd3, hp⟩ := hdn.tok (k := k) (sz := sz) (rows := rows) (Nat.le_of_ble_eq_true hm) hE hO hx ⟨ad, rows.length, c, e, fun h => ⟨by rw [(h2 h).1]; rfl, (h2 h).2⟩, h1, fun p hp hlt => absurd hlt (by omega)⟩
  refine ⟨hdf, _, H, { hd3 with den := fun i => ?_ }⟩
  simp only [nth]
  cases hb : Nat.beq t i with
  | true =>
    have := beq_true hb
    subst this
    exact hp
  | false => exact hd3.den i

end
end Go.Eng
