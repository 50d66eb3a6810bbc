/- The proof engine, part 14b: lists: indexing, cutting, laying, appending. -/
import Derived.Test.YtmnmhehddbemkaaAt
import Derived.Laws.AppendOwn
import Derived.Laws.MakeOwn
namespace Go.Eng

/-- A list, whatever is known besides. -/
def lstv : SV → Option (Nat × List (List DV))
  | .lst sz r => some (sz, r)
  | .gl _ sz r => some (sz, r)
  | .tl sz r => some (sz, r)
  | _ => none

theorem lstv_den {g : Nat → Value} {H : Hp} {s : SV} {sz : Nat} {r : List (List DV)} {x : Value} (h : lstv s = some (sz, r)) (hd : Den g H s x) : DenD H (.lst sz r) x := by
  cases s <;> simp only [lstv, Option.some.injEq, Prod.mk.injEq, reduceCtorEq] at h
  · obtain ⟨rfl, rfl⟩ := h; exact hd
  · obtain ⟨rfl, rfl⟩ := h; exact hd.1
  · obtain ⟨rfl, rfl⟩ := h; exact hd.1

theorem SVle.gl (k sz : Nat) (r : List (List DV)) : SVle (.gl k sz r) (.lst sz r) := fun _ _ _ h => h.1
theorem SVle.tl (sz : Nat) (r : List (List DV)) : SVle (.tl sz r) (.lst sz r) := fun _ _ _ h => h.1

theorem DenRs.get {H : Hp} {b sz : Nat} : ∀ {rows : List (List DV)} {off j : Nat} {r : List DV}, DenRs H b off sz rows → rows[j]? = some r →
    ∃ vs, DenDs H r vs ∧ vs.length = sz ∧ ∀ i v, vs[i]? = some v → H b (off + j * sz + i) = some v
  | [], _, _, _, _, h => by simp at h
  | x :: xs, off, 0, r, hr, h => by
    simp only [List.getElem?_cons_zero, Option.some.injEq] at h
    subst h
    simpa using hr.1
  | x :: xs, off, j + 1, r, hr, h => by
    have := DenRs.get (off := off + sz) (j := j) hr.2 (by simpa using h)
    rw [show off + sz + j * sz = off + (j + 1) * sz from by rw [Nat.add_mul]; omega] at this
    exact this

theorem DenRs.drop {H : Hp} {b sz : Nat} : ∀ {rows : List (List DV)} {off : Nat} (l : Nat), DenRs H b off sz rows → DenRs H b (off + l * sz) sz (rows.drop l)
  | rows, off, 0, h => by simpa using h
  | [], off, l + 1, _ => by simp [DenRs]
  | x :: xs, off, l + 1, h => by
    have := DenRs.drop (off := off + sz) l h.2
    rw [show off + sz + l * sz = off + (l + 1) * sz from by rw [Nat.add_mul]; omega] at this
    exact this

theorem DenRs.take {H : Hp} {b sz : Nat} : ∀ {rows : List (List DV)} {off : Nat} (l : Nat), DenRs H b off sz rows → DenRs H b off sz (rows.take l)
  | rows, off, 0, h => by simp [DenRs]
  | [], off, l + 1, _ => by simp [DenRs]
  | x :: xs, off, l + 1, h => ⟨h.1, DenRs.take l h.2⟩

/-- The cells of rows, one behind the other. -/
def DenF (H : Hp) (sz : Nat) : List (List DV) → List Value → Prop
  | [], vs => vs = []
  | r :: rs, vs => ∃ v1 v2, vs = v1 ++ v2 ∧ DenDs H r v1 ∧ v1.length = sz ∧ DenF H sz rs v2

theorem DenF.length {H : Hp} {sz : Nat} : ∀ {rows : List (List DV)} {vs : List Value}, DenF H sz rows vs → vs.length = rows.length * sz
  | [], vs, h => by rw [show vs = [] from h]; simp
  | r :: rs, vs, h => by
    obtain ⟨v1, v2, e, _, h1, h2⟩ := h
    rw [e, List.length_append, h1, DenF.length h2, List.length_cons, Nat.add_mul]
    omega

theorem DenF.append {H : Hp} {sz : Nat} : ∀ {r1 r2 : List (List DV)} {v1 v2 : List Value}, DenF H sz r1 v1 → DenF H sz r2 v2 → DenF H sz (r1 ++ r2) (v1 ++ v2)
  | [], _, v1, _, h, h2 => by rw [show v1 = [] from h]; exact h2
  | r :: rs, _, v1, _, h, h2 => by
    obtain ⟨a, b, e, ha, hl, hb⟩ := h
    exact ⟨a, _, by rw [e, List.append_assoc], ha, hl, DenF.append hb h2⟩

theorem DenF.mono {H H' : Hp} (hl : H.le H') {sz : Nat} : ∀ {rows : List (List DV)} {vs : List Value}, DenF H sz rows vs → DenF H' sz rows vs
  | [], _, h => h
  | _ :: _, _, h => by
    obtain ⟨a, b, e, ha, hl', hb⟩ := h
    exact ⟨a, b, e, DenDs.mono hl _ _ ha, hl', DenF.mono hl hb⟩

theorem DenDs.one {H : Hp} : ∀ {ds : List DV} {vs : List Value}, DenDs H ds vs → ∀ v ∈ vs, v.oneCell' = true
  | [], [], _, v, hv => by cases hv
  | d :: ds, x :: xs, h, v, hv => by
    rcases List.mem_cons.1 hv with rfl | hv
    · exact h.1.oneCell
    · exact DenDs.one h.2 v hv
  | [], _ :: _, h, _, _ => h.elim
  | _ :: _, [], h, _, _ => h.elim

theorem DenF.one {H : Hp} {sz : Nat} : ∀ {rows : List (List DV)} {vs : List Value}, DenF H sz rows vs → ∀ v ∈ vs, v.oneCell' = true
  | [], vs, h, v, hv => by rw [show vs = [] from h] at hv; cases hv
  | r :: rs, vs, h, v, hv => by
    obtain ⟨a, b, e, ha, _, hb⟩ := h
    rw [e] at hv
    rcases List.mem_append.1 hv with hv | hv
    · exact ha.one v hv
    · exact DenF.one hb v hv

theorem DenRs.flat {H : Hp} {b sz : Nat} : ∀ {rows : List (List DV)} {off : Nat}, DenRs H b off sz rows → ∃ vs, DenF H sz rows vs ∧ ∀ j v, vs[j]? = some v → H b (off + j) = some v
  | [], _, _ => ⟨[], rfl, fun (j : Nat) (v : Value) (h : ([] : List Value)[j]? = some v) => by simp at h⟩
  | r :: rs, off, h => by
    obtain ⟨⟨v1, h1, h2, h3⟩, h4⟩ := h
    obtain ⟨v2, h5, h6⟩ := DenRs.flat h4
    refine ⟨v1 ++ v2, ⟨v1, v2, rfl, h1, h2, h5⟩, fun j v hj => ?_⟩
    by_cases hlt : j < v1.length
    · rw [List.getElem?_append_left hlt] at hj; exact h3 j v hj
    · rw [List.getElem?_append_right (by omega)] at hj
      have := h6 _ v hj
      rw [show off + sz + (j - v1.length) = off + j from by omega] at this
      exact this

theorem DenF.rs {H : Hp} {b sz : Nat} : ∀ {rows : List (List DV)} {off : Nat} {vs : List Value}, DenF H sz rows vs → (∀ j v, vs[j]? = some v → H b (off + j) = some v) → DenRs H b off sz rows
  | [], _, _, _, _ => trivial
  | r :: rs, off, vs, h, hc => by
    obtain ⟨v1, v2, e, h1, h2, h3⟩ := h
    subst e
    refine ⟨⟨v1, h1, h2, fun j v hj => hc j v ?_⟩, DenF.rs h3 fun j v hj => ?_⟩
    · rw [List.getElem?_append_left (List.getElem?_eq_some_iff.1 hj).1]; exact hj
    · have := hc (sz + j) v (by rw [List.getElem?_append_right (by omega), h2, Nat.add_sub_cancel_left]; exact hj)
      rw [← Nat.add_assoc] at this
      exact this

/-- New cells that stay as they are. -/
def Hp.ext (H : Hp) (b : Nat) (cs : List Value) : Hp := fun b' o => if b' = b then cs[o]? else H b' o

theorem Hp.ext_le {H : Hp} {b : Nat} (h : ∀ o, H b o = none) (cs : List Value) : H.le (H.ext b cs) := by
  intro b' o v hv
  unfold Hp.ext
  by_cases e : b' = b
  · subst e; rw [h] at hv; cases hv
  · rw [if_neg e]; exact hv

theorem Hp.ext_at (H : Hp) (b : Nat) (cs : List Value) (o : Nat) : H.ext b cs b o = cs[o]? := by simp [Hp.ext]
theorem Hp.ext_ne (H : Hp) {b b' : Nat} (cs : List Value) (o : Nat) (h : b' ≠ b) : H.ext b cs b' o = H b' o := by simp [Hp.ext, h]

theorem Hp.on_new {H : Hp} {w : World} (h : H.on w) (o : Nat) : H w.heap.size o = none := by
  cases hv : H w.heap.size o with
  | none => rfl
  | some v => exact absurd (Hp.on_lt h hv) (by omega)

theorem OwnOk.ext {mine : Nat → Prop} {g : Nat → Value} {H : Hp} {w : World} {k : Nat} {o : SO} {b : Nat} {cs : List Value} (h : OwnOk mine g H w k o) (hb : ∀ o, H b o = none) (hne : ∀ c, blkOf (g k) = some c → c ≠ b) :
    OwnOk mine g (H.ext b cs) w k o := by
  have hl := Hp.ext_le hb cs
  cases o with
  | cells ty cs' =>
    obtain ⟨c, vs, e, h1, h2, h3, h4, h5⟩ := h
    exact ⟨c, vs, e, Dens.mono hl _ _ h1, h2, h3, fun o => by rw [Hp.ext_ne _ _ _ (hne c (by rw [e]; rfl))]; exact h4 o, h5⟩
  | tok sz =>
    obtain ⟨a, n, c, e, h1, hle, h2⟩ := h
    refine ⟨a, n, c, e, h1, hle, fun p hpa hlt => ?_⟩
    obtain ⟨h3, h4, cs', ty, h5, h6, h7⟩ := h2 p hpa hlt
    exact ⟨h3, h4, cs', ty, h5, h6, fun j hj => by rw [Hp.ext_ne _ _ _ (hne p.block (by rw [e, hpa]; simp [blkOf, Nat.blt_eq.mpr hlt]))]; exact h7 j hj⟩
  | obj f =>
    obtain ⟨r, o, e, h1, h2, h3, h4⟩ := h
    exact ⟨r, o, e, h1, fun H' hl' => h2 H' (Hp.le_trans hl hl'), fun o => by rw [Hp.ext_ne _ _ _ (hne r (by rw [e]; rfl))]; exact h3 o, h4⟩

/-- A new block is laid, whose first cells stay as they are. -/
theorem Dn.lay {cx : Cx} {g : Nat → Value} {H : Hp} {env : List (Nat × SV)} {own : List (Nat × SO)} {n : Nat} {tmps : Array Value} {w : World} (h : Dn cx g H env own n tmps w) (arr : Array Value) (t : TypeId) (cs : List Value)
    (hpre : ∀ (j : Nat) (v : Value), cs[j]? = some v → arr[j]? = some v) : Dn cx g (H.ext w.heap.size cs) env own n tmps (w.alloc (.cells arr t)) := by
  have h' := h.grown (w' := w.alloc (.cells arr t)) rfl rfl rfl (by simp) (fun b hb => heap_alloc_lt w _ hb) (frozen_alloc w _ _)
  have hnew := Hp.on_new h.hp
  have hl := Hp.ext_le hnew cs
  refine { size := h.size, den := fun t => Den.mono hl _ _ (h.den t), ok := fun k o hk => (h'.ok k o hk).ext hnew fun c hc e => ?_, inj := h.inj, hp := fun b o v hv => ?_, base := { h'.base with hold := fun b hb hx o => ?_, le := Hp.le_trans h.base.le hl } }
  · have := (h.ok k o hk).blk_lt hc
    omega
  · unfold Hp.ext at hv
    by_cases e : b = w.heap.size
    · rw [if_pos e] at hv
      subst e
      have := hpre o v hv
      simp only [World.cell?, heap_alloc_new]
      exact this
    · rw [if_neg e] at hv
      exact h'.hp b o v hv
  · have := h.base.size
    rw [Hp.ext_ne _ _ _ (by omega)]
    exact h.base.hold b hb hx o

section
variable {P : Program} {env : List (Nat × SV)} {own : List (Nat × SO)}

theorem slice_ti {t : Nat} (hk : (tiOf P t).kd = .slice) : ∃ i, TiSpec P t i (.slice (tiOf P t).elem) := by
  obtain ⟨i, d, hs, e⟩ := und_kd (P := P) hk (by simp)
  cases d <;> simp [kdOf] at e
  rename_i el
  have : (tiOf P t).elem = el := hs.elem
  rw [this]
  exact ⟨i, hs⟩

theorem prog_elem {t e : Nat} (h : P.underlying t = some (.slice e)) : P.elem t = e := by simp [Program.elem, h]

/-- The type of a list whose rows have sz cells. -/
def lstT (T : Nat → TI) (t sz : Nat) : Bool :=
  match (T t).kd with
  | .slice => Nat.beq (T (T t).elem).size sz && !(T (T t).elem).kd.isOther && (T (T t).elem).zok && Nat.beq (T (T t).elem).zero.length sz
  | _ => false

theorem lstT_spec {T : Nat → TI} (hT : ∀ t, T t = tiOf P t) {t sz : Nat} (h : lstT T t sz = true) : (tiOf P t).kd = .slice ∧ (tiOf P (tiOf P t).elem).size = sz ∧ (tiOf P (tiOf P t).elem).kd ≠ .other ∧ (tiOf P (tiOf P t).elem).zok = true ∧ (tiOf P (tiOf P t).elem).zero.length = sz := by
  have : T = tiOf P := funext hT
  subst this
  unfold lstT at h
  split at h
  · rename_i hk
    simp only [Bool.and_eq_true, Bool.not_eq_true'] at h
    exact ⟨hk, beq_true h.1.1.1, fun e => by rw [e] at h; simp [KI.isOther] at h, h.1.2, beq_true h.2⟩
  · cases h

/-- A place of a list. -/
theorem does_index {T : Nat → TI} (hT : ∀ t, T t = tiOf P t) {o : Oper} {t sz : Nat} {x i : Operand} {rows : List (List DV)} {k : IntKind} {n : Int} (row : List DV) (ho : o.op = .indexAddr t x i) (hx : lstv (ev env x) = some (sz, rows)) (hi : ev env i = .int k n)
    (h0 : 0 ≤ n) (hr : rows[n.toNat]? = some row) (hkT : lstT T t sz = true) : DoesV P o env own (.rp row 0) := by
  obtain ⟨hk, hz, hk2, _⟩ := lstT_spec hT hkT
  obtain ⟨i1, h1⟩ := slice_ti hk
  obtain ⟨i2, d2, h2⟩ := ti_spec hk2
  refine does_val fun cx g H q a w hd => ?_
  obtain ⟨ad, c, e1, hc, hn, hp⟩ := lstv_den hx (hd.ev x)
  have e2 := hd.ev i
  rw [hi] at e2
  have e2 : a.eval i = .int k n := e2
  have hlt : n.toNat < rows.length := (List.getElem?_eq_some_iff.1 hr).1
  cases ad with
  | none => rw [(hn rfl).1] at hlt; simp at hlt
  | some p =>
    obtain ⟨hs, hR⟩ := hp p rfl
    have hs : p.spot = none := hs.resolve_left fun e => by rw [e] at hlt; simp at hlt
    obtain ⟨vs, v1, v2, v3⟩ := hR.get hr
    refine ⟨.pointer (some (p.add (n.toNat * sz))), ?_, p.block, p.off + n.toNat * sz, vs, ?_, v1, v3⟩
    · have : 0 ≤ n ∧ n < (rows.length : Int) := ⟨h0, by omega⟩
      simp [execOp, ho, e1, e2, Instr.indexAt, asIntOf, run_underlying h1.und, this, run_sizeOf' h2.info, ← h2.size, hz]
    · obtain ⟨b, off, spot⟩ := p
      simp only at hs
      subst hs
      simp [addr_add]

theorem DenRs.cut {H : Hp} {b off sz : Nat} {rows : List (List DV)} (h : DenRs H b off sz rows) (l n : Nat) : DenRs H b (off + l * sz) sz ((rows.drop l).take n) := (h.drop l).take n

/-- A part of a list, by what the bounds come to. -/
theorem sliced_den {H : Hp} {sz : Nat} {rows : List (List DV)} {ad : Option Addr} {c : Nat} (hc : rows.length ≤ c) (hn : ad = none → rows = [] ∧ c = 0) (hp : ∀ p, ad = some p → (rows = [] ∨ p.spot = none) ∧ DenRs H p.block p.off sz rows)
    {l h m : Nat} (h1 : l ≤ h) (h2 : h ≤ rows.length) (h3 : h ≤ m) (h4 : m ≤ c) : DenD H (.lst sz ((rows.drop l).take (h - l))) (sliced ad l h m sz) := by
  have hlen : ((rows.drop l).take (h - l)).length = h - l := by simp; omega
  refine ⟨if m = l then ad else ad.map (·.add (l * sz)), m - l, by rw [hlen]; rfl, by rw [hlen]; omega, fun e => ?_, fun p e => ?_⟩
  · have hnone : ad = none := by
      split at e
      · exact e
      · simpa using e
    obtain ⟨e1, e2⟩ := hn hnone
    subst e1
    exact ⟨by simp, by omega⟩
  · split at e
    · rename_i hml
      have : h - l = 0 := by omega
      refine ⟨.inl (by rw [this]; simp), ?_⟩
      rw [this]
      simp [DenRs]
    · cases ad with
      | none => simp at e
      | some q =>
        obtain ⟨q1, q2⟩ := hp q rfl
        simp only [Option.map_some, Option.some.injEq] at e
        subst e
        rcases q1 with q1 | q1
        · subst q1
          exact ⟨.inl (by simp), by simp [DenRs]⟩
        obtain ⟨b, off, spot⟩ := q
        simp only at q1
        subst q1
        simp only [addr_add]
        exact ⟨.inr trivial, q2.cut l (h - l)⟩

theorem does_slice_h {T : Nat → TI} (hT : ∀ t, T t = tiOf P t) {o : Oper} {t sz : Nat} {x hi : Operand} {rows : List (List DV)} {k : IntKind} {n : Int} (ho : o.op = .slice t x none (some hi) none) (hx : lstv (ev env x) = some (sz, rows)) (hh : ev env hi = .int k n)
    (h0 : 0 ≤ n ∧ n ≤ rows.length) (hkT : lstT T t sz = true) : DoesV P o env own (.lst sz (rows.take n.toNat)) := by
  obtain ⟨hk, hz, hk2, _⟩ := lstT_spec hT hkT
  obtain ⟨i1, h1⟩ := slice_ti hk
  obtain ⟨i2, d2, h2⟩ := ti_spec hk2
  have he := prog_elem h1.und
  refine does_val fun cx g H q a w hd => ?_
  obtain ⟨ad, c, e1, hc, hn, hp⟩ := lstv_den hx (hd.ev x)
  have e2 := hd.ev hi
  rw [hh] at e2
  have e2 : a.eval hi = .int k n := e2
  have hu : P.underlying t = some (.slice (P.elem t)) := by rw [he]; exact h1.und
  have key := sliced_den hc hn hp (l := 0) (h := n.toNat) (m := c) (Nat.zero_le _) (by omega) (by omega) (Nat.le_refl _)
  refine ⟨sliced ad 0 n.toNat c sz, ?_, (by simpa using key : DenD H (.lst sz (rows.take n.toNat)) _)⟩
  have hs := h2.size
  rw [hz] at hs
  simp [execOp, ho, e1, e2, run_sliceAt_slice w t _ _ _ _ hu, run_slice_h w t ad rows.length c hu k n h0.1 (by omega), he, run_sizeOf' h2.info, ← hs]

theorem does_slice_l {T : Nat → TI} (hT : ∀ t, T t = tiOf P t) {o : Oper} {t sz : Nat} {x lo : Operand} {rows : List (List DV)} {k : IntKind} {n : Int} (ho : o.op = .slice t x (some lo) none none) (hx : lstv (ev env x) = some (sz, rows)) (hh : ev env lo = .int k n)
    (h0 : 0 ≤ n ∧ n ≤ rows.length) (hkT : lstT T t sz = true) : DoesV P o env own (.lst sz (rows.drop n.toNat)) := by
  obtain ⟨hk, hz, hk2, _⟩ := lstT_spec hT hkT
  obtain ⟨i1, h1⟩ := slice_ti hk
  obtain ⟨i2, d2, h2⟩ := ti_spec hk2
  have he := prog_elem h1.und
  refine does_val fun cx g H q a w hd => ?_
  obtain ⟨ad, c, e1, hc, hn, hp⟩ := lstv_den hx (hd.ev x)
  have e2 := hd.ev lo
  rw [hh] at e2
  have e2 : a.eval lo = .int k n := e2
  have hu : P.underlying t = some (.slice (P.elem t)) := by rw [he]; exact h1.und
  have key := sliced_den hc hn hp (l := n.toNat) (h := rows.length) (m := c) (by omega) (by omega) (by omega) (Nat.le_refl _)
  refine ⟨sliced ad n.toNat rows.length c sz, ?_, by rw [List.take_of_length_le (by simp)] at key; exact key⟩
  have hs := h2.size
  rw [hz] at hs
  simp [execOp, ho, e1, e2, run_sliceAt_slice w t _ _ _ _ hu, run_slice_l w t ad rows.length c hu k n h0.1 h0.2, he, run_sizeOf' h2.info, ← hs]

theorem does_slice_hm {T : Nat → TI} (hT : ∀ t, T t = tiOf P t) {o : Oper} {t sz : Nat} {x hi mx : Operand} {rows : List (List DV)} {k k2 : IntKind} {n : Int} (ho : o.op = .slice t x none (some hi) (some mx)) (hx : lstv (ev env x) = some (sz, rows)) (hh : ev env hi = .int k n) (hm : ev env mx = .int k2 n)
    (h0 : 0 ≤ n ∧ n ≤ rows.length) (hkT : lstT T t sz = true) : DoesV P o env own (.tl sz (rows.take n.toNat)) := by
  obtain ⟨hk, hz, hk2, _⟩ := lstT_spec hT hkT
  obtain ⟨i1, h1⟩ := slice_ti hk
  obtain ⟨i2, d2, h2⟩ := ti_spec hk2
  have he := prog_elem h1.und
  refine does_val fun cx g H q a w hd => ?_
  obtain ⟨ad, c, e1, hc, hn, hp⟩ := lstv_den hx (hd.ev x)
  have e2 := hd.ev hi
  rw [hh] at e2
  have e2 : a.eval hi = .int k n := e2
  have e3 := hd.ev mx
  rw [hm] at e3
  have e3 : a.eval mx = .int k2 n := e3
  have hu : P.underlying t = some (.slice (P.elem t)) := by rw [he]; exact h1.und
  have key := sliced_den hc hn hp (l := 0) (h := n.toNat) (m := n.toNat) (Nat.zero_le _) (by omega) (by omega) (by omega)
  have hlen : (rows.take n.toNat).length = n.toNat := by simp; omega
  refine ⟨sliced ad 0 n.toNat n.toNat sz, ?_, (by simpa using key : DenD H (.lst sz (rows.take n.toNat)) _), _, by rw [hlen]; rfl⟩
  have hs := h2.size
  rw [hz] at hs
  simp [execOp, ho, e1, e2, e3, run_sliceAt_slice w t _ _ _ _ hu, run_slice_hm w t ad rows.length c hu k k2 n n h0.1 (Int.le_refl _) (by omega), he, run_sizeOf' h2.info, ← hs, sliced]

/-- An operation that lays what stays as it is, and hands it back. -/
def DoesG (P : Program) (o : Oper) (env : List (Nat × SV)) (own : List (Nat × SO)) (v : SV) : Prop :=
  v.lt 0 = true ∧ ∀ (cx : Cx) (g : Nat → Value) (H : Hp) (n : Nat) (own' : List (Nat × SO)) (env' : List (Nat × SV)) (a : Act) (w : World), Dn cx g H env own n a.tmps w → Dn cx g H env' own' n a.tmps w →
    ∃ x w' H', (execOp a.eval o).run P w = .ok (.value x) w' ∧ Den g H' v x ∧ Dn cx g H' env' own' n a.tmps w'

/-- Behind an appending to a list that has no room: the cells of both, in a new block. -/
theorem laid_append {cx : Cx} {g : Nat → Value} {H : Hp} {env : List (Nat × SV)} {own : List (Nat × SO)} {n : Nat} {tmps : Array Value} {w : World} (hd : Dn cx g H env own n tmps w) (e : TypeId) {sz : Nat} {rows : List (List DV)} {vs : List Value} (rest : Array Value)
    (hf : DenF H sz rows vs) (c : Nat) (hc : rows.length ≤ c) :
    Dn cx g (H.ext w.heap.size vs) env own n tmps (w.drew.alloc (.cells (vs.toArray ++ rest) e)) ∧ DenD (H.ext w.heap.size vs) (.lst sz rows) (.slice (some ⟨w.heap.size, 0, none⟩) rows.length c) := by
  have h1 := hd.drew.lay (vs.toArray ++ rest) e vs (fun j v hj => by
    rw [Array.getElem?_append_left (by simpa using (List.getElem?_eq_some_iff.1 hj).1)]
    simpa using hj)
  refine ⟨h1, some ⟨w.heap.size, 0, none⟩, c, rfl, hc, fun e => (by cases e), fun p hp => ?_⟩
  simp only [Option.some.injEq] at hp
  subst hp
  refine ⟨.inr rfl, (hf.mono (Hp.ext_le (Hp.on_new hd.hp) vs)).rs fun j v hj => ?_⟩
  rw [Nat.zero_add, Hp.ext_at]
  exact hj

/-- What room a list has is nobody else's. -/
def Spare (w : World) (H : Hp) (sz : Nat) (x : Value) (ok : Nat → Prop) : Prop :=
  ∃ (a : Option Addr) (n c : Nat), x = .slice a n c ∧ (a = none → n = 0 ∧ c = 0) ∧ n ≤ c ∧ ∀ p, a = some p → n < c → p.spot = none ∧ ok p.block ∧
      ∃ cs ty, w.heap[p.block]? = some (.cells cs ty (0, 0)) ∧ p.off + c * sz ≤ cs.size ∧ ∀ j, p.off + n * sz ≤ j → H p.block j = none

/-- An operation that hands back a list whose room is new. -/
def DoesT (P : Program) (o : Oper) (env : List (Nat × SV)) (own : List (Nat × SO)) (sz : Nat) (rows : List (List DV)) : Prop :=
  ∀ (cx : Cx) (g : Nat → Value) (H : Hp) (n : Nat) (own' : List (Nat × SO)) (env' : List (Nat × SV)) (a : Act) (w : World), Dn cx g H env own n a.tmps w → Dn cx g H env' own' n a.tmps w →
    ∃ x w' H', (execOp a.eval o).run P w = .ok (.value x) w' ∧ DenD H' (.lst sz rows) x ∧ Dn cx g H' env' own' n a.tmps w' ∧ Spare w' H' sz x (fun b => w.heap.size ≤ b)

theorem DoesT.g {P : Program} {o : Oper} {env : List (Nat × SV)} {own : List (Nat × SO)} {sz : Nat} {rows : List (List DV)} (h : DoesT P o env own sz rows) : DoesG P o env own (.lst sz rows) :=
  ⟨rfl, fun cx g H n own' env' a w hd hd' => by
    obtain ⟨x, w', H', h1, h2, h3, _⟩ := h cx g H n own' env' a w hd hd'
    exact ⟨x, w', H', h1, h2, h3⟩⟩

theorem laid_spare {w : World} {H : Hp} (e : TypeId) {sz : Nat} {rows : List (List DV)} {vs : List Value} (z : Array Value) (hz : z.size = sz)
    (hf : DenF H sz rows vs) (c : Nat) (hc : rows.length ≤ c) (ok : Nat → Prop) (ho : ok w.heap.size) :
    Spare (w.drew.alloc (.cells (vs.toArray ++ Builtin.zeroCells z (c - rows.length)) e)) (H.ext w.heap.size vs) sz (.slice (some ⟨w.heap.size, 0, none⟩) rows.length c) ok := by
  refine ⟨_, _, _, rfl, fun e => (by cases e), hc, fun p hp _ => ?_⟩
  simp only [Option.some.injEq] at hp
  subst hp
  have hl := hf.length
  refine ⟨rfl, ho, _, e, heap_alloc_new w.drew _, ?_, fun j hj => ?_⟩
  · simp only [Array.size_append, List.size_toArray, size_zeroCells, hz, hl, ← Nat.add_mul, Nat.zero_add]
    apply Nat.mul_le_mul_right
    omega
  · rw [Hp.ext_at]
    exact List.getElem?_eq_none (by omega)

theorem doesT_append {T : Nat → TI} (hT : ∀ t, T t = tiOf P t) {o : Oper} {t sz : Nat} {x y : Operand} {xs ys : List (List DV)} {c : Call} (ho : o.op = .call c) (hcl : c.callee = .builtin .append) (ha : c.args = #[x, y]) (hat : c.argTypes = #[t, t]) (hx : ev env x = .tl sz xs) (hy : lstv (ev env y) = some (sz, ys))
    (hkT : lstT T t sz = true)
    (hl : ((xs.length + ys.length : Nat) : Int) ≤ 9223372036854775807) (hb : (xs.length + ys.length) * (T (T t).elem).bytes ≤ 140737488355328) : DoesT P o env own sz (xs ++ ys) := by
  obtain ⟨hk, hz, hk2, hz2, hz0⟩ := lstT_spec hT hkT
  rw [hT (T t).elem, hT t] at hb
  intro cx g H n own' env' a w hd hd'
  obtain ⟨i1, h1⟩ := slice_ti hk
  obtain ⟨i2, d2, h2⟩ := ti_spec hk2
  obtain ⟨z, hz3, hz4⟩ := zero_spec h2 hz2
  have hzs : z.cells.size = sz := by rw [← hz0, hz4, Array.length_toList]
  have hsz : sz = i2.size := by rw [← hz, h2.size]
  rw [h2.bytes] at hb
  have ex := hd.ev x
  rw [hx] at ex
  obtain ⟨⟨ad, c1, e1, _, hn1, hp1⟩, ad', e1'⟩ := ex
  rw [e1'] at e1
  simp only [Value.slice.injEq, true_and] at e1
  obtain ⟨rfl, rfl⟩ := e1
  obtain ⟨bd, c2, e2, hc2, hn2, hp2⟩ := lstv_den hy (hd.ev y)
  have hrun : ∀ v w', (Builtin.append_ #[t, t] o.type #[a.eval x, a.eval y]).run P w = .ok v w' → (execOp a.eval o).run P w = .ok (.value v) w' := by
    intro v w' h
    simp only [execOp, ho, resolve, hcl, ha, hat]
    simp [invoke, builtin, h]
  have lens : ∀ (ys : List (List DV)), ys = [] → DenD H (.lst sz (xs ++ ys)) (.slice ad' xs.length xs.length) := by
    intro ys e
    subst e
    rw [List.append_nil]
    exact ⟨ad', _, rfl, Nat.le_refl _, hn1, hp1⟩
  have tight : Spare w H sz (.slice ad' xs.length xs.length) (fun b => w.heap.size ≤ b) := ⟨ad', _, _, rfl, fun e => ⟨by rw [(hn1 e).1]; rfl, by rw [(hn1 e).1]; rfl⟩, Nat.le_refl _, fun p _ hlt => absurd hlt (by omega)⟩
  cases hbd : bd with
  | none =>
    obtain ⟨e3, e4⟩ := hn2 hbd
    refine ⟨.slice ad' xs.length xs.length, w, H, hrun _ _ ?_, lens _ e3, hd', tight⟩
    rw [e1', e2, hbd, e3]
    simp [Builtin.append_, run_underlying h1.und, sizeOf, typeInfo, h2.info, Builtin.lenOf, Builtin.firstCells]
    cases ad' <;> simp [storeCells]
  | some q =>
    obtain ⟨hq1, hq2⟩ := hp2 q hbd
    obtain ⟨nv, hf2, hc3⟩ := hq2.flat
    have hnl := hf2.length
    have hnews : ∀ (j : Nat) (v : Value), nv[j]? = some v → w.cell? (q.add j) = some v := by
      intro j v hj
      have hq1 : q.spot = none := hq1.resolve_left fun e => by subst e; rw [show nv = [] from hf2] at hj; simp at hj
      obtain ⟨b, off, spot⟩ := q
      simp only at hq1
      subst hq1
      rw [addr_add]
      exact hd.hp _ _ _ (hc3 j v hj)
    by_cases hy0 : ys = []
    · refine ⟨.slice ad' xs.length xs.length, w, H, hrun _ _ ?_, lens _ hy0, hd', tight⟩
      rw [e1', e2, hbd, hy0]
      simp [Builtin.append_, run_underlying h1.und, sizeOf, typeInfo, h2.info, Builtin.lenOf, Builtin.firstCells, loadCells, loadCellsFrom]
      cases ad' <;> simp [storeCells]
    · have hpos : 0 < ys.length := List.length_pos_iff.2 hy0
      cases had : ad' with
      | none =>
        obtain ⟨e3, _⟩ := hn1 had
        subst e3
        simp only [List.length_nil, Nat.zero_add] at hl hb
        have hr := run_append_nil (P := P) w t o.type _ i2 z h1.und h2.info hz3 q ys.length c2 nv (by rw [hnl, hsz]) hnews hpos hl (by omega)
        obtain ⟨hd2, hv⟩ := laid_append hd' (tiOf P t).elem (Builtin.zeroCells z.cells (grownCap w ys.length 0 (tiOf P t).elem - ys.length)) hf2 (grownCap w ys.length 0 (tiOf P t).elem) (grownCap_ge _ _ _ _)
        refine ⟨_, _, _, hrun _ _ ?_, hv, hd2, laid_spare _ z.cells hzs hf2 _ (grownCap_ge _ _ _ _) _ (Nat.le_refl _)⟩
        rw [e1', e2, hbd, had]
        exact hr
      | some p =>
        obtain ⟨hp3, hp4⟩ := hp1 p had
        obtain ⟨ov, hf1, hc4⟩ := hp4.flat
        have hol := hf1.length
        have holds : ∀ (j : Nat) (v : Value), ov[j]? = some v → w.cell? (p.add j) = some v := by
          intro j v hj
          have hp3 : p.spot = none := hp3.resolve_left fun e => by subst e; rw [show ov = [] from hf1] at hj; simp at hj
          obtain ⟨b, off, spot⟩ := p
          simp only at hp3
          subst hp3
          rw [addr_add]
          exact hd.hp _ _ _ (hc4 j v hj)
        have hr := run_append_grow (P := P) w t o.type _ i2 z h1.und h2.info hz3 p xs.length xs.length ov (by rw [hol, hsz]) holds q ys.length c2 nv (by rw [hnl, hsz]) hnews (by omega) hl (growslice_fits (by omega) hb)
        obtain ⟨hd2, hv⟩ := laid_append hd' (tiOf P t).elem (Builtin.zeroCells z.cells (grownCap w (xs.length + ys.length) xs.length (tiOf P t).elem - (xs.length + ys.length))) (hf1.append hf2) (grownCap w (xs.length + ys.length) xs.length (tiOf P t).elem) (by rw [List.length_append]; exact grownCap_ge _ _ _ _)
        have e5 : (ov ++ nv).toArray = ov.toArray ++ nv.toArray := by simp
        have hsp := laid_spare (w := w) (tiOf P t).elem z.cells hzs (hf1.append hf2) (grownCap w (xs.length + ys.length) xs.length (tiOf P t).elem) (by rw [List.length_append]; exact grownCap_ge _ _ _ _) (fun b => w.heap.size ≤ b) (Nat.le_refl _)
        rw [e5] at hd2 hsp
        rw [List.length_append] at hsp
        refine ⟨_, _, _, hrun _ _ ?_, hv, hd2, by rw [List.length_append]; exact hsp⟩
        rw [e1', e2, hbd, had, List.length_append]
        exact hr

theorem doesG_append {T : Nat → TI} (hT : ∀ t, T t = tiOf P t) {o : Oper} {t sz : Nat} {x y : Operand} {xs ys : List (List DV)} {c : Call} (ho : o.op = .call c) (hcl : c.callee = .builtin .append) (ha : c.args = #[x, y]) (hat : c.argTypes = #[t, t]) (hx : ev env x = .tl sz xs) (hy : lstv (ev env y) = some (sz, ys))
    (hkT : lstT T t sz = true) (hl : ((xs.length + ys.length : Nat) : Int) ≤ 9223372036854775807) (hb : (xs.length + ys.length) * (T (T t).elem).bytes ≤ 140737488355328) : DoesG P o env own (.lst sz (xs ++ ys)) :=
  (doesT_append hT ho hcl ha hat hx hy hkT hl hb).g

/-- A list whose room is nobody else's is held by a name. -/
theorem Dn.tok {cx : Cx} {g : Nat → Value} {H : Hp} {env : List (Nat × SV)} {own : List (Nat × SO)} {n : Nat} {tmps : Array Value} {w : World} {k sz : Nat} {rows : List (List DV)} {x : Value}
    (h : Dn cx g H env own n tmps w) (hm : cx.m0 ≤ k) (hE : freshE k env = true) (hO : freshO k own = true) (hx : DenD H (.lst sz rows) x)
    (hs : Spare w H sz x fun b => cx.mine b ∧ ∀ j o, ownq own j = some o → blkOf (g j) ≠ some b) :
    Dn cx (Eng.upd g k x) H env ((k, .tok sz) :: own) n tmps w ∧ Den (Eng.upd g k x) H (.gl k sz rows) x := by
  have hne : ∀ i, i ≠ k → Eng.upd g k x i = g i := fun i hi => upd_ne _ _ _ i hi
  obtain ⟨a, m, c, e, h1, h2, h3⟩ := hs
  refine ⟨{ size := h.size, den := fun t => Den.upd hne _ _ (freshE_nth t hE) (h.den t), ok := fun j o hj => ?_, inj := fun i j hi hj b hbi hbj => ?_, hp := h.hp, base := { h.base with fix := fun j hj => by rw [hne j (by omega)]; exact h.base.fix j hj } }, hx, (upd_same _ _ _).symm⟩
  · simp only [ownq] at hj
    cases hb : Nat.beq k j with
    | true =>
      have := beq_true hb
      subst this
      simp only [hb, cond_true, Option.some.injEq] at hj
      subst hj
      refine ⟨a, m, c, by rw [upd_same]; exact e, h1, h2, fun p hp hlt => ?_⟩
      obtain ⟨q1, q2, q3⟩ := h3 p hp hlt
      exact ⟨q1, q2.1, q3⟩
    | false =>
      simp only [hb, cond_false] at hj
      exact (h.ok j o hj).upd (freshO_own hO hj)
  · have key : ∀ j b, (ownq ((k, SO.tok sz) :: own) j).isSome = true → blkOf (Eng.upd g k x j) = some b → (j = k ∧ ∀ i o, ownq own i = some o → blkOf (g i) ≠ some b) ∨ (j ≠ k ∧ (ownq own j).isSome = true ∧ blkOf (g j) = some b) := by
      intro j b hj hb
      by_cases hjk : j = k
      · subst hjk
        rw [upd_same, e] at hb
        refine .inl ⟨rfl, fun i o hi => ?_⟩
        cases a with
        | none => simp [blkOf] at hb
        | some p =>
          simp only [blkOf] at hb
          cases hlt : Nat.blt m c with
          | false => simp [hlt] at hb
          | true =>
            simp only [hlt, cond_true, Option.some.injEq] at hb
            subst hb
            exact (h3 p rfl (Nat.blt_eq.mp hlt)).2.1.2 i o hi
      · have hbf : Nat.beq k j = false := by
          cases hb' : Nat.beq k j with
          | false => rfl
          | true => exact absurd (beq_true hb').symm hjk
        simp only [ownq, hbf, cond_false] at hj
        rw [hne j hjk] at hb
        exact .inr ⟨hjk, hj, hb⟩
    rcases key i b hi hbi with ⟨e1, e2⟩ | ⟨n1, o1, b1⟩ <;> rcases key j b hj hbj with ⟨e3, e4⟩ | ⟨n2, o2, b2⟩
    · rw [e1, e3]
    · cases ho : ownq own j with
      | none => rw [ho] at o2; cases o2
      | some o => exact absurd b2 (e2 j o ho)
    · cases ho : ownq own i with
      | none => rw [ho] at o1; cases o1
      | some o => exact absurd b1 (e4 i o ho)
    · exact h.inj i j o1 o2 b b1 b2

theorem Spare.mono {w : World} {H : Hp} {sz : Nat} {x : Value} {ok ok' : Nat → Prop} (h : Spare w H sz x ok) (hm : ∀ b, ok b → ok' b) : Spare w H sz x ok' := by
  obtain ⟨a, n, c, e, h1, h2, h3⟩ := h
  exact ⟨a, n, c, e, h1, h2, fun p hp hlt => by
    obtain ⟨q1, q2, q3⟩ := h3 p hp hlt
    exact ⟨q1, hm _ q2, q3⟩⟩

/-- What is new is nobody's yet. -/
theorem Dn.new_ok {cx : Cx} {g : Nat → Value} {H : Hp} {env : List (Nat × SV)} {own : List (Nat × SO)} {n : Nat} {tmps : Array Value} {w : World} (h : Dn cx g H env own n tmps w) {b : Nat} (hb : w.heap.size ≤ b) :
    cx.mine b ∧ ∀ j o, ownq own j = some o → blkOf (g j) ≠ some b :=
  ⟨.inl (Nat.le_trans h.base.size hb), fun j o hj e => by
    have := (h.ok j o hj).blk_lt e
    omega⟩

theorem dn_up {g : Nat → Value} {H : Hp} : ∀ {d : DV} {v : Value}, Den g H (up d) v → DenD H d v
  | .int _ _, _, h => h
  | .bl _, _, h => h
  | .str _, _, h => h
  | .val _, _, h => h
  | .lst _ _, _, h => h
theorem dn_ups {g : Nat → Value} {H : Hp} : ∀ {l : List DV} {vs : List Value}, Dens g H (l.map up) vs → DenDs H l vs
  | [], [], _ => trivial
  | _ :: _, _ :: _, h => ⟨dn_up h.1, dn_ups h.2⟩
  | [], _ :: _, h => h.elim
  | _ :: _, [], h => h.elim

/-- The parts of a list that is built: one row each. -/
def bsOk (env : List (Nat × SV)) (sz : Nat) : List (Nat × Operand) → Nat → List (List DV) → Prop
  | [], _, [] => True
  | (j, x) :: ps, i, r :: rs => (j = i ∧ r.length = sz ∧ ∃ l, cellsOf (ev env x) = some l ∧ SVles l (r.map up)) ∧ bsOk env sz ps (i + 1) rs
  | _, _, _ => False

theorem fill_rows {cx : Cx} {g : Nat → Value} {H : Hp} {n : Nat} {a : Act} {w : World} (hd : Dn cx g H env own n a.tmps w) (sz : Nat) : ∀ (ps : List (Nat × Operand)) (rows : List (List DV)) (i : Nat) (pref tail : List Value) (zs : Array Value),
    bsOk env sz ps i rows → zs.toList = pref ++ tail → pref.length = i * sz → tail.length = rows.length * sz →
    ∃ zs', Instr.fill (fun i => some (i * sz, sz)) zs (ps.map fun p => (p.1, a.eval p.2)) = some zs' ∧ ∃ vs, zs'.toList = pref ++ vs ∧ DenF H sz rows vs := by
  intro ps
  induction ps with
  | nil =>
    intro rows i pref tail zs hb hz _ ht
    cases rows with
    | nil =>
      have : tail = [] := List.eq_nil_of_length_eq_zero (by simpa using ht)
      subst this
      exact ⟨zs, rfl, [], hz, rfl⟩
    | cons r rs => exact hb.elim
  | cons p ps ih =>
    obtain ⟨j, x⟩ := p
    intro rows i pref tail zs hb hz hp ht
    cases rows with
    | nil => exact hb.elim
    | cons r rs =>
      obtain ⟨⟨rfl, hr, l, hl, hle⟩, hb⟩ := hb
      have hdx := dn_ups (hle.dens g H _ (cellsOf_den hl (hd.ev x)))
      have hlen : (a.eval x).cells.size = sz := by have := hdx.length; rw [hr] at this; simpa using this
      have hzs : zs.size = j * sz + (rs.length + 1) * sz := by rw [← Array.length_toList, hz, List.length_append, hp, ht, List.length_cons]
      have hmul : (rs.length + 1) * sz = rs.length * sz + sz := by rw [Nat.add_mul, Nat.one_mul]
      simp only [List.map_cons, Instr.fill]
      have hcond : ((a.eval x).cells.size ≠ sz || j * sz + (a.eval x).cells.size > zs.size) = false := by
        rw [hlen, hzs]
        simp
        omega
      simp only [hcond, Bool.false_eq_true, if_false]
      have hf := fold_splice (a.eval x).cells.toList 0 (j * sz) zs (by simp only [Nat.add_zero, Array.length_toList]; omega)
      simp only [Nat.add_zero] at hf
      have hfo : (Array.foldl (fun (cs : Array Value) (x : Value × Nat) => cs.setIfInBounds (j * sz + x.2) x.1) zs (a.eval x).cells.zipIdx).toList = splice (a.eval x).cells.toList (j * sz) zs.toList := by
        rw [← hf, ← Array.foldl_toList, Array.toList_zipIdx]
      have hsp : splice (a.eval x).cells.toList (j * sz) zs.toList = (pref ++ (a.eval x).cells.toList) ++ tail.drop sz := by
        unfold splice
        have hl' : (a.eval x).cells.toList.length = sz := by rw [Array.length_toList, hlen]
        rw [hz, ← hp, List.take_left, hl', ← List.drop_drop, List.drop_left]
      obtain ⟨zs', h1, vs, h2, h3⟩ := ih rs (j + 1) (pref ++ (a.eval x).cells.toList) (tail.drop sz) _ hb (hfo.trans hsp) (by rw [List.length_append, hp, Array.length_toList, hlen, Nat.add_mul]; omega) (by rw [List.length_drop, ht, List.length_cons]; omega)
      exact ⟨zs', h1, (a.eval x).cells.toList ++ vs, by rw [h2, List.append_assoc], _, vs, rfl, hdx, by rw [Array.length_toList, hlen], h3⟩

theorem doesG_build {T : Nat → TI} (hT : ∀ t, T t = tiOf P t) {o : Oper} {t sz len : Nat} {parts : Array (Nat × Operand)} (rows : List (List DV)) (ho : o.op = .buildSlice t len parts) (hp : bsOk env sz parts.toList 0 rows) (hn : len = rows.length)
    (hkT : lstT T t sz = true) (hb : len * sz ≤ 16777216) : DoesG P o env own (.tl sz rows) := by
  obtain ⟨hk, hz, hk2, hz2, hz0⟩ := lstT_spec hT hkT
  refine ⟨rfl, fun cx g H n own' env' a w hd hd' => ?_⟩
  obtain ⟨i1, h1⟩ := slice_ti hk
  obtain ⟨i2, d2, h2⟩ := ti_spec hk2
  obtain ⟨z, hz3, _⟩ := zero_spec h2 hz2
  have hsz : i2.size = sz := by rw [← hz, h2.size]
  subst hn
  have key : ∀ zs : Array Value, zs.size = rows.length * sz → ∃ zs' H', Instr.fill (fun i => some (i * sz, sz)) zs (parts.toList.map fun p => (p.1, a.eval p.2)) = some zs' ∧
      Den g H' (.tl sz rows) (.slice (some ⟨w.heap.size, 0, none⟩) rows.length rows.length) ∧ Dn cx g H' env' own' n a.tmps (w.alloc (.cells zs' (tiOf P t).elem)) := by
    intro zs hzs
    obtain ⟨zs', h3, vs, h4, h5⟩ := fill_rows hd sz parts.toList rows 0 [] zs.toList zs hp rfl (by simp) (by simpa using hzs)
    have h4 : zs'.toList = vs := by simpa using h4
    have hd2 := hd'.lay zs' (tiOf P t).elem vs (fun j v hj => by rw [← h4] at hj; simpa using hj)
    refine ⟨zs', _, h3, ⟨⟨some ⟨w.heap.size, 0, none⟩, _, rfl, Nat.le_refl _, fun e => (by cases e), fun p hp => ?_⟩, _, rfl⟩, hd2⟩
    simp only [Option.some.injEq] at hp
    subst hp
    refine ⟨.inr rfl, (h5.mono (Hp.ext_le (Hp.on_new hd'.hp) vs)).rs fun j v hj => ?_⟩
    rw [Nat.zero_add, Hp.ext_at]
    exact hj
  have hmap : (parts.map fun x => (x.1, a.eval x.2)).toList = parts.toList.map fun p => (p.1, a.eval p.2) := by simp
  have hnb : ¬ (16777216 < rows.length * sz) := by omega
  by_cases h0 : rows.length * sz = 0
  · obtain ⟨zs', H', h3, h4, h5⟩ := key ((Array.range (rows.length * sz)).map (fun i => (#[] : Array Value)[i % (#[] : Array Value).size]!)) (by simp)
    refine ⟨_, _, H', ?_, h4, h5⟩
    simp only [execOp, ho, Instr.buildSlice, Sem.run_bind, run_underlying h1.und, Result.andThen_ok, run_sizeOf' h2.info, hsz]
    rw [if_neg (by omega), if_pos h0]
    simp only [Sem.run_bind, Sem.run_pure, Result.andThen_ok, hmap]
    rw [h3]
    simp [newRow]
  · obtain ⟨zs', H', h3, h4, h5⟩ := key ((Array.range (rows.length * sz)).map (fun i => z.cells[i % z.cells.size]!)) (by simp)
    refine ⟨_, _, H', ?_, h4, h5⟩
    simp only [execOp, ho, Instr.buildSlice, Sem.run_bind, run_underlying h1.und, Result.andThen_ok, run_sizeOf' h2.info, hsz]
    rw [if_neg (by omega), if_neg h0]
    simp only [Sem.run_bind, Sem.run_pure, Result.andThen_ok, hmap, run_zero' h2.info hz3]
    rw [h3]
    simp [newRow]

theorem run_append_room_off (w : World) (t ty e : TypeId) (i : TypeInfo) (ht : P.underlying t = some (.slice e)) (hi : P.info? e = some i) (e' : TypeId)
    (g off sLen sCap : Nat) (cur : Array Value) (hg : w.heap[g]? = some (.cells cur e' (0, 0)))
    (a : Addr) (m c : Nat) (news : List Value) (hl : news.length = m * i.size) (hnews : ∀ (j : Nat) (u : Value), news[j]? = some u → w.cell? (a.add j) = some u) (h1 : ∀ u ∈ news, u.oneCell' = true)
    (hroom : sLen + m ≤ sCap) (hfit : off + sLen * i.size + news.length ≤ cur.size) :
    (Builtin.append_ #[t, t] ty #[.slice (some ⟨g, off, none⟩) sLen sCap, .slice (some a) m c]).run P w =
      .ok (.slice (some ⟨g, off, none⟩) (sLen + m) sCap) (w.setRow g (splice news (off + sLen * i.size) cur.toList).toArray) := by
  have hf := run_firstCells_some (P := P) w i.size m a m c news hl hnews
  have hst := run_storeCells_at P g (off + sLen * i.size) e' news 0 cur w hg (by simpa using hfit) h1
  simp only [Nat.add_zero] at hst
  simp [Builtin.append_, run_underlying ht, sizeOf, typeInfo, hi, Builtin.lenOf, hroom, hf, Addr.add_lit, hst, splice]
end

/-- An operation that only reckons, by what is shown of it. -/
theorem at_val {E : Stc} {all rest : List Oper} {o : Oper} {s : List Fr} {env : List (Nat × SV)} {own : List (Nat × SO)} {nx : List Nat} (v : SV) (h : DoesV E.P o env own v) (k : Sat E (.ops all rest) s (put o.dst v env) own nx)
    (hg : guardK all o.guard env true false false = true := by rfl) (hd : dstLt o.dst E.n = true := by rfl) : Sat E (.ops all (o :: rest)) s env own nx := by
  intro a w hat
  have hwant : Region.wanted o (yielded all.toArray a.tmps) = true := by
    rcases guardK_wanted (E := E) (all := all) (o := o) (env := env) (own := own) (yes := true) (no := false) (stuck := false) with ⟨_, hw⟩ | ⟨h, _⟩ | h
    · exact hw a w hat
    · rw [hg] at h; cases h
    · rw [hg] at h; cases h
  unfold wpList
  rw [if_pos hwant]
  exact .inl (sat_op h.does (fun d e => by rw [e] at hd; exact Nat.blt_eq.mp hd) k hat)

/-- An operation that lays what stays. -/
theorem at_gro {E : Stc} {all rest : List Oper} {o : Oper} {s : List Fr} {env : List (Nat × SV)} {own : List (Nat × SO)} {nx : List Nat} (v : SV) (h : DoesG E.P o env own v) (k : Sat E (.ops all rest) s (put o.dst v env) own nx)
    (hg : guardK all o.guard env true false false = true := by rfl) (hd : dstLt o.dst E.n = true := by rfl) : Sat E (.ops all (o :: rest)) s env own nx := by
  intro a w hat
  have hwant : Region.wanted o (yielded all.toArray a.tmps) = true := by
    rcases guardK_wanted (E := E) (all := all) (o := o) (env := env) (own := own) (yes := true) (no := false) (stuck := false) with ⟨_, hw⟩ | ⟨h, _⟩ | h
    · exact hw a w hat
    · rw [hg] at h; cases h
    · rw [hg] at h; cases h
  unfold wpList
  rw [if_pos hwant]
  refine .inl ?_
  obtain ⟨hdf, g, H, hdn⟩ := hat
  obtain ⟨x, w', H', hr, hv, hd'⟩ := h.2 E.cx g H E.n own env a w hdn hdn
  unfold Oper.wp
  rw [hr]
  exact k _ _ (At.put hdf hd' hv fun d e => by rw [e] at hd; exact Nat.blt_eq.mp hd)

end Go.Eng
