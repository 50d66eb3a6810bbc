/- The proof engine, part 4: what each operation does, in the model. -/
import Derived.Test.YtmnmhehddbemkaaCps
namespace Go.Eng

section
variable {P : Program}

theorem run_typeInfo' {t : TypeId} {i : TypeInfo} (h : P.info? t = some i) (w : World) : (typeInfo t).run P w = .ok i w := by
  simp [typeInfo, h]
theorem run_sizeOf' {t : TypeId} {i : TypeInfo} (h : P.info? t = some i) (w : World) : (sizeOf t).run P w = .ok i.size w := by
  simp [sizeOf, run_typeInfo' h]
theorem run_zero' {t : TypeId} {i : TypeInfo} {z : Value} (h : P.info? t = some i) (hz : i.zero = some z) (w : World) : (zeroValue t).run P w = .ok z w := by
  simp [zeroValue, run_typeInfo' h, hz]

/-- What the table says is what the program says. -/
structure TiSpec (P : Program) (t : TypeId) (i : TypeInfo) (d : TypeDesc) : Prop where
  info : P.info? t = some i
  und : P.underlying t = some d
  kd : (tiOf P t).kd = kdOf d
  size : (tiOf P t).size = i.size
  zok : (tiOf P t).zok = i.zero.isSome
  zero : (tiOf P t).zero = zeroL i.zero
  flds : (tiOf P t).flds = fldsL P d
  elem : (tiOf P t).elem = elemL d
  bytes : (tiOf P t).bytes = i.bytes
  flat : (tiOf P t).flat = flatB P t

theorem ti_spec {t : TypeId} (h : (tiOf P t).kd ≠ .other) : ∃ i d, TiSpec P t i d := by
  have hb : Nat.blt t P.types.size = true := by
    cases hb : Nat.blt t P.types.size with
    | true => rfl
    | false => exact absurd (by simp [tiOf, hb, TI.bad]) h
  cases hi : P.info? t with
  | none => exact absurd (by simp [tiOf, hb, hi, TI.bad]) h
  | some i =>
    cases hd : P.underlying t with
    | none => exact absurd (by simp [tiOf, hb, hi, hd, TI.bad]) h
    | some d =>
      have e : tiOf P t = tiOf1 P t i d := by simp [tiOf, hb, hi, hd]
      have hk : (kdOf d).isOther = false := by
        cases hk : (kdOf d).isOther with
        | false => rfl
        | true => exact absurd (by rw [e, tiOf1, hk]; rfl) h
      have e1 : tiOf1 P t i d = { kd := kdOf d, size := i.size, zok := i.zero.isSome, zero := zeroL i.zero, flds := fldsL P d, elem := elemL d, bytes := i.bytes, flat := flatB P t } := by
        rw [tiOf1, hk]; rfl
      refine ⟨i, d, ⟨hi, hd, ?_, ?_, ?_, ?_, ?_, ?_, ?_, ?_⟩⟩ <;> rw [e, e1]

theorem TiSpec.run_agg {t : TypeId} {i : TypeInfo} {d : TypeDesc} (h : TiSpec P t i d) (hk : (tiOf P t).kd = .struct) (w : World) : (isAgg t).run P w = .ok true w := by
  have := h.kd
  rw [hk] at this
  cases d <;> simp [kdOf] at this
  simp [isAgg, run_underlying h.und]
theorem TiSpec.run_plain {t : TypeId} {i : TypeInfo} {d : TypeDesc} (h : TiSpec P t i d) (hk : (tiOf P t).kd ≠ .struct) (ho : (tiOf P t).kd ≠ .other) (w : World) : (isAgg t).run P w = .ok false w := by
  have := h.kd
  cases d <;> simp [kdOf] at this <;> first | (exact absurd this hk) | (exact absurd this ho) | simp [isAgg, run_underlying h.und]

theorem ok_cell {b : Nat} {vs : List Value} {ty : Nat} {fr : Nat × Nat} {w : World} (h : w.heap[b]? = some (.cells vs.toArray ty fr)) (o : Nat) : w.cell? ⟨b, o, none⟩ = vs[o]? := by
  simp [World.cell?, h]

theorem addr_add (b o n : Nat) : (Addr.mk b o none).add n = ⟨b, o + n, none⟩ := by
  unfold Addr.add
  split
  · subst_vars; rfl
  · rfl

/-- Reading n cells that are known. -/
theorem run_cells {b off : Nat} {vs : List Value} {w : World} (h : ∀ j v, vs[j]? = some v → w.cell? ⟨b, off + j, none⟩ = some v) :
    (loadCells ⟨b, off, none⟩ vs.length).run P w = .ok vs.toArray w :=
  run_loadCells_list w ⟨b, off, none⟩ vs fun j v hj => by rw [addr_add]; exact h j v hj

theorem run_load_struct {t : TypeId} {i : TypeInfo} {d : TypeDesc} (h : TiSpec P t i d) (hk : (tiOf P t).kd = .struct) {b off : Nat} {vs : List Value} {w : World}
    (hn : vs.length = (tiOf P t).size) (hc : ∀ j v, vs[j]? = some v → w.cell? ⟨b, off + j, none⟩ = some v) :
    (loadVar t ⟨b, off, none⟩).run P w = .ok (.agg vs.toArray) w := by
  have := run_cells (P := P) hc
  rw [hn, h.size] at this
  simp [loadVar, h.run_agg hk, run_sizeOf' h.info, this]

theorem run_load_plain {t : TypeId} {i : TypeInfo} {d : TypeDesc} (h : TiSpec P t i d) (hk : (tiOf P t).kd ≠ .struct) (ho : (tiOf P t).kd ≠ .other) {b off : Nat} {v : Value} {w : World}
    (hc : w.cell? ⟨b, off, none⟩ = some v) : (loadVar t ⟨b, off, none⟩).run P w = .ok v w := by
  simp [loadVar, h.run_plain hk ho, hc]

end

/-- What an operation that takes one step does: the value, the world behind it. -/
def Does (P : Program) (m0 : Nat) (o : Oper) (env : List (Nat × SV)) (own : List (Nat × SO)) (v : SV) (own' : List (Nat × SO)) : Prop :=
  ∀ (cx : Cx) (g : Nat → Value) (H : Hp) (n : Nat) (a : Act) (w : World), cx.m0 = m0 → Dn cx g H env own n a.tmps w →
    ∃ x w' g', ((execOp a.eval o).run P w = .ok (.value x) w' ∨ ((execOp a.eval o).run P w = .ok .skip w' ∧ x = undef)) ∧ Den g' H v x ∧ Dn cx g' H env own' n a.tmps w'

theorem Dn.ev {cx : Cx} {g : Nat → Value} {H : Hp} {env : List (Nat × SV)} {own : List (Nat × SO)} {n : Nat} {a : Act} {w : World} (h : Dn cx g H env own n a.tmps w) (x : Operand) :
    Den g H (ev env x) (a.eval x) := by
  cases x with
  | tmp t => exact h.den t
  | const v => exact constS_den g H v
  | func f => exact ⟨[], rfl, trivial⟩
  | global n => trivial

/-- An operation that only reckons. -/
def DoesV (P : Program) (o : Oper) (env : List (Nat × SV)) (own : List (Nat × SO)) (v : SV) : Prop :=
  ∀ (cx : Cx) (g : Nat → Value) (H : Hp) (n : Nat) (a : Act) (w : World), Dn cx g H env own n a.tmps w → ∃ x, (execOp a.eval o).run P w = .ok (.value x) w ∧ Den g H v x

theorem DoesV.does {P : Program} {m0 : Nat} {o : Oper} {env : List (Nat × SV)} {own : List (Nat × SO)} {v : SV} (h : DoesV P o env own v) : Does P m0 o env own v own :=
  fun cx g H n a w _ hd => let ⟨x, h1, h2⟩ := h cx g H n a w hd; ⟨x, w, g, .inl h1, h2, hd⟩

theorem does_val {P : Program} {o : Oper} {env : List (Nat × SV)} {own : List (Nat × SO)} {v : SV}
    (h : ∀ (cx : Cx) (g : Nat → Value) (H : Hp) (n : Nat) (a : Act) (w : World), Dn cx g H env own n a.tmps w → ∃ x, (execOp a.eval o).run P w = .ok (.value x) w ∧ Den g H v x) : DoesV P o env own v := h

end Go.Eng
