/- The proof engine, part 6: the executor's one operation is the model's. -/
import Derived.Test.YtmnmhehddbemkaaMem
namespace Go.Eng

variable {α : Type}

/-- What the executor's answer on one operation means. -/
inductive R5 (P : Program) (m0 : Nat) (o : Oper) (env : List (Nat × SV)) (own : List (Nat × SO)) (kv : SV → α) (ko : SV → List (Nat × SO) → List Nat → α) (ks : List (Nat × SO) → α)
    (kp : Prop → SV → α) (f : α) : α → Prop
  | f : R5 P m0 o env own kv ko ks kp f f
  | v (v : SV) (h : DoesV P o env own v) : R5 P m0 o env own kv ko ks kp f (kv v)
  | o (v : SV) (own' : List (Nat × SO)) (nx' : List Nat) (h : Does P m0 o env own v own') : R5 P m0 o env own kv ko ks kp f (ko v own' nx')
  | s (own' : List (Nat × SO)) (h : Does P m0 o env own .any own') : R5 P m0 o env own kv ko ks kp f (ks own')
  | p (p : Prop) (v : SV) (h : p → DoesV P o env own v) : R5 P m0 o env own kv ko ks kp f (kp p v)

section
variable {P : Program} {m0 : Nat} {env : List (Nat × SV)} {own : List (Nat × SO)} {kv : SV → α} {ko : SV → List (Nat × SO) → List Nat → α} {ks : List (Nat × SO) → α} {kp : Prop → SV → α} {f : α}

theorem r_new {o : Oper} {t : Nat} {cs : List SV} {nx : List Nat} (h1 : SV.ones cs = true)
    (h : ∀ (cx : Cx) (g : Nat → Value) (H : Hp) (n : Nat) (a : Act) (w : World), Dn cx g H env own n a.tmps w → ∃ vs, Dens g H cs vs ∧
      (execOp a.eval o).run P w = .ok (.value (.pointer (some ⟨w.heap.size, 0, none⟩))) (w.alloc (.cells vs.toArray t))) :
    R5 P m0 o env own kv ko ks kp f (newK env own nx m0 t cs ko f) := by
  unfold newK
  split
  · exact .f
  · rename_i k nx'
    cases hm : Nat.ble m0 k with
    | false => exact .f
    | true =>
      cases hc : SV.noKs k cs with
      | false => exact .f
      | true =>
        cases hE : freshE k env with
        | false => exact .f
        | true =>
          cases hO : freshO k own with
          | false => exact .f
          | true =>
            refine .o _ _ _ fun cx g H n a w hm0 hd => ?_
            obtain ⟨vs, hv, hr⟩ := h cx g H n a w hd
            obtain ⟨hd', hp⟩ := hd.new (t := t) (by rw [hm0]; exact Nat.le_of_ble_eq_true hm) hc hE hO hv h1
            exact ⟨_, _, _, .inl hr, hp, hd'⟩

theorem und_kd {t : Nat} {k : KI} (h : (tiOf P t).kd = k) (ho : k ≠ .other) : ∃ i d, TiSpec P t i d ∧ kdOf d = k := by
  obtain ⟨i, d, hs⟩ := ti_spec (P := P) (t := t) (by rw [h]; exact ho)
  exact ⟨i, d, hs, by rw [← hs.kd, h]⟩

theorem zero_spec {t : Nat} {i : TypeInfo} {d : TypeDesc} (hs : TiSpec P t i d) (hz : (tiOf P t).zok = true) : ∃ z, i.zero = some z ∧ (tiOf P t).zero = z.cells.toList := by
  rw [hs.zok] at hz
  cases hi : i.zero with
  | none => simp [hi] at hz
  | some z => exact ⟨z, rfl, by rw [hs.zero, hi]; rfl⟩

/-- An operation that makes one block of cells. -/
def DoesN (P : Program) (o : Oper) (env : List (Nat × SV)) (own : List (Nat × SO)) (t : Nat) (cs : List SV) : Prop :=
  ∀ (cx : Cx) (g : Nat → Value) (H : Hp) (n : Nat) (a : Act) (w : World), Dn cx g H env own n a.tmps w → ∃ vs, Dens g H cs vs ∧
      (execOp a.eval o).run P w = .ok (.value (.pointer (some ⟨w.heap.size, 0, none⟩))) (w.alloc (.cells vs.toArray t))

theorem doesN_alloc {o : Oper} {t : Nat} (ho : o.op = .alloc t) (hk : (tiOf P t).kd ≠ .other) (hz : (tiOf P t).zok = true) : DoesN P o env own t (constsS (tiOf P t).zero) := by
  obtain ⟨i, d, hs⟩ := ti_spec hk
  obtain ⟨z, hz1, hz2⟩ := zero_spec hs hz
  refine fun cx g H n a w hd => ⟨z.cells.toList, by rw [hz2]; exact constsS_den g H _, ?_⟩
  simp [execOp, ho, Instr.alloc, run_zero' hs.info hz1, newVar, newRow]

theorem doesN_box {o : Oper} {t : Nat} {x : Operand} {cs : List SV} (ho : o.op = .box t x) (hc : cellsOf (ev env x) = some cs) : DoesN P o env own t cs := by
  refine fun cx g H n a w hd => ⟨(a.eval x).cells.toList, cellsOf_den hc (hd.ev x), ?_⟩
  simp [execOp, ho, Instr.box, newVar, newRow]

theorem r_alloc {o : Oper} {t : Nat} {nx : List Nat} (ho : o.op = .alloc t) (hk : (tiOf P t).kd ≠ .other) (hz : (tiOf P t).zok = true) :
    R5 P m0 o env own kv ko ks kp f (bif SV.ones (constsS (tiOf P t).zero) then newK env own nx m0 t (constsS (tiOf P t).zero) ko f else f) := by
  cases h1 : SV.ones (constsS (tiOf P t).zero) with
  | false => exact .f
  | true =>
    exact r_new h1 (doesN_alloc ho hk hz)

theorem r_box {o : Oper} {t : Nat} {x : Operand} {nx : List Nat} (ho : o.op = .box t x) :
    R5 P m0 o env own kv ko ks kp f (match cellsOf (ev env x) with | some cs => newK env own nx m0 t cs ko f | none => f) := by
  cases hc : cellsOf (ev env x) with
  | none => exact .f
  | some cs =>
    exact r_new (cellsOf_ones hc) (doesN_box ho hc)

theorem Den.ptr_inv {g : Nat → Value} {H : Hp} {k off : Nat} {x : Value} (h : Den g H (.ptr k off) x) : ∃ b, g k = .pointer (some ⟨b, 0, none⟩) ∧ x = .pointer (some ⟨b, off, none⟩) := h

/-- Cells of an own block. -/
theorem Dn.cells {cx : Cx} {g : Nat → Value} {H : Hp} {n : Nat} {tmps : Array Value} {w : World} {k ty : Nat} {cs : List SV} (h : Dn cx g H env own n tmps w) (hk : ownq own k = some (.cells ty cs)) :
    ∃ b vs, g k = .pointer (some ⟨b, 0, none⟩) ∧ Dens g H cs vs ∧ w.heap[b]? = some (.cells vs.toArray ty (0, 0)) ∧ ∀ v ∈ vs, v.oneCell' = true := by
  obtain ⟨b, vs, h1, h2, h4, h3, _⟩ := h.ok k _ hk
  exact ⟨b, vs, h1, h2, h3, h4⟩

theorem does_load_own {o : Oper} {t k off ty : Nat} {x : Operand} {cs : List SV} (ho : o.op = .load t x) (hx : ev env x = .ptr k off) (hk : ownq own k = some (.cells ty cs))
    (hs : (tiOf P t).kd = .struct) (hl : (tiOf P t).size ≤ (cs.drop off).length) : DoesV P o env own (.agg ((cs.drop off).take (tiOf P t).size)) := by
  refine does_val fun cx g H n a w hd => ?_
  obtain ⟨b, vs, hg, hv, hw, hone⟩ := hd.cells hk
  have hp := hd.ev x
  rw [hx] at hp
  obtain ⟨b', hg', he⟩ := hp
  have : b' = b := by rw [hg] at hg'; simpa using hg'.symm
  subst this
  obtain ⟨i, d, hsp, _⟩ := und_kd (P := P) hs (by simp)
  have hlen := hv.length
  have hn : ((vs.drop off).take (tiOf P t).size).length = (tiOf P t).size := by
    simp only [List.length_take, List.length_drop] at hl ⊢
    omega
  refine ⟨.agg ((vs.drop off).take (tiOf P t).size).toArray, ?_, _, rfl, (hv.drop off).take _⟩
  have := run_load_struct hsp hs (b := b') (off := off) (w := w) hn (fun j v hj => by
    rw [ok_cell hw]
    rw [List.getElem?_take] at hj
    split at hj
    · rw [List.getElem?_drop] at hj; exact hj
    · cases hj)
  simp [execOp, ho, Instr.loadAt, Instr.sureAddr, he, this]

theorem does_load_own1 {o : Oper} {t k off ty : Nat} {x : Operand} {cs : List SV} {s : SV} (ho : o.op = .load t x) (hx : ev env x = .ptr k off) (hk : ownq own k = some (.cells ty cs))
    (hs : (tiOf P t).kd ≠ .struct) (hs' : (tiOf P t).kd ≠ .other) (hl : cs[off]? = some s) : DoesV P o env own s := by
  refine does_val fun cx g H n a w hd => ?_
  obtain ⟨b, vs, hg, hv, hw, hone⟩ := hd.cells hk
  have hp := hd.ev x
  rw [hx] at hp
  obtain ⟨b', hg', he⟩ := hp
  have : b' = b := by rw [hg] at hg'; simpa using hg'.symm
  subst this
  obtain ⟨i, d, hsp⟩ := ti_spec hs'
  obtain ⟨v, h1, h2⟩ := hv.get hl
  refine ⟨v, ?_, h2⟩
  have := run_load_plain hsp hs hs' (b := b') (off := off) (w := w) (v := v) (by rw [ok_cell hw]; exact h1)
  simp [execOp, ho, Instr.loadAt, Instr.sureAddr, he, this]

theorem does_load_rp {o : Oper} {t off : Nat} {x : Operand} {row : List DV} (ho : o.op = .load t x) (hx : ev env x = .rp row off)
    (hs : (tiOf P t).kd = .struct) (hl : (tiOf P t).size ≤ (row.drop off).length) : DoesV P o env own (.agg (((row.drop off).take (tiOf P t).size).map up)) := by
  refine does_val fun cx g H n a w hd => ?_
  have hp := hd.ev x
  rw [hx] at hp
  obtain ⟨b, b0, vs, he, hv, hc⟩ := hp
  obtain ⟨i, d, hsp, _⟩ := und_kd (P := P) hs (by simp)
  have hlen := hv.length
  have hn : ((vs.drop off).take (tiOf P t).size).length = (tiOf P t).size := by
    simp only [List.length_take, List.length_drop] at hl ⊢
    omega
  refine ⟨.agg ((vs.drop off).take (tiOf P t).size).toArray, ?_, _, rfl, ups_den ((hv.drop off).take _)⟩
  have := run_load_struct hsp hs (b := b) (off := b0 + off) (w := w) hn (fun j v hj => by
    rw [List.getElem?_take] at hj
    split at hj
    · rw [List.getElem?_drop] at hj
      rw [Nat.add_assoc]
      exact hd.hp _ _ _ (hc _ _ hj)
    · cases hj)
  simp [execOp, ho, Instr.loadAt, Instr.sureAddr, he, this]

theorem does_load_rp1 {o : Oper} {t off : Nat} {x : Operand} {row : List DV} {s : DV} (ho : o.op = .load t x) (hx : ev env x = .rp row off)
    (hs : (tiOf P t).kd ≠ .struct) (hs' : (tiOf P t).kd ≠ .other) (hl : row[off]? = some s) : DoesV P o env own (up s) := by
  refine does_val fun cx g H n a w hd => ?_
  have hp := hd.ev x
  rw [hx] at hp
  obtain ⟨b, b0, vs, he, hv, hc⟩ := hp
  obtain ⟨i, d, hsp⟩ := ti_spec hs'
  obtain ⟨v, h1, h2⟩ := hv.get hl
  refine ⟨v, ?_, up_den h2⟩
  have := run_load_plain hsp hs hs' (b := b) (off := b0 + off) (w := w) (v := v) (hd.hp _ _ _ (hc _ _ h1))
  simp [execOp, ho, Instr.loadAt, Instr.sureAddr, he, this]

theorem Dens.splice {g : Nat → Value} {H : Hp} {new old : List SV} {xs vs : List Value} {off : Nat} (hn : Dens g H new xs) (ho : Dens g H old vs) :
    Dens g H (splice new off old) (splice xs off vs) := by
  unfold Eng.splice
  rw [hn.length]
  exact ((ho.take off).append hn).append (ho.drop _)

theorem does_store {o : Oper} {t k off ty : Nat} {x y : Operand} {cs new : List SV} (ho : o.op = .store t x y) (hx : ev env x = .ptr k off) (hk : ownq own k = some (.cells ty cs))
    (hy : cellsOf (ev env y) = some new) (hs : (tiOf P t).kd ≠ .other) (hl : new.length = (tiOf P t).size) (hf : off + new.length ≤ cs.length) :
    Does P m0 o env own .any (setOwn k (.cells ty (splice new off cs)) own) := by
  intro cx g H n a w hm0 hd
  obtain ⟨b, vs, hg, hv, hw, hone⟩ := hd.cells hk
  have hp := hd.ev x
  rw [hx] at hp
  obtain ⟨b', hg', he⟩ := hp
  have : b' = b := by rw [hg] at hg'; simpa using hg'.symm
  subst this
  obtain ⟨i, d, hsp⟩ := ti_spec hs
  have hn := cellsOf_den hy (hd.ev y)
  have hn1 := cellsOf_ones hy
  refine ⟨undef, _, g, .inr ⟨?_, rfl⟩, trivial, hd.write hk hg (hn.splice (off := off) hv) ?_⟩
  · have hlen := hn.length
    have hlen2 := hv.length
    have := run_storeCells_at (P := P) b' off ty (a.eval y).cells.toList 0 vs.toArray w hw (by simp only [Nat.add_zero, List.size_toArray]; omega) (hn.oneCells hn1)
    have hsz : ((a.eval y).cells.size ≠ i.size) = False := by
      rw [hsp.size] at hl
      rw [← Array.length_toList, hlen, hl]
      simp
    simp only [Nat.add_zero] at this
    simp [execOp, ho, Instr.storeAt, Instr.sureAddr, he, storeVar, run_sizeOf' hsp.info, hsz, this, splice]
  · intro v hv'
    unfold Eng.splice at hv'
    rcases List.mem_append.1 hv' with hv' | hv'
    · rcases List.mem_append.1 hv' with hv' | hv'
      · exact hone v (List.mem_of_mem_take hv')
      · exact hn.oneCells hn1 v hv'
    · exact hone v (List.mem_of_mem_drop hv')

end

end Go.Eng
