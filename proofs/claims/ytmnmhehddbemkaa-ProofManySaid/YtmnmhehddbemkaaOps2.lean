/- The proof engine, part 7: the operations that only reckon. -/
import Derived.Test.YtmnmhehddbemkaaOps
namespace Go.Eng

section
variable {P : Program} {m0 : Nat} {env : List (Nat × SV)} {own : List (Nat × SO)}

theorem does_move {o : Oper} {x : Operand} (ho : o.op = .move x ∨ o.op = .assign x) : DoesV P o env own (ev env x) := by
  refine does_val fun cx g H n a w hd => ⟨a.eval x, ?_, hd.ev x⟩
  rcases ho with ho | ho <;> simp [execOp, ho]

theorem does_pick {o : Oper} {c x y : Operand} {b : Bool} (ho : o.op = .pick c x y) (hc : ev env c = if b then .tt else .ff) : DoesV P o env own (ev env (if b then x else y)) := by
  refine does_val fun cx g H n a w hd => ?_
  have h := hd.ev c
  rw [hc] at h
  cases b with
  | true =>
    have h : a.eval c = .bool true := h
    exact ⟨a.eval x, by simp [execOp, ho, h, asBool], hd.ev x⟩
  | false =>
    have h : a.eval c = .bool false := h
    exact ⟨a.eval y, by simp [execOp, ho, h, asBool], hd.ev y⟩

theorem does_nilCheck {o : Oper} {x : Operand} (ho : o.op = .nilCheck x)
    (hx : (∃ k off, ev env x = .ptr k off) ∨ (∃ r off, ev env x = .rp r off) ∨ (∃ f cs, ev env x = .clo f cs)) : DoesV P o env own (ev env x) := by
  refine does_val fun cx g H n a w hd => ⟨a.eval x, ?_, hd.ev x⟩
  have h := hd.ev x
  rcases hx with ⟨k, off, hx⟩ | ⟨r, off, hx⟩ | ⟨f, cs, hx⟩
  · rw [hx] at h; obtain ⟨b, _, he⟩ := h; simp [execOp, ho, he]
  · rw [hx] at h; obtain ⟨b, _, _, he, _⟩ := h; simp [execOp, ho, he]
  · rw [hx] at h; obtain ⟨b, he, _⟩ := h; simp [execOp, ho, he]

theorem does_not {o : Oper} {t : Nat} {x : Operand} {b : Bool} {s : SV} (ho : o.op = .unOp .not t x) (hx : boolS (ev env x) = some b) (hs : ∀ g H, Den g H s (.bool (!b))) : DoesV P o env own s := by
  refine does_val fun cx g H n a w hd => ⟨.bool (!b), ?_, hs g H⟩
  simp [execOp, ho, boolS_den hx (hd.ev x), Op.unary]

theorem does_neg {o : Oper} {t : Nat} {x : Operand} {k : IntKind} {m : Int} (ho : o.op = .unOp .neg t x) (hx : ev env x = .int k m) (hr : inR k (0 - m)) : DoesV P o env own (.int k (0 - m)) := by
  refine does_val fun cx g H n a w hd => ?_
  have h := hd.ev x
  rw [hx] at h
  have h : a.eval x = .int k m := h
  refine ⟨.int k (0 - m), ?_, rfl⟩
  have hw := inR_wrap hr
  simp only [Int.zero_sub] at hw ⊢
  simp [execOp, ho, h, Op.unary, Op.intArith, hw]

theorem does_convInt {o : Oper} {s d : Nat} {x : Operand} {k k' j : IntKind} {m : Int} (ho : o.op = .convert s d x) (hs : (tiOf P s).kd = .int k') (hd' : (tiOf P d).kd = .int k) (hx : ev env x = .int j m) (hr : inR k m) :
    DoesV P o env own (.int k m) := by
  refine does_val fun cx g H n a w hd => ?_
  have h := hd.ev x
  rw [hx] at h
  have h : a.eval x = .int j m := h
  obtain ⟨i1, d1, s1, e1⟩ := und_kd (P := P) hs (by simp)
  obtain ⟨i2, d2, s2, e2⟩ := und_kd (P := P) hd' (by simp)
  have e1' : d1 = .int k' := by cases d1 <;> simp [kdOf] at e1; exact congrArg _ e1
  have e2' : d2 = .int k := by cases d2 <;> simp [kdOf] at e2; exact congrArg _ e2
  subst e1'; subst e2'
  exact ⟨.int k m, by simp [execOp, ho, h, convert, run_underlying s1.und, run_underlying s2.und, Conv.intToInt, inR_wrap hr], rfl⟩

theorem does_convStr {o : Oper} {s d : Nat} {x : Operand} {b : ByteArray} (ho : o.op = .convert s d x) (hs : (tiOf P s).kd = .str) (hd' : (tiOf P d).kd = .str) (hx : ev env x = .str b) :
    DoesV P o env own (.str b) := by
  refine does_val fun cx g H n a w hd => ?_
  have h := hd.ev x
  rw [hx] at h
  have h : a.eval x = .string b := h
  obtain ⟨i1, d1, s1, e1⟩ := und_kd (P := P) hs (by simp)
  obtain ⟨i2, d2, s2, e2⟩ := und_kd (P := P) hd' (by simp)
  have e1' : d1 = .string := by cases d1 <;> simp [kdOf] at e1; rfl
  have e2' : d2 = .string := by cases d2 <;> simp [kdOf] at e2; rfl
  subst e1'; subst e2'
  exact ⟨.string b, by simp [execOp, ho, h, convert, run_underlying s1.und, run_underlying s2.und], rfl⟩

theorem fis_get {fs : List Field} {i : Nat} {fi : FI} (h : (fisOf P fs)[i]? = some fi) : ∃ fl, fs[i]? = some fl ∧ fi.off = fl.offset ∧ fi.size = P.cellsOf fl.type ∧ fi.ag = isAggB P fl.type ∧ fi.ty = fl.type ∧ fi.nm = (fl.name != "_") ∧ fi.ok = ((P.info? fl.type).isSome && (P.underlying fl.type).isSome) := by
  unfold fisOf at h
  rw [List.getElem?_map] at h
  cases hf : fs[i]? with
  | none => simp [hf] at h
  | some fl =>
    simp only [hf, Option.map_some, Option.some.injEq] at h
    subst h
    exact ⟨fl, rfl, rfl, rfl, rfl, rfl, rfl, rfl⟩

theorem struct_spec {t : Nat} (h : (tiOf P t).kd = .struct) : ∃ i fs, TiSpec P t i (.struct fs) ∧ (tiOf P t).flds = fisOf P fs.toList := by
  obtain ⟨i, d, hs, e⟩ := und_kd (P := P) h (by simp)
  cases d <;> simp [kdOf] at e
  rename_i fs
  exact ⟨i, fs, hs, hs.flds⟩

theorem cellsOf_info {t n : Nat} (h : P.cellsOf t = n + 1) : ∃ i, P.info? t = some i ∧ i.size = n + 1 := by
  unfold Program.cellsOf at h
  cases hi : P.info? t with
  | none => simp [hi] at h
  | some i => exact ⟨i, rfl, by simpa [hi] using h⟩

theorem does_fieldAddr {o : Oper} {t i n : Nat} {x : Operand} {fi : FI} (ho : o.op = .fieldAddr t x i) (ht : (tiOf P t).kd = .struct) (hi : (tiOf P t).flds[i]? = some fi) (hn : fi.size = n + 1) :
    (∀ k off, ev env x = .ptr k off → DoesV P o env own (.ptr k (off + fi.off))) ∧ (∀ r off, ev env x = .rp r off → DoesV P o env own (.rp r (off + fi.off))) := by
  obtain ⟨ti, fs, hs, hf⟩ := struct_spec ht
  rw [hf] at hi
  obtain ⟨fl, h1, h2, h3, _⟩ := fis_get hi
  rw [hn] at h3
  obtain ⟨fti, h5, h6⟩ := cellsOf_info h3.symm
  have hget : fs[i]? = some fl := by simpa using h1
  have run : ∀ (b off : Nat) (w : World), (Instr.fieldAt t (.pointer (some ⟨b, off, none⟩)) i).run P w = .ok (.pointer (some ⟨b, off + fi.off, none⟩)) w := by
    intro b off w
    simp [Instr.fieldAt, run_underlying hs.und, hget, Instr.sureAddr, fieldPlace, run_sizeOf' h5, h6, addr_add, h2]
  refine ⟨fun k off hx => does_val fun cx g H n a w hd => ?_, fun r off hx => does_val fun cx g H n a w hd => ?_⟩
  · have h := hd.ev x
    rw [hx] at h
    obtain ⟨b, hg, he⟩ := h
    exact ⟨_, by simp [execOp, ho, he, run], b, hg, rfl⟩
  · have h := hd.ev x
    rw [hx] at h
    obtain ⟨b, b0, vs, he, hv⟩ := h
    exact ⟨.pointer (some ⟨b, b0 + off + fi.off, none⟩), by simp [execOp, ho, he, run], b, b0, vs, by rw [Nat.add_assoc], hv⟩

theorem run_isAgg' {t : Nat} {d : TypeDesc} (h : P.underlying t = some d) (w : World) : (isAgg t).run P w = .ok (isAggB P t) w := by
  unfold isAgg isAggB
  rw [Sem.run_bind, run_underlying h, h]
  cases d <;> rfl

theorem und_of_info {t : Nat} (h : isAggB P t = true) : ∃ d, P.underlying t = some d := by
  unfold isAggB at h
  cases hu : P.underlying t with
  | none => simp [hu] at h
  | some d => exact ⟨d, rfl⟩

theorem does_field {o : Oper} {t i : Nat} {x : Operand} {fi : FI} {l : List SV} (ho : o.op = .field t x i) (ht : (tiOf P t).kd = .struct) (hi : (tiOf P t).flds[i]? = some fi) (hx : ev env x = .agg l)
    (hok : fi.ok = true) :
    (fi.ag = true → fi.size ≤ (l.drop fi.off).length → DoesV P o env own (.agg ((l.drop fi.off).take fi.size))) ∧
    (∀ s, fi.ag = false → l[fi.off]? = some s → DoesV P o env own s) := by
  obtain ⟨ti, fs, hs, hf⟩ := struct_spec ht
  rw [hf] at hi
  obtain ⟨fl, h1, h2, h3, h4, h5, _, h7⟩ := fis_get hi
  have hget : fs[i]? = some fl := by simpa using h1
  rw [hok, eq_comm, Bool.and_eq_true] at h7
  obtain ⟨fti, hfi⟩ := Option.isSome_iff_exists.1 h7.1
  obtain ⟨d, hd0⟩ := Option.isSome_iff_exists.1 h7.2
  have hcell : P.cellsOf fl.type = fti.size := by unfold Program.cellsOf; simp [hfi]
  refine ⟨fun hag hl => does_val fun cx g H n a w hd => ?_, fun s hag hl => does_val fun cx g H n a w hd => ?_⟩
  · have h := hd.ev x
    rw [hx] at h
    obtain ⟨cs, he, hc⟩ := h
    rw [h4] at hag
    refine ⟨.agg ((cs.drop fi.off).take fi.size).toArray, ?_, _, rfl, (hc.drop _).take _⟩
    simp only [execOp, ho, he, Instr.field, Sem.run_bind, run_underlying hs.und, Result.andThen, hget, asAgg, Sem.run_pure, part, run_isAgg' hd0, hag, if_true, run_sizeOf' hfi]
    congr 3
    rw [h3, h2, hcell]
    apply Array.ext'
    simp [List.extract_eq_take_drop]
  · have h := hd.ev x
    rw [hx] at h
    obtain ⟨cs, he, hc⟩ := h
    rw [h4] at hag
    obtain ⟨v, hv1, hv2⟩ := hc.get hl
    refine ⟨v, ?_, hv2⟩
    have hv1' : cs.toArray[fl.offset]? = some v := by rw [← h2]; simpa using hv1
    simp only [execOp, ho, he, Instr.field, Sem.run_bind, run_underlying hs.und, Result.andThen, hget, asAgg, Sem.run_pure, part, run_isAgg' hd0, hag, Bool.false_eq_true, if_false, hv1']

theorem does_extract {o : Oper} {x : Operand} {i : Nat} {l : List SV} {s : SV} (ho : o.op = .extract x i) (hx : ev env x = .tup l) (hl : l[i]? = some s) : DoesV P o env own s := by
  refine does_val fun cx g H n a w hd => ?_
  have h := hd.ev x
  rw [hx] at h
  obtain ⟨cs, he, hc⟩ := h
  obtain ⟨v, h1, h2⟩ := hc.get hl
  exact ⟨v, by simp [execOp, ho, he, Instr.extract, h1], h2⟩

theorem does_makeFunc {o : Oper} {g0 : Nat} {fs caps : Array Operand} (ho : o.op = .makeFunc (.func g0) fs caps) (hfs : fs.toList = []) : DoesV P o env own (.clo g0 (evs env caps.toList)) := by
  refine does_val fun cx g H n a w hd => ?_
  have hf : fs = #[] := by rw [← Array.toArray_toList (xs := fs), hfs]
  have hev : ∀ l : List Operand, Dens g H (evs env l) (l.map a.eval) := by
    intro l
    induction l with
    | nil => trivial
    | cons x l ih => exact ⟨hd.ev x, ih⟩
  refine ⟨.func (.func g0) #[] (caps.map a.eval), ?_, caps.toList.map a.eval, ?_, hev _⟩
  · simp [execOp, ho, Instr.makeFunc, hf]
  · congr 1
    apply Array.ext'
    simp

end

end Go.Eng
