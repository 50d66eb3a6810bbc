/- The proof engine, part 14f: values behind interfaces. -/
import Derived.Test.YtmnmhehddbemkaaGro
import Derived.WideLaws
namespace Go.Eng

section
variable {P : Program} {T : Nat → TI} {env : List (Nat × SV)} {own : List (Nat × SO)}

mutual
/-- The value, of plain ones. -/
def valS : SV → Option Value
  | .int k n => some (.int k n)
  | .bl b => some (.bool b)
  | .tt => some (.bool true)
  | .ff => some (.bool false)
  | .str s => some (.string s)
  | .agg l => match valsS l with
    | some vs => some (.agg vs.toArray)
    | none => none
  | _ => none
def valsS : List SV → Option (List Value)
  | [] => some []
  | s :: l => match valS s, valsS l with
    | some v, some vs => some (v :: vs)
    | _, _ => none
end

mutual
theorem valS_den {g : Nat → Value} {H : Hp} : ∀ {s : SV} {v x : Value}, valS s = some v → Den g H s x → x = v
  | .int _ _, v, x, h, hd => by simp only [valS, Option.some.injEq] at h; subst h; exact hd
  | .bl _, v, x, h, hd => by simp only [valS, Option.some.injEq] at h; subst h; exact hd
  | .tt, v, x, h, hd => by simp only [valS, Option.some.injEq] at h; subst h; exact hd
  | .ff, v, x, h, hd => by simp only [valS, Option.some.injEq] at h; subst h; exact hd
  | .str _, v, x, h, hd => by simp only [valS, Option.some.injEq] at h; subst h; exact hd
  | .agg l, v, x, h, hd => by
    simp only [valS] at h
    cases hl : valsS l with
    | none => rw [hl] at h; cases h
    | some vs =>
      rw [hl] at h
      simp only [Option.some.injEq] at h
      subst h
      obtain ⟨cs, e, hc⟩ := hd
      rw [e, valsS_den hl hc]
  | .val _, _, _, h, _ => by simp [valS] at h
  | .lst _ _, _, _, h, _ => by simp [valS] at h
  | .gl _ _ _, _, _, h, _ => by simp [valS] at h
  | .tl _ _, _, _, h, _ => by simp [valS] at h
  | .arr _ _, _, _, h, _ => by simp [valS] at h
  | .mp _, _, _, h, _ => by simp [valS] at h
  | .ptr _ _, _, _, h, _ => by simp [valS] at h
  | .rp _ _, _, _, h, _ => by simp [valS] at h
  | .tup _, _, _, h, _ => by simp [valS] at h
  | .clo _ _, _, _, h, _ => by simp [valS] at h
  | .any, _, _, h, _ => by simp [valS] at h
theorem valsS_den {g : Nat → Value} {H : Hp} : ∀ {l : List SV} {vs xs : List Value}, valsS l = some vs → Dens g H l xs → xs = vs
  | [], vs, [], h, _ => by simp only [valsS, Option.some.injEq] at h; exact h
  | [], _, _ :: _, _, hd => hd.elim
  | s :: l, vs, [], _, hd => hd.elim
  | s :: l, vs, x :: xs, h, hd => by
    simp only [valsS] at h
    cases hs : valS s with
    | none => simp [hs] at h
    | some v =>
      cases hl : valsS l with
      | none => simp [hs, hl] at h
      | some ws =>
        simp only [hs, hl, Option.some.injEq] at h
        subst h
        rw [valS_den hs hd.1, valsS_den hl hd.2]
end

def KI.plain : KI → Bool
  | .iface => false
  | .other => false
  | _ => true

theorem plain_und {t : Nat} (h : (tiOf P t).kd.plain = true) : ∃ i d, TiSpec P t i d ∧ ∀ ms, d ≠ .interface ms := by
  obtain ⟨i, d, hs⟩ := ti_spec (P := P) (t := t) (by intro e; rw [e] at h; cases h)
  refine ⟨i, d, hs, fun ms e => ?_⟩
  subst e
  rw [hs.kd] at h
  cases h

theorem does_iface (hT : ∀ t, T t = tiOf P t) {o : Oper} {t : Nat} {x : Operand} (v : Value) (ho : o.op = .makeInterface t x) (hx : valS (ev env x) = some v) (hk : (T t).kd.plain = true) : DoesV P o env own (.val (.iface t v)) := by
  rw [hT t] at hk
  obtain ⟨i, d, hs, hd'⟩ := plain_und hk
  refine does_val fun cx g H n a w hd => ⟨.iface t v, ?_, rfl, rfl⟩
  have e := valS_den hx (hd.ev x)
  simp only [execOp, ho, Instr.makeInterface, e]
  cases d <;> first | exact absurd rfl (hd' _) | simp [run_underlying hs.und]

theorem does_assert_yes (hT : ∀ t, T t = tiOf P t) {o : Oper} {t u : Nat} {x : Operand} {v : Value} (s : SV) (ho : o.op = .typeAssert x t u true) (hx : ev env x = .val (.iface u v)) (hk : (T u).kd.plain = true) (hs : ∀ g H, Den g H s v) :
    DoesV P o env own (.tup [s, .tt]) := by
  rw [hT u] at hk
  obtain ⟨i, d, hsp, hd'⟩ := plain_und hk
  refine does_val fun cx g H n a w hd => ⟨.tuple #[v, .bool true], ?_, [v, .bool true], rfl, hs g H, rfl, trivial⟩
  have e : a.eval x = .iface u v := by have := hd.ev x; rw [hx] at this; exact this.1
  simp only [execOp, ho, Instr.typeAssert, e]
  cases d <;> first | exact absurd rfl (hd' _) | simp [run_underlying hsp.und]

theorem does_assert_no (hT : ∀ t, T t = tiOf P t) {o : Oper} {t u k : Nat} {x : Operand} {v z : Value} (s : SV) (hz : (P.info? u).bind (·.zero) = some z) (ho : o.op = .typeAssert x t u true) (hx : ev env x = .val (.iface k v)) (hk : (T u).kd.plain = true) (hne : Nat.beq k u = false) (hs : ∀ g H, Den g H s z) :
    DoesV P o env own (.tup [s, .ff]) := by
  rw [hT u] at hk
  obtain ⟨i, d, hsp, hd'⟩ := plain_und hk
  obtain ⟨i2, hi2, hz2⟩ := Option.bind_eq_some_iff.1 hz
  refine does_val fun cx g H n a w hd => ⟨.tuple #[z, .bool false], ?_, [z, .bool false], rfl, hs g H, rfl, trivial⟩
  have e : a.eval x = .iface k v := by have := hd.ev x; rw [hx] at this; exact this.1
  have hne' : k ≠ u := beq_false hne
  simp only [execOp, ho, Instr.typeAssert, e]
  cases d <;> first | exact absurd rfl (hd' _) | simp [run_underlying hsp.und, hne', run_zero' hi2 hz2]

theorem does_assert_nil (hT : ∀ t, T t = tiOf P t) {o : Oper} {t u : Nat} {x : Operand} {z : Value} (s : SV) (hz : (P.info? u).bind (·.zero) = some z) (ho : o.op = .typeAssert x t u true) (hx : ev env x = .val .nilIface) (hk : (T u).kd.plain = true) (hs : ∀ g H, Den g H s z) :
    DoesV P o env own (.tup [s, .ff]) := by
  rw [hT u] at hk
  obtain ⟨i, d, hsp, hd'⟩ := plain_und hk
  obtain ⟨i2, hi2, hz2⟩ := Option.bind_eq_some_iff.1 hz
  refine does_val fun cx g H n a w hd => ⟨.tuple #[z, .bool false], ?_, [z, .bool false], rfl, hs g H, rfl, trivial⟩
  have e : a.eval x = .nilIface := by have := hd.ev x; rw [hx] at this; exact this.1
  simp only [execOp, ho, Instr.typeAssert, e]
  cases d <;> first | exact absurd rfl (hd' _) | simp [run_underlying hsp.und, run_zero' hi2 hz2]

theorem iface_und {t : Nat} (h : (tiOf P t).kd = .iface) : P.underlying t = some (.interface (P.methodsAt t)) := by
  obtain ⟨i, d, hs⟩ := ti_spec (P := P) (t := t) (by rw [h]; intro e; cases e)
  have e := hs.kd
  rw [h] at e
  have hu := hs.und
  cases d <;> simp [kdOf] at e
  rename_i ms
  unfold Program.methodsAt
  rw [hu]

/-- Whether there is none behind an interface. -/
theorem does_isNil (hT : ∀ t, T t = tiOf P t) {o : Oper} {t ty : Nat} {x : Operand} (ho : o.op = .binOp .eql t x (.const .nilIface) ty) (hx : ev env x = .val .nilIface) (hk : (T t).kd = .iface) : DoesV P o env own .tt := by
  rw [hT t] at hk
  refine does_val fun cx g H n a w hd => ⟨.bool true, ?_, rfl⟩
  have e : a.eval x = .nilIface := by have := hd.ev x; rw [hx] at this; exact this.1
  have e2 : a.eval (.const .nilIface) = .nilIface := rfl
  have hg : (eqGuard .eql t x (.const .nilIface) .nilIface .nilIface).run P w = .ok () w := by simp [eqGuard]
  simp [execOp, ho, e, e2, hg, run_eql_nil_nil w t (iface_und hk)]
theorem does_isNil_no (hT : ∀ t, T t = tiOf P t) {o : Oper} {t ty u : Nat} {x : Operand} {v : Value} (ho : o.op = .binOp .eql t x (.const .nilIface) ty) (hx : ev env x = .val (.iface u v)) (hk : (T t).kd = .iface) : DoesV P o env own .ff := by
  rw [hT t] at hk
  refine does_val fun cx g H n a w hd => ⟨.bool false, ?_, rfl⟩
  have e : a.eval x = .iface u v := by have := hd.ev x; rw [hx] at this; exact this.1
  have e2 : a.eval (.const .nilIface) = .nilIface := rfl
  have hg : (eqGuard .eql t x (.const .nilIface) (.iface u v) .nilIface).run P w = .ok () w := by simp [eqGuard]
  simp [execOp, ho, e, e2, hg, run_eql_held_nil w t u v (iface_und hk)]
theorem does_notNil (hT : ∀ t, T t = tiOf P t) {o : Oper} {t ty u : Nat} {x : Operand} {v : Value} (ho : o.op = .binOp .neq t x (.const .nilIface) ty) (hx : ev env x = .val (.iface u v)) (hk : (T t).kd = .iface) : DoesV P o env own .tt := by
  rw [hT t] at hk
  refine does_val fun cx g H n a w hd => ⟨.bool true, ?_, rfl⟩
  have e : a.eval x = .iface u v := by have := hd.ev x; rw [hx] at this; exact this.1
  have e2 : a.eval (.const .nilIface) = .nilIface := rfl
  have hg : (eqGuard .neq t x (.const .nilIface) (.iface u v) .nilIface).run P w = .ok () w := by simp [eqGuard]
  simp [execOp, ho, e, e2, hg, run_neq_held_nil w t u v (iface_und hk)]
theorem does_notNil_no (hT : ∀ t, T t = tiOf P t) {o : Oper} {t ty : Nat} {x : Operand} (ho : o.op = .binOp .neq t x (.const .nilIface) ty) (hx : ev env x = .val .nilIface) (hk : (T t).kd = .iface) : DoesV P o env own .ff := by
  rw [hT t] at hk
  refine does_val fun cx g H n a w hd => ⟨.bool false, ?_, rfl⟩
  have e : a.eval x = .nilIface := by have := hd.ev x; rw [hx] at this; exact this.1
  have e2 : a.eval (.const .nilIface) = .nilIface := rfl
  have hg : (eqGuard .neq t x (.const .nilIface) .nilIface .nilIface).run P w = .ok () w := by simp [eqGuard]
  simp [execOp, ho, e, e2, hg, run_neq_nil_nil w t (iface_und hk)]

/-- The method of a type, as a function. -/
def methB (P : Program) (u : TypeId) (name : String) (f : FuncId) : Bool :=
  match P.info? u with
  | some i => match i.methods.find? (·.name == name) with
    | some m => m.path.isEmpty && (match m.func with | some (g, false) => Nat.beq g f | _ => false)
    | none => false
  | none => false

theorem run_meth {u f : Nat} {name : String} (h : methB P u name f = true) (hk : (tiOf P u).kd.plain = true) (hnp : (tiOf P u).kd ≠ .ptr) (n : Nat) (v : Value) (w : World) : (method (n + 1) u v name).run P w = .ok (f, v) w := by
  unfold methB at h
  split at h
  · rename_i i hi
    split at h
    · rename_i m hm
      rw [Bool.and_eq_true] at h
      obtain ⟨h1, h2⟩ := h
      split at h2
      · rename_i g hg
        have := beq_true h2
        subst this
        have hp : m.path = #[] := by simpa using h1
        obtain ⟨i2, d, hs, hd'⟩ := plain_und hk
        have hrec : ∀ wr, (receiverAt u (.val v) false wr).run P w = .ok v w := by
          intro wr
          unfold receiverAt
          have hkd := hs.kd
          cases d <;> first | (exact absurd hkd (by simpa [kdOf] using hnp)) | simp [run_underlying hs.und, Place.get]
        simp [method, run_typeInfo' hi, hm, hp, follow, hg, hrec]
      · cases h2
    · cases h
  · cases h

end

/-- A method that only reckons, by the type behind the interface. -/
theorem at_invoke {E : Stc} {all rest : List Oper} {o : Oper} {s : List Fr} {env : List (Nat × SV)} {own : List (Nat × SO)} {nx : List Nat} {c : Call} {x : Operand} {u f : Nat} {name : String} {v : Value} {sv res : SV} {args : List SV} {as : List Operand}
    (hmeth : methB E.P u name f = true) (hk : (tiOf E.P u).kd.plain = true) (hnp : (tiOf E.P u).kd ≠ .ptr)
    (hC : Gives E.P f (sv :: args) res) (ho : o.op = .call c) (hcl : c.callee = .invoke x name) (has : c.args.toList = as) (hx : ev env x = .val (.iface u v)) (hsv : ∀ g H, Den g H sv v) (hargs : evs env as = args) (k : Sat E (.ops all rest) s (put o.dst res env) own nx)
    (hg : guardK all o.guard env true false false = true := by rfl) (hd : dstLt o.dst E.n = true := by rfl) : Sat E (.ops all (o :: rest)) s env own nx := by
  intro a w hat
  have hwant := wanted_of (E := E) (own := own) hg a w hat
  unfold wpList
  rw [if_pos hwant]
  refine .inl ?_
  obtain ⟨hdf, g, H, hdn⟩ := hat
  have ex : a.eval x = .iface u v := by have := hdn.ev x; rw [hx] at this; exact this.1
  have hev : ∀ l : List Operand, Dens g H (evs env l) (l.map a.eval) := by
    intro l
    induction l with
    | nil => trivial
    | cons x l ih => exact ⟨hdn.ev x, ih⟩
  have hvs : Dens g H (sv :: args) (v :: as.map a.eval) := ⟨hsv g H, by rw [← hargs]; exact hev as⟩
  have hrun : (execOp a.eval o).run E.P w = .ok (.enter f (v :: as.map a.eval).toArray) w := by
    have e1 : c.args = as.toArray := by rw [← has]
    obtain ⟨n, hn⟩ : ∃ n, E.P.types.size + Made.depth = n + 1 := ⟨E.P.types.size + Made.depth - 1, by unfold Made.depth; omega⟩
    have hm := run_meth (P := E.P) hmeth hk hnp n v w
    simp only [execOp, ho, resolve, hcl, ex, e1]
    simp [invoke, callMethod, hn, hm]
    have ht : (as.map a.eval).take as.length = as.map a.eval := List.take_of_length_le (by simp)
    rw [ht]
    exact hC.1 _ _
  have hcall := hC.2 g H w _ hdn.hp (fun k o hk => by simp [ownq] at hk) (fun i j hi => by simp [ownq] at hi) hvs
  unfold Oper.wp
  rw [hrun]
  refine hcall.mono fun e w' he => ?_
  cases e with
  | panicked c => exact he.elim
  | outgrown => exact he.elim
  | returned r =>
    obtain ⟨sv', post, ⟨h1, h2, h3⟩, hb⟩ := hdn.called (r := fun k => k) (pre := []) (m := 0) trivial (fun k hk => absurd hk (Nat.not_lt_zero k)) he
    subst h1; subst h3
    obtain ⟨H', hv2, hd2⟩ := hb h2 rfl rfl
    rw [ren_id] at hv2
    exact k _ _ (At.put hdf hd2 hv2 fun d e => by rw [e] at hd; exact Nat.blt_eq.mp hd)

end Go.Eng
