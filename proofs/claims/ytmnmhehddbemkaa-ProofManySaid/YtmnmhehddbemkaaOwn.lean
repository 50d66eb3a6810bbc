/- The proof engine, part 14g: own things that a call hands back; maps; bytes. -/
import Derived.Test.YtmnmhehddbemkaaIfc
import Derived.Laws.BytesString
import Derived.Carry
namespace Go.Eng

/-- A thing of its own is held by a name. -/
theorem Dn.bind {cx : Cx} {g : Nat → Value} {H : Hp} {env : List (Nat × SV)} {own : List (Nat × SO)} {n : Nat} {tmps : Array Value} {w : World} {k : Nat} {x : Value} {so : SO}
    (h : Dn cx g H env own n tmps w) (hm : cx.m0 ≤ k) (hE : freshE k env = true) (hO : freshO k own = true) (hok : OwnOk cx.mine (Eng.upd g k x) H w k so)
    (hb : ∀ b, blkOf x = some b → ∀ j o, ownq own j = some o → blkOf (g j) ≠ some b) : Dn cx (Eng.upd g k x) H env ((k, so) :: own) n tmps w := by
  have hne : ∀ i, i ≠ k → Eng.upd g k x i = g i := fun i hi => upd_ne _ _ _ i hi
  refine { size := h.size, den := fun t => Den.upd hne _ _ (freshE_nth t hE) (h.den t), ok := fun j o hj => ?_, inj := fun i j hi hj b hbi hbj => ?_, hp := h.hp, base := { h.base with fix := fun j hj => by rw [hne j (by omega)]; exact h.base.fix j hj } }
  · simp only [ownq] at hj
    cases hb : Nat.beq k j with
    | true =>
      have := beq_true hb
      subst this
      simp only [hb, cond_true, Option.some.injEq] at hj
      subst hj
      exact hok
    | false =>
      simp only [hb, cond_false] at hj
      exact (h.ok j o hj).upd (freshO_own hO hj)
  · have key : ∀ j b, (ownq ((k, so) :: own) j).isSome = true → blkOf (Eng.upd g k x j) = some b → (j = k ∧ ∀ i o, ownq own i = some o → blkOf (g i) ≠ some b) ∨ (j ≠ k ∧ (ownq own j).isSome = true ∧ blkOf (g j) = some b) := by
      intro j b hj hbj
      by_cases hjk : j = k
      · subst hjk
        rw [upd_same] at hbj
        exact .inl ⟨rfl, hb b hbj⟩
      · have hbf : Nat.beq k j = false := by
          cases hb' : Nat.beq k j with
          | false => rfl
          | true => exact absurd (beq_true hb').symm hjk
        simp only [ownq, hbf, cond_false] at hj
        rw [hne j hjk] at hbj
        exact .inr ⟨hjk, hj, hbj⟩
    rcases key i b hi hbi with ⟨e1, e2⟩ | ⟨n1, o1, b1⟩ <;> rcases key j b hj hbj with ⟨e3, e4⟩ | ⟨n2, o2, b2⟩
    · rw [e1, e3]
    · cases ho : ownq own j with
      | none => rw [ho] at o2; cases o2
      | some o => exact absurd b2 (e2 j o ho)
    · cases ho : ownq own i with
      | none => rw [ho] at o1; cases o1
      | some o => exact absurd b1 (e4 i o ho)
    · exact h.inj i j o1 o2 b b1 b2

section
variable {E : Stc} {all rest : List Oper} {o : Oper} {s : List Fr} {env : List (Nat × SV)} {own own2 : List (Nat × SO)} {nx : List Nat}

/-- A call that is handed a list with room of its own, and hands one back. -/
theorem at_growF (k k' sz : Nat) {rows : List (List DV)} {f : Nat} {args : List SV} (hC : Contract E.P f 1 [(0, .tok sz)] args fun s post => s = .gl 1 sz rows ∧ post = [(1, .tok sz)]) (hc : callK o.op env (fun f l => some (f, l)) none = some (f, rens (fun _ => k) args))
    (hk : ownq own k = some (.tok sz)) (ho : lessK k own some = some own2) (kk : Sat E (.ops all rest) s (put o.dst (.gl k' sz rows) (degE k env)) ((k', .tok sz) :: own2) nx)
    (hm : Nat.ble E.cx.m0 k' = true := by rfl) (hE : freshE k' (degE k env) = true := by rfl) (hO : freshO k' own2 = true := by rfl)
    (hg : guardK all o.guard env true false false = true := by rfl) (hd : dstLt o.dst E.n = true := by rfl) : Sat E (.ops all (o :: rest)) s env own nx := by
  intro a w hat
  have hwant := wanted_of (E := E) (own := own) hg a w hat
  rw [lessK_eq] at ho
  simp only [Option.some.injEq] at ho
  subst ho
  unfold wpList
  rw [if_pos hwant]
  refine .inl ?_
  obtain ⟨hdf, g, H, hdn⟩ := hat
  obtain ⟨vs, hv, hr⟩ := run_call (P := E.P) hdn hC.1 hc
  have hpre : pres (fun _ => k) own [(0, .tok sz)] := ⟨hk, trivial⟩
  have hv' : Dens (fun j => g ((fun _ => k) j)) H args vs := Dens.unren (g' := g) (r := fun _ => k) (fun _ => rfl) args vs hv
  have key : ∀ i, (ownq [(0, SO.tok sz)] i).isSome = true → i = 0 := by
    intro i hi
    cases i with
    | zero => rfl
    | succ i => exact absurd hi (by show ¬ (false = true); simp)
  have hok : ∀ j o, ownq [(0, SO.tok sz)] j = some o → OwnOk (fun _ => True) (fun _ => g k) H w j o := by
    intro j o hj
    have h0 := key j (by rw [hj]; rfl)
    subst h0
    have e : SO.tok sz = o := by simpa [ownq] using hj
    subst e
    obtain ⟨ad, q, c, e, q1, hle, q2⟩ := hdn.ok k _ hk
    refine ⟨ad, q, c, e, q1, hle, fun p hpa hlt => ?_⟩
    obtain ⟨q3, _, q5⟩ := q2 p hpa hlt
    exact ⟨q3, trivial, q5⟩
  have hinj : InjOn (fun _ => g k) [(0, SO.tok sz)] := by
    intro i j hi hj _ _ _
    rw [key i hi, key j hj]
  have hcall := hC.2 (fun _ => g k) H w vs hdn.hp hok hinj hv'
  unfold Oper.wp
  rw [hr]
  refine hcall.mono fun e w' he => ?_
  cases e with
  | panicked c => exact he.elim
  | outgrown => exact he.elim
  | returned x =>
    obtain ⟨g', H', sv, post, ⟨rfl, rfl⟩, hx, hok', _, hon, hb⟩ := he
    obtain ⟨hd2, hother⟩ := hdn.left (r := fun _ => k) (own2 := rm1 k own) hpre hb hon (fun j o hj => ⟨rm1_own hj, fun i _ => (rm1_less k own j o hj).1⟩)
    obtain ⟨hx1, hx2⟩ := hx
    obtain ⟨ad, q, c, e, q1, hle, q2⟩ := hok' 1 (.tok sz) rfl
    rw [← hx2] at e
    have hsp : Spare w' H' sz x fun b => E.cx.mine b ∧ ∀ j o, ownq (rm1 k own) j = some o → blkOf (g j) ≠ some b := by
      refine ⟨ad, q, c, e, q1, hle, fun p hpa hlt => ?_⟩
      obtain ⟨q3, q4, q5⟩ := q2 p hpa hlt
      exact ⟨q3, hother _ q4, q5⟩
    obtain ⟨hd3, hp⟩ := (hd2.le (degE_le k env) (fun _ _ h => h)).tok (Nat.le_of_ble_eq_true hm) hE hO hx1 hsp
    exact kk _ _ (At.put hdf hd3 hp fun d e => by rw [e] at hd; exact Nat.blt_eq.mp hd)

/-- A call that hands back a thing of its own: a map. -/
theorem at_mapF (k' : Nat) {F : Hp → Obj → Prop} {f : Nat} {args : List SV} (hC : Contract E.P f 0 [] args fun s post => s = .mp 0 ∧ post = [(0, .obj F)]) (hc : callK o.op env (fun f l => some (f, l)) none = some (f, args))
    (kk : Sat E (.ops all rest) s (put o.dst (.mp k') env) ((k', .obj F) :: own) nx)
    (hm : Nat.ble E.cx.m0 k' = true := by rfl) (hE : freshE k' env = true := by rfl) (hO : freshO k' own = true := by rfl)
    (hg : guardK all o.guard env true false false = true := by rfl) (hd : dstLt o.dst E.n = true := by rfl) : Sat E (.ops all (o :: rest)) s env own nx := by
  intro a w hat
  have hwant := wanted_of (E := E) (own := own) hg a w hat
  unfold wpList
  rw [if_pos hwant]
  refine .inl ?_
  obtain ⟨hdf, g, H, hdn⟩ := hat
  obtain ⟨vs, hv, hr⟩ := run_call (P := E.P) hdn hC.1 hc
  have hcall := hC.2 g H w vs hdn.hp (fun k o hk => by simp [ownq] at hk) (fun i j hi => by simp [ownq] at hi) hv
  unfold Oper.wp
  rw [hr]
  refine hcall.mono fun e w' he => ?_
  cases e with
  | panicked c => exact he.elim
  | outgrown => exact he.elim
  | returned x =>
    obtain ⟨g', H', sv, post, ⟨rfl, rfl⟩, ⟨q, hx1, hx2⟩, hok', _, hon, hb⟩ := he
    obtain ⟨hd2, hother⟩ := hdn.left (r := fun k => k) (pre := []) (own2 := own) trivial hb hon (fun j o hj => ⟨hj, fun k hk => by simp [ownq] at hk⟩)
    obtain ⟨q', ob, e, r1, r2, r3, r4⟩ := hok' 0 (.obj F) rfl
    rw [hx1] at e
    simp only [Value.map.injEq, Option.some.injEq] at e
    subst e
    have ho := hother q r4
    have hd3 := hd2.bind (x := x) (so := .obj F) (Nat.le_of_ble_eq_true hm) hE hO ⟨q, ob, by rw [upd_same, hx2], r1, r2, r3, ho.1⟩ (fun b hbx j o hj => by
      rw [hx2] at hbx
      simp only [blkOf, Option.some.injEq] at hbx
      subst hbx
      exact ho.2 j o hj)
    exact kk _ _ (At.put hdf hd3 ⟨q, by rw [upd_same, hx2], hx2⟩ fun d e => by rw [e] at hd; exact Nat.blt_eq.mp hd)

/-- A list with room of its own gets another name. -/
theorem at_rename {m : Md} (t k k' sz : Nat) {rows : List (List DV)} (ht : nth env t = .gl k sz rows) (hk : ownq own k = some (.tok sz)) (ho : lessK k own some = some own2) (kk : Sat E m s ((t, .gl k' sz rows) :: degE k env) ((k', .tok sz) :: own2) nx)
    (hm : Nat.ble E.cx.m0 k' = true := by rfl) (hE : freshE k' (degE k env) = true := by rfl) (hO : freshO k' own2 = true := by rfl) : Sat E m s env own nx := by
  rw [lessK_eq] at ho
  simp only [Option.some.injEq] at ho
  subst ho
  refine sat_mono (fun a w hat => ?_) kk
  obtain ⟨hdf, g, H, hdn⟩ := hat
  have hx := hdn.den t
  rw [ht] at hx
  obtain ⟨hx1, hx2⟩ := hx
  obtain ⟨ad, q, c, e, q1, hle, q2⟩ := hdn.ok k _ hk
  have hsp : Spare w H sz (a.tmps.getD t undef) fun b => E.cx.mine b ∧ ∀ j o, ownq (rm1 k own) j = some o → blkOf (g j) ≠ some b := by
    refine ⟨ad, q, c, by rw [hx2, e], q1, hle, fun p hpa hlt => ?_⟩
    obtain ⟨q3, q4, q5⟩ := q2 p hpa hlt
    refine ⟨q3, ⟨q4, fun j o hj ej => ?_⟩, q5⟩
    have hl := rm1_less k own j o hj
    exact hl.1 (hdn.inj j k (by rw [hl.2]; rfl) (by rw [hk]; rfl) p.block ej (by rw [e, hpa]; simp [blkOf, Nat.blt_eq.mpr hlt]))
  have hd2 := (hdn.lessO (rm1_less k own)).le (degE_le k env) (fun _ _ h => h)
  obtain ⟨hd3, hp⟩ := hd2.tok (Nat.le_of_ble_eq_true hm) hE hO hx1 hsp
  refine ⟨hdf, _, H, { hd3 with den := fun i => ?_ }⟩
  simp only [nth]
  cases hb : Nat.beq t i with
  | true =>
    have := beq_true hb
    subst this
    exact hp
  | false => exact hd3.den i

/-- A map that has no entries. -/
def noMap : Hp → Obj → Prop := fun _ o => ∃ c, o = .map #[] c

/-- A map is made. -/
theorem at_mkmap (k' : Nat) {t : Nat} (ho : o.op = .makeMap t none) (kk : Sat E (.ops all rest) s (put o.dst (.mp k') env) ((k', .obj noMap) :: own) nx)
    (hm : Nat.ble E.cx.m0 k' = true := by rfl) (hE : freshE k' env = true := by rfl) (hO : freshO k' own = true := by rfl)
    (hg : guardK all o.guard env true false false = true := by rfl) (hd : dstLt o.dst E.n = true := by rfl) : Sat E (.ops all (o :: rest)) s env own nx := by
  intro a w hat
  have hwant := wanted_of (E := E) (own := own) hg a w hat
  unfold wpList
  rw [if_pos hwant]
  refine .inl ?_
  obtain ⟨hdf, g, H, hdn⟩ := hat
  have hr : (execOp a.eval o).run E.P w = .ok (.value (.map (some w.heap.size))) (w.alloc (.map #[] 0)) := by
    simp [execOp, ho, Instr.makeMap]
  have hd2 := hdn.grown (w' := w.alloc (.map #[] 0)) rfl rfl rfl (by simp) (fun b hb => heap_alloc_lt w _ hb) (fun b => RowKit.frozen?_alloc_map w #[] 0 b)
  have hnew := hdn.new_ok (Nat.le_refl w.heap.size)
  have hd3 := hd2.bind (k := k') (x := .map (some w.heap.size)) (so := .obj noMap) (Nat.le_of_ble_eq_true hm) hE hO ⟨w.heap.size, _, upd_same _ _ _, heap_alloc_new w _, fun _ _ => ⟨0, rfl⟩, fun j => Hp.on_new hdn.hp j, hnew.1⟩ (fun b hbx j o hj => by
    simp only [blkOf, Option.some.injEq] at hbx
    subst hbx
    exact hnew.2 j o hj)
  unfold Oper.wp
  rw [hr]
  exact kk _ _ (At.put hdf hd3 ⟨w.heap.size, upd_same _ _ _, rfl⟩ fun d e => by rw [e] at hd; exact Nat.blt_eq.mp hd)
end

section
variable {P : Program} {T : Nat → TI} {env : List (Nat × SV)} {own : List (Nat × SO)}

/-- Nothing is found where there is nothing. -/
theorem does_lookup0 {o : Oper} {t k e q : Nat} {x y : Operand} {str : ByteArray} {z : Value} (s : SV) (ht : P.underlying t = some (.map k e)) (hks : P.underlying k = some .string) (hz : (P.info? e).bind (·.zero) = some z) (ho : o.op = .lookup t x y true) (hx : ev env x = .mp q) (hy : ev env y = .str str) (hq : ownq own q = some (.obj noMap)) (hs : ∀ g H, Den g H s z) :
    DoesV P o env own (.tup [s, .ff]) := by
  obtain ⟨i2, hi2, hz2⟩ := Option.bind_eq_some_iff.1 hz
  refine does_val fun cx g H n a w hd => ⟨.tuple #[z, .bool false], ?_, [z, .bool false], rfl, hs g H, rfl, trivial⟩
  obtain ⟨r, ob, e1, h1, h2, _⟩ := hd.ok q _ hq
  obtain ⟨c, rfl⟩ := h2 H (Hp.le_refl H)
  have ex := hd.ev x
  rw [hx] at ex
  obtain ⟨r', e2, e3⟩ := ex
  rw [e1] at e2
  simp only [Value.map.injEq, Option.some.injEq] at e2
  subst e2
  have ey : a.eval y = .string str := by have := hd.ev y; rw [hy] at this; exact this
  have hck : ∀ em, (Instr.checkKey em 10000 k (.string str)).run P w = .ok () w := by
    intro em
    rw [show (10000 : Nat) = 9999 + 1 from rfl, Instr.checkKey]
    simp [run_underlying hks]
  have hget : (getObj r).run P w = .ok (.map #[] c) w := by simp [getObj, Sem.run, h1]
  have hfind : (Instr.findKey k (.string str) []).run P w = .ok none w := by simp [Instr.findKey, run_underlying hks, Instr.findNow]
  have hl : (Instr.lookup t (.map (some r)) (.string str) true).run P w = .ok (.tuple #[z, .bool false]) w := by
    unfold Instr.lookup
    simp [run_underlying ht, hget, hck, hfind, run_zero' hi2 hz2]
  simp only [execOp, ho, e3, ey]
  simp [hl]

/-- Shifted to the right. -/
theorem does_shr {o : Oper} {t ty : Nat} {x y : Operand} {k k2 : IntKind} {a b : Int} (ho : o.op = .binOp .shr t x y ty) (hx : ev env x = .int k a) (hy : ev env y = .int k2 b) (hb : 0 ≤ b) :
    DoesV P o env own (.int k (a.fdiv (2 ^ (min b.toNat k.bits)))) := by
  refine does_bin ho fun g H u v w hu hv => ?_
  rw [hx] at hu
  rw [hy] at hv
  have hu : u = .int k a := hu
  have hv : v = .int k2 b := hv
  subst hu; subst hv
  refine ⟨_, by rw [eqGuard_at_int]; rfl, ?_, rfl⟩
  simp [binOp, Op.shift, show ¬ b < 0 by omega]

/-- The lower bits of a number. -/
theorem does_wrap (hT : ∀ t, T t = tiOf P t) {o : Oper} {s d : Nat} {x : Operand} {k k2 : IntKind} {n : Int} (ho : o.op = .convert s d x) (hx : ev env x = .int k2 n) (hs : (T s).kd = .int k2) (hd : (T d).kd = .int k) : DoesV P o env own (.int k (k.wrap n)) := by
  rw [hT s] at hs
  rw [hT d] at hd
  obtain ⟨i1, d1, h1, e1⟩ := und_kd hs (by simp)
  obtain ⟨i2, d2, h2, e2⟩ := und_kd hd (by simp)
  have e1' : d1 = .int k2 := by cases d1 <;> simp [kdOf] at e1; rw [e1]
  have e2' : d2 = .int k := by cases d2 <;> simp [kdOf] at e2; rw [e2]
  subst e1'; subst e2'
  refine does_val fun cx g H q a w hdn => ⟨.int k (k.wrap n), ?_, rfl⟩
  have e : a.eval x = .int k2 n := by have := hdn.ev x; rw [hx] at this; exact this
  simp [execOp, ho, e, convert, run_underlying h1.und, run_underlying h2.und, Conv.intToInt]

abbrev bytesR (ns : List Int) : List (List DV) := ns.map fun n => [.int .u8 n]
def bytesS (ns : List Int) : ByteArray := ns.foldl (fun r n => r.push (UInt8.ofNat n.toNat)) ByteArray.empty

theorem flat_bytes {H : Hp} : ∀ {ns : List Int} {vs : List Value}, DenF H 1 (bytesR ns) vs → vs = ns.map (Value.int .u8)
  | [], vs, h => h
  | n :: ns, vs, h => by
    obtain ⟨v1, v2, e, h1, _, h3⟩ := h
    subst e
    rw [flat_bytes h3]
    cases v1 with
    | nil => exact h1.elim
    | cons x v1 =>
      cases v1 with
      | nil =>
        have : x = .int .u8 n := h1.1
        rw [this]
        rfl
      | cons _ _ => exact h1.2.elim

/-- Bytes as a text. -/
theorem does_bytesStr (hT : ∀ t, T t = tiOf P t) {o : Oper} {s d : Nat} {x : Operand} {ns : List Int} (ho : o.op = .convert s d x) (hx : lstv (ev env x) = some (1, bytesR ns)) (hs : (T s).kd = .slice) (he : (T (T s).elem).kd = .int .u8) (hd : (T d).kd = .str) : DoesV P o env own (.str (bytesS ns)) := by
  rw [hT s] at hs
  rw [hT (T s).elem, hT s] at he
  rw [hT d] at hd
  obtain ⟨i1, h1⟩ := slice_ti hs
  obtain ⟨i2, d2, h2, e2⟩ := und_kd hd (by simp)
  obtain ⟨i3, d3, h3, e3⟩ := und_kd he (by simp)
  have e2' : d2 = .string := by cases d2 <;> simp [kdOf] at e2; rfl
  have e3' : d3 = .int .u8 := by cases d3 <;> simp [kdOf] at e3; rw [e3]
  subst e2'; subst e3'
  refine does_val fun cx g H q a w hdn => ⟨.string (bytesS ns), ?_, rfl⟩
  obtain ⟨ad, c, e, hc, hn, hp⟩ := lstv_den hx (hdn.ev x)
  have hlen : (bytesR ns).length = ns.length := by simp
  rw [hlen] at e
  have hconv : (Conv.bytesToString (.slice ad ns.length c)).run P w = .ok (.string (bytesS ns)) w := by
    cases had : ad with
    | none =>
      have := (hn had).1
      have : ns = [] := by simpa using this
      subst this
      simp [Conv.bytesToString, bytesS]
    | some p =>
      obtain ⟨hs', hR⟩ := hp p had
      obtain ⟨nv, hf, hcell⟩ := hR.flat
      have hnv := flat_bytes hf
      subst hnv
      refine run_bytesToString w p ns.length c ns ?_
      have hl := run_loadCells_list (P := P) w p (ns.map (Value.int .u8)) fun j v hj => by
        have hsp : p.spot = none := hs'.resolve_left fun e => by
          have : ns = [] := by simpa using e
          subst this
          simp at hj
        obtain ⟨b, off, spot⟩ := p
        simp only at hsp
        subst hsp
        rw [addr_add]
        exact hdn.hp _ _ _ (hcell j v hj)
      simpa using hl
  simp [execOp, ho, e, convert, run_underlying h1.und, run_underlying h2.und, run_underlying h3.und, hconv]

end
end Go.Eng
