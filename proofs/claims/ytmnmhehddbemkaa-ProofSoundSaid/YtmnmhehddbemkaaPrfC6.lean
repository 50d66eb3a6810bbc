/- The texts Own, W4p, W4q, W4r, W4s, W4x, X1, W4u, W4v, Own2, Own3, Stage, one behind the other: an executor over the translated code, contracts of functions, and their laws. -/
import Derived.Laws.BytesString
import Derived.Carry
import Derived.Test.YtmnmhehddbemkaaPrfC5
/- The proof engine, part 14g: own things that a call hands back; maps; bytes. -/
namespace Go.Eng

/-- A thing of its own is held by a name. -/
theorem Dn.bind {cx : Cx} {g : Nat → Value} {H : Hp} {env : List (Nat × SV)} {own : List (Nat × SO)} {n : Nat} {tmps : Array Value} {w : World} {k : Nat} {x : Value} {so : SO}
    (h : Dn cx g H env own n tmps w) (hm : cx.m0 ≤ k) (hE : freshE k env = true) (hO : freshO k own = true) (hok : OwnOk cx.mine (Eng.upd g k x) H w k so)
    (hb : ∀ b, blkOf x = some b → ∀ j o, ownq own j = some o → blkOf (g j) ≠ some b) : Dn cx (Eng.upd g k x) H env ((k, so) :: own) n tmps w := by
  have hne : ∀ i, i ≠ k → Eng.upd g k x i = g i := fun i hi => upd_ne _ _ _ i hi
  refine { size := h.size, den := fun t => Den.upd hne _ _ (freshE_nth t hE) (h.den t), ok := fun j o hj => ?_, inj := fun i j hi hj b hbi hbj => ?_, hp := h.hp, base := { h.base with fix := fun j hj => by rw [hne j (by omega)]; exact h.base.fix j hj } }
  · simp only [ownq] at hj
    cases hb : Nat.beq k j with
    | true =>
      have := beq_true hb
      subst this
      simp only [hb, cond_true, Option.some.injEq] at hj
      subst hj
      exact hok
    | false =>
      simp only [hb, cond_false] at hj
      exact (h.ok j o hj).upd (freshO_own hO hj)
  · have key : ∀ j b, (ownq ((k, so) :: own) j).isSome = true → blkOf (Eng.upd g k x j) = some b → (j = k ∧ ∀ i o, ownq own i = some o → blkOf (g i) ≠ some b) ∨ (j ≠ k ∧ (ownq own j).isSome = true ∧ blkOf (g j) = some b) := by
      intro j b hj hbj
      by_cases hjk : j = k
      · subst hjk
        rw [upd_same] at hbj
        exact .inl ⟨rfl, hb b hbj⟩
      · have hbf : Nat.beq k j = false := by
          cases hb' : Nat.beq k j with
          | false => rfl
          | true => exact absurd (beq_true hb').symm hjk
        simp only [ownq, hbf, cond_false] at hj
        rw [hne j hjk] at hbj
        exact .inr ⟨hjk, hj, hbj⟩
    rcases key i b hi hbi with ⟨e1, e2⟩ | ⟨n1, o1, b1⟩ <;> rcases key j b hj hbj with ⟨e3, e4⟩ | ⟨n2, o2, b2⟩
    · rw [e1, e3]
    · cases ho : ownq own j with
      | none => rw [ho] at o2; cases o2
      | some o => exact absurd b2 (e2 j o ho)
    · cases ho : ownq own i with
      | none => rw [ho] at o1; cases o1
      | some o => exact absurd b1 (e4 i o ho)
    · exact h.inj i j o1 o2 b b1 b2

section
variable {E : Stc} {all rest : List Oper} {o : Oper} {s : List Fr} {env : List (Nat × SV)} {own own2 : List (Nat × SO)} {nx : List Nat}

/-- A call that is handed a list with room of its own, and hands one back. -/
theorem at_growF (k k' sz : Nat) {rows : List (List DV)} {f : Nat} {args : List SV} (hC : Contract E.P f 1 [(0, .tok sz)] args fun s post => s = .gl 1 sz rows ∧ post = [(1, .tok sz)]) (hc : callK o.op env (fun f l => some (f, l)) none = some (f, rens (fun _ => k) args))
    (hk : ownq own k = some (.tok sz)) (ho : lessK k own some = some own2) (kk : Sat E (.ops all rest) s (put o.dst (.gl k' sz rows) (degE k env)) ((k', .tok sz) :: own2) nx)
    (hm : Nat.ble E.cx.m0 k' = true := by rfl) (hE : freshE k' (degE k env) = true := by rfl) (hO : freshO k' own2 = true := by rfl)
    (hg : guardK all o.guard env true false false = true := by rfl) (hd : dstLt o.dst E.n = true := by rfl) : Sat E (.ops all (o :: rest)) s env own nx := by
  intro a w hat
  have hwant := wanted_of (E := E) (own := own) hg a w hat
  rw [lessK_eq] at ho
  simp only [Option.some.injEq] at ho
  subst ho
  unfold wpList
  rw [if_pos hwant]
  refine .inl ?_
  obtain ⟨hdf, g, H, hdn⟩ := hat
  obtain ⟨vs, hv, hr⟩ := run_call (P := E.P) hdn hC.1 hc
  have hpre : pres (fun _ => k) own [(0, .tok sz)] := ⟨hk, trivial⟩
  have hv' : Dens (fun j => g ((fun _ => k) j)) H args vs := Dens.unren (g' := g) (r := fun _ => k) (fun _ => rfl) args vs hv
  have key : ∀ i, (ownq [(0, SO.tok sz)] i).isSome = true → i = 0 := by
    intro i hi
    cases i with
    | zero => rfl
    | succ i => exact absurd hi (by show ¬ (false = true); simp)
  have hok : ∀ j o, ownq [(0, SO.tok sz)] j = some o → OwnOk (fun _ => True) (fun _ => g k) H w j o := by
    intro j o hj
    have h0 := key j (by rw [hj]; rfl)
    subst h0
    have e : SO.tok sz = o := by simpa [ownq] using hj
    subst e
    obtain ⟨ad, q, c, e, q1, hle, q2⟩ := hdn.ok k _ hk
    refine ⟨ad, q, c, e, q1, hle, fun p hpa hlt => ?_⟩
    obtain ⟨q3, _, q5⟩ := q2 p hpa hlt
    exact ⟨q3, trivial, q5⟩
  have hinj : InjOn (fun _ => g k) [(0, SO.tok sz)] := by
    intro i j hi hj _ _ _
    rw [key i hi, key j hj]
  have hcall := hC.2 (fun _ => g k) H w vs hdn.hp hok hinj hv'
  unfold Oper.wp
  rw [hr]
  refine hcall.mono fun e w' he => ?_
  cases e with
  | panicked c => exact he.elim
  | outgrown => exact he.elim
  | returned x =>
    obtain ⟨g', H', sv, post, ⟨rfl, rfl⟩, hx, hok', _, hon, hb⟩ := he
    obtain ⟨hd2, hother⟩ := hdn.left (r := fun _ => k) (own2 := rm1 k own) hpre hb hon (fun j o hj => ⟨rm1_own hj, fun i _ => (rm1_less k own j o hj).1⟩)
    obtain ⟨hx1, hx2⟩ := hx
    obtain ⟨ad, q, c, e, q1, hle, q2⟩ := hok' 1 (.tok sz) rfl
    rw [← hx2] at e
    have hsp : Spare w' H' sz x fun b => E.cx.mine b ∧ ∀ j o, ownq (rm1 k own) j = some o → blkOf (g j) ≠ some b := by
      refine ⟨ad, q, c, e, q1, hle, fun p hpa hlt => ?_⟩
      obtain ⟨q3, q4, q5⟩ := q2 p hpa hlt
      exact ⟨q3, hother _ q4, q5⟩
    obtain ⟨hd3, hp⟩ := (hd2.le (degE_le k env) (fun _ _ h => h)).tok (Nat.le_of_ble_eq_true hm) hE hO hx1 hsp
    exact kk _ _ (At.put hdf hd3 hp fun d e => by rw [e] at hd; exact Nat.blt_eq.mp hd)

/-- A call that hands back a thing of its own: a map. -/
theorem at_mapF (k' : Nat) {F : Nat → Hp → Obj → Prop} {f : Nat} {args : List SV} (hC : Contract E.P f 0 [] args fun s post => s = .mp 0 ∧ post = [(0, .obj F)]) (hc : callK o.op env (fun f l => some (f, l)) none = some (f, args))
    (kk : Sat E (.ops all rest) s (put o.dst (.mp k') env) ((k', .obj F) :: own) nx)
    (hm : Nat.ble E.cx.m0 k' = true := by rfl) (hE : freshE k' env = true := by rfl) (hO : freshO k' own = true := by rfl)
    (hg : guardK all o.guard env true false false = true := by rfl) (hd : dstLt o.dst E.n = true := by rfl) : Sat E (.ops all (o :: rest)) s env own nx := by
  intro a w hat
  have hwant := wanted_of (E := E) (own := own) hg a w hat
  unfold wpList
  rw [if_pos hwant]
  refine .inl ?_
  obtain ⟨hdf, g, H, hdn⟩ := hat
  obtain ⟨vs, hv, hr⟩ := run_call (P := E.P) hdn hC.1 hc
  have hcall := hC.2 g H w vs hdn.hp (fun k o hk => by simp [ownq] at hk) (fun i j hi => by simp [ownq] at hi) hv
  unfold Oper.wp
  rw [hr]
  refine hcall.mono fun e w' he => ?_
  cases e with
  | panicked c => exact he.elim
  | outgrown => exact he.elim
  | returned x =>
    obtain ⟨g', H', sv, post, ⟨rfl, rfl⟩, ⟨q, hx1, hx2⟩, hok', _, hon, hb⟩ := he
    obtain ⟨hd2, hother⟩ := hdn.left (r := fun k => k) (pre := []) (own2 := own) trivial hb hon (fun j o hj => ⟨hj, fun k hk => by simp [ownq] at hk⟩)
    obtain ⟨q', ob, e, r1, r2, r3, r4⟩ := hok' 0 (.obj F) rfl
    rw [hx1] at e
    simp only [Value.map.injEq, Option.some.injEq] at e
    subst e
    have ho := hother q r4
    have hd3 := hd2.bind (x := x) (so := .obj F) (Nat.le_of_ble_eq_true hm) hE hO ⟨q, ob, by rw [upd_same, hx2], r1, r2, r3, ho.1⟩ (fun b hbx j o hj => by
      rw [hx2] at hbx
      simp only [blkOf, Option.some.injEq] at hbx
      subst hbx
      exact ho.2 j o hj)
    exact kk _ _ (At.put hdf hd3 ⟨q, by rw [upd_same, hx2], hx2⟩ fun d e => by rw [e] at hd; exact Nat.blt_eq.mp hd)

/-- A list with room of its own gets another name. -/
theorem at_rename {m : Md} (t k k' sz : Nat) {rows : List (List DV)} (ht : nth env t = .gl k sz rows) (hk : ownq own k = some (.tok sz)) (ho : lessK k own some = some own2) (kk : Sat E m s ((t, .gl k' sz rows) :: degE k env) ((k', .tok sz) :: own2) nx)
    (hm : Nat.ble E.cx.m0 k' = true := by rfl) (hE : freshE k' (degE k env) = true := by rfl) (hO : freshO k' own2 = true := by rfl) : Sat E m s env own nx := by
  rw [lessK_eq] at ho
  simp only [Option.some.injEq] at ho
  subst ho
  refine sat_mono (fun a w hat => ?_) kk
  obtain ⟨hdf, g, H, hdn⟩ := hat
  have hx := hdn.den t
  rw [ht] at hx
  obtain ⟨hx1, hx2⟩ := hx
  obtain ⟨ad, q, c, e, q1, hle, q2⟩ := hdn.ok k _ hk
  have hsp : Spare w H sz (a.tmps.getD t undef) fun b => E.cx.mine b ∧ ∀ j o, ownq (rm1 k own) j = some o → blkOf (g j) ≠ some b := by
    refine ⟨ad, q, c, by rw [hx2, e], q1, hle, fun p hpa hlt => ?_⟩
    obtain ⟨q3, q4, q5⟩ := q2 p hpa hlt
    refine ⟨q3, ⟨q4, fun j o hj ej => ?_⟩, q5⟩
    have hl := rm1_less k own j o hj
    exact hl.1 (hdn.inj j k (by rw [hl.2]; rfl) (by rw [hk]; rfl) p.block ej (by rw [e, hpa]; simp [blkOf, Nat.blt_eq.mpr hlt]))
  have hd2 := (hdn.lessO (rm1_less k own)).le (degE_le k env) (fun _ _ h => h)
  obtain ⟨hd3, hp⟩ := hd2.tok (Nat.le_of_ble_eq_true hm) hE hO hx1 hsp
  refine ⟨hdf, _, H, { hd3 with den := fun i => ?_ }⟩
  simp only [nth]
  cases hb : Nat.beq t i with
  | true =>
    have := beq_true hb
    subst this
    exact hp
  | false => exact hd3.den i

/-- A map that has no entries. -/
def noMap : Nat → Hp → Obj → Prop := fun _ _ o => ∃ c, o = .map #[] c

/-- A map is made. -/
theorem at_mkmap (k' : Nat) {t : Nat} (ho : o.op = .makeMap t none) (kk : Sat E (.ops all rest) s (put o.dst (.mp k') env) ((k', .obj noMap) :: own) nx)
    (hm : Nat.ble E.cx.m0 k' = true := by rfl) (hE : freshE k' env = true := by rfl) (hO : freshO k' own = true := by rfl)
    (hg : guardK all o.guard env true false false = true := by rfl) (hd : dstLt o.dst E.n = true := by rfl) : Sat E (.ops all (o :: rest)) s env own nx := by
  intro a w hat
  have hwant := wanted_of (E := E) (own := own) hg a w hat
  unfold wpList
  rw [if_pos hwant]
  refine .inl ?_
  obtain ⟨hdf, g, H, hdn⟩ := hat
  have hr : (execOp a.eval o).run E.P w = .ok (.value (.map (some w.heap.size))) (w.alloc (.map #[] 0)) := by
    simp [execOp, ho, Instr.makeMap]
  have hd2 := hdn.grown (w' := w.alloc (.map #[] 0)) rfl rfl rfl (by simp) (fun b hb => heap_alloc_lt w _ hb)
  have hnew := hdn.new_ok (Nat.le_refl w.heap.size)
  have hd3 := hd2.bind (k := k') (x := .map (some w.heap.size)) (so := .obj noMap) (Nat.le_of_ble_eq_true hm) hE hO ⟨w.heap.size, _, upd_same _ _ _, heap_alloc_new w _, fun _ _ => ⟨0, rfl⟩, fun j => Hp.on_new hdn.hp j, hnew.1⟩ (fun b hbx j o hj => by
    simp only [blkOf, Option.some.injEq] at hbx
    subst hbx
    exact hnew.2 j o hj)
  unfold Oper.wp
  rw [hr]
  exact kk _ _ (At.put hdf hd3 ⟨w.heap.size, upd_same _ _ _, rfl⟩ fun d e => by rw [e] at hd; exact Nat.blt_eq.mp hd)
end

section
variable {P : Program} {T : Nat → TI} {env : List (Nat × SV)} {own : List (Nat × SO)}

/-- Nothing is found where there is nothing. -/
theorem does_lookup0 {o : Oper} {t k e q : Nat} {x y : Operand} {str : ByteArray} {z : Value} (s : SV) (ht : P.underlying t = some (.map k e)) (hks : P.underlying k = some .string) (hz : (P.info? e).bind (·.zero) = some z) (ho : o.op = .lookup t x y true) (hx : ev env x = .mp q) (hy : ev env y = .str str) (hq : ownq own q = some (.obj noMap)) (hs : ∀ g H, Den g H s z) :
    DoesV P o env own (.tup [s, .ff]) := by
  obtain ⟨i2, hi2, hz2⟩ := Option.bind_eq_some_iff.1 hz
  refine does_val fun cx g H n a w hd => ⟨.tuple #[z, .bool false], ?_, [z, .bool false], rfl, hs g H, rfl, trivial⟩
  obtain ⟨r, ob, e1, h1, h2, _⟩ := hd.ok q _ hq
  obtain ⟨c, rfl⟩ := h2 H (Hp.le_refl H)
  have ex := hd.ev x
  rw [hx] at ex
  obtain ⟨r', e2, e3⟩ := ex
  rw [e1] at e2
  simp only [Value.map.injEq, Option.some.injEq] at e2
  subst e2
  have ey : a.eval y = .string str := by have := hd.ev y; rw [hy] at this; exact this
  have hck : ∀ em, (Instr.checkKey em 10000 k (.string str)).run P w = .ok () w := by
    intro em
    rw [show (10000 : Nat) = 9999 + 1 from rfl, Instr.checkKey]
    simp [run_underlying hks]
  have hget : (getObj r).run P w = .ok (.map #[] c) w := by simp [getObj, Sem.run, h1]
  have hfind : (Instr.findKey k (.string str) []).run P w = .ok none w := by simp [Instr.findKey, run_underlying hks, Instr.findNow]
  have hl : (Instr.lookup t (.map (some r)) (.string str) true).run P w = .ok (.tuple #[z, .bool false]) w := by
    unfold Instr.lookup
    simp [run_underlying ht, hget, hck, hfind, run_zero' hi2 hz2]
  simp only [execOp, ho, e3, ey]
  simp [hl]

/-- Shifted to the right. -/
theorem does_shr {o : Oper} {t ty : Nat} {x y : Operand} {k k2 : IntKind} {a b : Int} (ho : o.op = .binOp .shr t x y ty) (hx : ev env x = .int k a) (hy : ev env y = .int k2 b) (hb : 0 ≤ b) :
    DoesV P o env own (.int k (a.fdiv (2 ^ (min b.toNat k.bits)))) := by
  refine does_bin ho fun g H u v w hu hv => ?_
  rw [hx] at hu
  rw [hy] at hv
  have hu : u = .int k a := hu
  have hv : v = .int k2 b := hv
  subst hu; subst hv
  refine ⟨_, by rw [eqGuard_at_int]; rfl, ?_, rfl⟩
  simp [binOp, Op.shift, show ¬ b < 0 by omega]

/-- The lower bits of a number. -/
theorem does_wrap (hT : ∀ t, T t = tiOf P t) {o : Oper} {s d : Nat} {x : Operand} {k k2 : IntKind} {n : Int} (ho : o.op = .convert s d x) (hx : ev env x = .int k2 n) (hs : (T s).kd = .int k2) (hd : (T d).kd = .int k) : DoesV P o env own (.int k (k.wrap n)) := by
  rw [hT s] at hs
  rw [hT d] at hd
  obtain ⟨i1, d1, h1, e1⟩ := und_kd hs (by simp)
  obtain ⟨i2, d2, h2, e2⟩ := und_kd hd (by simp)
  have e1' : d1 = .int k2 := by cases d1 <;> simp [kdOf] at e1; rw [e1]
  have e2' : d2 = .int k := by cases d2 <;> simp [kdOf] at e2; rw [e2]
  subst e1'; subst e2'
  refine does_val fun cx g H q a w hdn => ⟨.int k (k.wrap n), ?_, rfl⟩
  have e : a.eval x = .int k2 n := by have := hdn.ev x; rw [hx] at this; exact this
  simp [execOp, ho, e, convert, run_underlying h1.und, run_underlying h2.und, Conv.intToInt]

abbrev bytesR (ns : List Int) : List (List DV) := ns.map fun n => [.int .u8 n]
def bytesS (ns : List Int) : ByteArray := ns.foldl (fun r n => r.push (UInt8.ofNat n.toNat)) ByteArray.empty

theorem flat_bytes {H : Hp} : ∀ {ns : List Int} {vs : List Value}, DenF H 1 (bytesR ns) vs → vs = ns.map (Value.int .u8)
  | [], vs, h => h
  | n :: ns, vs, h => by
    obtain ⟨v1, v2, e, h1, _, h3⟩ := h
    subst e
    rw [flat_bytes h3]
    cases v1 with
    | nil => exact h1.elim
    | cons x v1 =>
      cases v1 with
      | nil =>
        have : x = .int .u8 n := h1.1
        rw [this]
        rfl
      | cons _ _ => exact h1.2.elim

/-- Bytes as a text. -/
theorem does_bytesStr (hT : ∀ t, T t = tiOf P t) {o : Oper} {s d : Nat} {x : Operand} {ns : List Int} (ho : o.op = .convert s d x) (hx : lstv (ev env x) = some (1, bytesR ns)) (hs : (T s).kd = .slice) (he : (T (T s).elem).kd = .int .u8) (hd : (T d).kd = .str) : DoesV P o env own (.str (bytesS ns)) := by
  rw [hT s] at hs
  rw [hT (T s).elem, hT s] at he
  rw [hT d] at hd
  obtain ⟨i1, h1⟩ := slice_ti hs
  obtain ⟨i2, d2, h2, e2⟩ := und_kd hd (by simp)
  obtain ⟨i3, d3, h3, e3⟩ := und_kd he (by simp)
  have e2' : d2 = .string := by cases d2 <;> simp [kdOf] at e2; rfl
  have e3' : d3 = .int .u8 := by cases d3 <;> simp [kdOf] at e3; rw [e3]
  subst e2'; subst e3'
  refine does_val fun cx g H q a w hdn => ⟨.string (bytesS ns), ?_, rfl⟩
  obtain ⟨ad, c, e, hc, hn, hp⟩ := lstv_den hx (hdn.ev x)
  have hlen : (bytesR ns).length = ns.length := by simp
  rw [hlen] at e
  have hconv : (Conv.bytesToString (.slice ad ns.length c)).run P w = .ok (.string (bytesS ns)) w := by
    cases had : ad with
    | none =>
      have := (hn had).1
      have : ns = [] := by simpa using this
      subst this
      simp [Conv.bytesToString, bytesS]
    | some p =>
      obtain ⟨hs', hR⟩ := hp p had
      obtain ⟨nv, hf, hcell⟩ := hR.flat
      have hnv := flat_bytes hf
      subst hnv
      refine run_bytesToString w p ns.length c ns ?_
      have hl := run_loadCells_list (P := P) w p (ns.map (Value.int .u8)) fun j v hj => by
        have hsp : p.spot = none := hs'.resolve_left fun e => by
          have : ns = [] := by simpa using e
          subst this
          simp at hj
        obtain ⟨b, off, spot⟩ := p
        simp only at hsp
        subst hsp
        rw [addr_add]
        exact hdn.hp _ _ _ (hcell j v hj)
      simpa using hl
  simp [execOp, ho, e, convert, run_underlying h1.und, run_underlying h2.und, run_underlying h3.und, hconv]

end
end Go.Eng
namespace Go.Proofs.Ytmnmhehddbemkaa
open Go Go.Eng

def numB (v : Int) (n : Nat) : List Int := (List.range n).map fun i => IntKind.u8.wrap (v.fdiv (2 ^ (min (8 * ((n : Int) - 1 - (i : Nat))).toNat IntKind.i64.bits)))

set_option maxRecDepth 100000 in
theorem number_fn (b : List Int) (v : Int) (n : Nat) (hn : n ≤ 100) (hb : b.length ≤ 1000000) : Contract Try.prog 126 1 [(0, .tok 1)] [.gl 0 1 (bytesR b), I v, I n] fun s post => s = .gl 1 1 (bytesR (b ++ numB v n)) ∧ post = [(1, .tok 1)] := by
  have hlenB : (numB v n).length = n := by simp [numB]
  refine contract_of ty_ok [2, 3, 4, 5, 6, 7] Try.func126 rfl (by decide) Try.ntmps126 rfl fun z => ?_
  refine run 400 rfl ?_
  refine at_rename 0 0 1 1 rfl rfl rfl ?_
  refine at_loop (fun i : Nat => i ≤ n) (fun i => [(0, .gl 1 1 (bytesR (b ++ (numB v n).take i))), (1, I v), (2, I n), (8, I n), (9, I i)]) (fun _ => [(1, .tok 1)]) (fun i => n - i) [2, 3, 4, 5, 6, 7]
    0 (by omega) ⟨SVle.of_eq (by show SV.gl 1 1 (bytesR b) = SV.gl 1 1 (bytesR (b ++ (numB v n).take 0)); rw [List.take_zero, List.append_nil]), SVle.refl _, SVle.refl _, SVle.refl _, SVle.refl _, trivial⟩ ⟨rfl, trivial⟩ ?_
  intro i hi
  refine run 400 rfl ?_
  refine at_ifd rfl (fun g => ?_) (fun g => ?_)
  rotate_left
  · have e : i = n := by omega
    subst e
    refine run 400 rfl ?_
    exact at_ret rfl rfl [(1, .tok 1)] ⟨by rw [List.take_of_length_le (by omega)], rfl⟩ ⟨rfl, trivial⟩
  have hlt : i < n := by omega
  have hx : (numB v n)[i]? = some (IntKind.u8.wrap (v.fdiv (2 ^ (min (8 * ((n : Int) - 1 - i)).toNat IntKind.i64.bits)))) := by
    simp [numB, hlt]
  refine run 400 rfl ?_
  refine at_val (.int .i64 (v.fdiv (2 ^ (min (8 * ((n : Int) - 1 - i)).toNat IntKind.i64.bits)))) (does_shr rfl rfl rfl (by omega)) ?_
  refine at_val (.int .u8 (IntKind.u8.wrap (v.fdiv (2 ^ (min (8 * ((n : Int) - 1 - i)).toNat IntKind.i64.bits))))) (does_wrap ty_ok rfl rfl rfl rfl) ?_
  generalize IntKind.u8.wrap (v.fdiv (2 ^ (min (8 * ((n : Int) - 1 - i)).toNat IntKind.i64.bits))) = x at hx
  refine at_gro (.tl 1 [[.int .u8 x]]) (doesG_build ty_ok _ rfl ⟨⟨rfl, rfl, _, rfl, SVles.refl _⟩, trivial⟩ rfl rfl (by decide)) ?_
  have hlen : (bytesR (b ++ (numB v n).take i)).length = b.length + i := by simp; omega
  refine at_grow 1 1 1 (bytesR (b ++ (numB v n).take i) ++ [[.int .u8 x]]) rfl (doesU_append ty_ok rfl rfl rfl rfl rfl rfl rfl (by rw [hlen]; simp; omega) (by rw [hlen]; show _ * 1 ≤ _; simp; omega)) rfl ?_
  refine run 400 rfl ?_
  exact at_again (i + 1) (by omega) (by omega) ⟨SVle.of_eq (by show SV.gl 1 1 (bytesR (b ++ (numB v n).take i) ++ [[.int .u8 x]]) = SV.gl 1 1 (bytesR (b ++ (numB v n).take (i + 1))); rw [List.take_add_one, hx]; simp), SVle.refl _, SVle.refl _, SVle.refl _, SVle.of_eq (by show I ((i : Int) + 1) = I ((i + 1 : Nat) : Int); rw [Int.natCast_add]; rfl), trivial⟩ ⟨rfl, trivial⟩

set_option maxRecDepth 100000 in
theorem puts0_fn (n : Int) : Gives Try.prog 104 [.tl 1 [], (Tm.mk 2 n .empty []).sv] (.lst 1 (bytesR ([2] ++ numB n 4))) := by
  refine contract_of ty_ok [0, 1, 2, 3, 4, 6, 7] Try.func104 rfl (by decide) Try.ntmps104 rfl fun z => ?_
  refine run 400 rfl ?_ (by show (0 : Int) ≤ 2 ∧ (2 : Int) ≤ 255; omega)
  refine at_gro (.tl 1 (bytesR [2])) (doesG_build ty_ok _ rfl ⟨⟨rfl, rfl, _, rfl, SVles.refl _⟩, trivial⟩ rfl rfl (by decide)) ?_
  refine at_new 5 1 (bytesR [2]) (doesT_append (xs := []) ty_ok rfl rfl rfl rfl rfl rfl rfl (by simp) (by show _ * 1 ≤ _; simp)) ?_
  refine run 400 rfl ?_
  refine at_false 15 rfl rfl ?_
  refine run 400 rfl ?_
  refine at_true 25 rfl rfl ?_
  refine run 400 rfl ?_
  refine at_growF 5 5 1 (number_fn [2] n 4 (by omega) (by simp)) rfl rfl rfl ?_
  refine run 400 rfl ?_
  refine at_loop (fun _ : Unit => True) (fun _ => [(0, .gl 5 1 (bytesR ([2] ++ numB n 4))), (33, I 0), (34, I 0)]) (fun _ => [(5, .tok 1)]) (fun _ => 0) [0, 1, 2, 3, 4, 6, 7]
    () trivial ⟨SVle.refl _, SVle.of_eq (by show I (rowsT []).length = I 0; rw [rowsT_nil]; rfl), SVle.refl _, trivial⟩ ⟨rfl, trivial⟩ ?_
  intro _ _
  refine run 400 rfl ?_
  refine at_ifd rfl (fun g => absurd g (by omega)) (fun g => ?_)
  refine at_deg 5 ?_
  refine run 400 rfl ?_
  exact at_ret rfl rfl [] ⟨rfl, rfl, rfl⟩ trivial
end Go.Proofs.Ytmnmhehddbemkaa
namespace Go.Proofs.Ytmnmhehddbemkaa
open Go Go.Eng

abbrev n1 : Tm := .mk 2 1 .empty []
theorem may_n1 : mayF n1 = true := by
  have hr : rightF n1 = true := by
    simp [rightF, kidsF, seq_self]
    exact .inr ⟨by show (0 : Int) < 1; omega, by show (1 : Int) ≤ 1073741824; omega⟩
  simp [mayF, mayT, hr, mayL]
theorem tl01 (sz : Nat) : SVle (.tl 0 []) (.tl sz []) := SVle.nil sz
theorem put_fn : Gives Try.prog 92 [n1.sv] (.lst 1 (bytesR ([2] ++ numB 1 4))) := by
  have hp := (puts0_fn 1).weak (args' := [.tl 0 [], n1.sv]) ⟨SVle.nil 1, SVle.refl _, trivial⟩
  have hm := may_fn n1
  rw [may_n1] at hm
  refine contract_of ty_ok [0, 1, 2, 3, 4, 5, 6, 7] Try.func92 rfl (by decide) Try.ntmps92 rfl fun z => ?_
  refine run 400 rfl ?_
  refine at_fn hm rfl ?_
  refine run 400 rfl ?_
  refine at_if rfl (fun h => by cases h) (fun h => ?_)
  refine run 400 rfl ?_
  refine at_fn hp rfl ?_
  refine run 400 rfl ?_
  exact at_ret rfl rfl [] ⟨rfl, rfl, rfl⟩ trivial
theorem key_fn : Gives Try.prog 66 [n1.sv] (.str (bytesS ([2] ++ numB 1 4))) := by
  refine contract_of ty_ok [0, 1, 2, 3, 4, 5, 6, 7] Try.func66 rfl (by decide) Try.ntmps66 rfl fun z => ?_
  refine run 400 rfl ?_
  refine at_fn put_fn rfl ?_
  refine at_val (.str (bytesS ([2] ++ numB 1 4))) (does_bytesStr ty_ok (ns := [2] ++ numB 1 4) rfl rfl rfl rfl rfl) ?_
  refine run 400 rfl ?_
  exact at_ret rfl rfl [] ⟨rfl, rfl, rfl⟩ trivial

theorem z33 : (Try.prog.info? 33).bind (·.zero) = some (.agg #[.int .i64 0, .int .i64 0, .string .empty, .slice none 0 0]) := by kernel_rfl
abbrev canPre : List (Nat × SO) := [(0, .cells 85 [.mp 2]), (1, .cells 55 [.clo 65 [.ptr 0 0, .ptr 1 0]]), (2, .obj noMap)]

set_option maxRecDepth 100000 in
theorem can1_fn : Contract Try.prog 65 3 canPre [n1.sv, .ptr 0 0, .ptr 1 0] fun s post => s = .ff ∧ post = canPre := by
  refine contract_of ty_ok [3, 4, 5, 6, 7] Try.func65 rfl (by decide) Try.ntmps65 rfl fun z => ?_
  refine run 400 rfl ?_
  refine at_drawn 9 rfl rfl [(2, .sv (.str (bytesS ([2] ++ numB 1 4)))), (3, .val (.tup [.agg [I 0, I 0, .str .empty, .lst 4 []], .ff])), (7, .forget), (8, .forget)] [20, 21, 22] rfl
    ⟨does_lookup0 _ Try.underlying85 Try.underlying9 z33 rfl rfl rfl rfl (fun g H => ⟨_, rfl, rfl, rfl, rfl, ⟨none, 0, rfl, Nat.le_refl _, fun _ => ⟨rfl, rfl⟩, fun p hp => by cases hp⟩, trivial⟩), key_fn⟩ ?_
  refine run 400 rfl ?_
  refine at_if rfl (fun h => by cases h) (fun h => ?_)
  refine run 400 rfl ?_
  refine at_if rfl (fun h => ?_) (fun h => ?_)
  · refine run 400 rfl ?_
    exact at_ret rfl rfl canPre ⟨rfl, rfl⟩ ⟨rfl, rfl, rfl, trivial⟩
  · have h : ((rowsT []).length : Int) ≠ 0 := by simpa using h
    rw [rowsT_nil] at h
    exact absurd rfl h

set_option maxRecDepth 100000 in
theorem open0_fn : Contract Try.prog 63 0 [] [.tl 0 []] fun s post => s = .mp 0 ∧ post = [(0, .obj noMap)] := by
  refine contract_of ty_ok [1, 2, 3, 4, 5, 6] Try.func63 rfl (by decide) Try.ntmps63 rfl fun z => ?_
  refine run 400 rfl ?_
  refine at_mkmap 0 rfl ?_
  refine run 400 rfl ?_
  refine at_loop (fun _ : Unit => True) (fun _ => [(3, .ptr 1 0), (10, I 0), (11, I 0)]) (fun _ => [(0, .obj noMap), (1, .cells 85 [.mp 0])]) (fun _ => 0) [3, 4, 5, 6]
    () trivial ⟨SVle.refl _, SVle.refl _, SVle.refl _, trivial⟩ ⟨rfl, rfl, trivial⟩ ?_
  intro _ _
  refine run 400 rfl ?_
  refine at_ifd rfl (fun g => absurd g (by omega)) (fun g => ?_)
  refine run 400 rfl ?_
  exact at_ret rfl rfl [(0, .obj noMap)] ⟨rfl, rfl⟩ ⟨rfl, trivial⟩

def r3 (a b c : Nat) : Nat → Nat := fun k => bif Nat.beq k 0 then a else bif Nat.beq k 1 then b else c

set_option maxRecDepth 100000 in
theorem can0_fn : Gives Try.prog 31 [.tl 0 [], n1.sv] .ff := by
  refine contract_of ty_ok [0, 1, 2, 3, 4, 6] Try.func31 rfl (by decide) Try.ntmps31 rfl fun z => ?_
  refine run 400 rfl ?_
  refine at_mapF 5 open0_fn rfl ?_
  refine run 400 rfl ?_
  refine at_call (r3 1 2 5) can1_fn rfl rfl ⟨rfl, rfl, rfl, trivial⟩ ?_ ?_ ?_
  · rintro _ _ ⟨rfl, rfl⟩
    refine ⟨rfl, rfl, rfl, ?_⟩
    refine run 400 rfl ?_
    exact at_ret rfl rfl [] ⟨rfl, rfl, rfl⟩ trivial
  · intro i j hi hj e
    have key : ∀ i, (ownq canPre i).isSome = true → i = 0 ∨ i = 1 ∨ i = 2 := by
      intro i hi
      match i, hi with
      | 0, _ => exact .inl rfl
      | 1, _ => exact .inr (.inl rfl)
      | 2, _ => exact .inr (.inr rfl)
      | i + 3, hi => exact absurd hi (by show ¬ (false = true); simp)
    rcases key i hi with rfl | rfl | rfl <;> rcases key j hj with rfl | rfl | rfl <;> first | rfl | (exact absurd e (by decide))
  · intro k hk
    match k, hk with
    | 0, _ => rfl
    | 1, _ => rfl
    | 2, _ => rfl

theorem way0_fn : Gives Try.prog 27 [.tl 0 [], n1.sv] (.tup [.tl 0 [], .ff]) := by
  refine contract_of ty_ok [0, 1, 2, 3, 4, 5, 6, 7] Try.func27 rfl (by decide) Try.ntmps27 rfl fun z => ?_
  refine run 400 rfl ?_
  refine at_fn can0_fn rfl ?_
  refine run 400 rfl ?_
  exact at_ret rfl rfl [] ⟨rfl, rfl, rfl⟩ trivial
end Go.Proofs.Ytmnmhehddbemkaa
namespace Go.Proofs.Ytmnmhehddbemkaa
open Go Go.Eng

theorem z28 : (Try.prog.info? 28).bind (·.zero) = some (.int .i64 0) := by kernel_rfl

theorem runG_err (l : List Tm) : ∀ (ms : List Mv) (acc : List Tm), (runG l ms acc).2 ≠ 0 → (runG l ms acc).1 = []
  | [], acc, h => by simp [runG] at h
  | m :: ms, acc, h => by
    rw [runG] at h ⊢
    split
    · rfl
    · rename_i s hs
      rw [hs] at h
      dsimp only at h
      split
      · rename_i hn
        rw [if_pos hn] at h
        split
        · rename_i t hd
          rw [hd] at h
          exact runG_err l ms _ h
        · rfl
      · rfl
theorem runF_err (l : List Tm) (ms : List Mv) (h : (runF l ms).2 ≠ 0) : (runF l ms).1 = [] := by
  unfold runF at h ⊢
  split
  · rfl
  · rename_i h1
    rw [if_neg h1] at h
    exact runG_err l ms [] h

theorem run_fn (l : List Tm) (ms : List Mv) (hl : l.length ≤ 1000000) : Gives Try.prog 19 [.lst 4 (rowsT l), .lst 4 (rowsM ms)] (.tup [.lst 4 (rowsT (runF l ms).1), I (runF l ms).2]) := by
  have h58 := run58_fn l ms hl
  have herr := runF_err l ms
  generalize runF l ms = r at h58 herr
  obtain ⟨out, e⟩ := r
  dsimp only at h58 herr ⊢
  by_cases he : e = 0
  · subst he
    have h58 : Gives Try.prog 58 [.lst 4 (rowsT l), .lst 4 (rowsM ms)] (.tup [.lst 4 (rowsT out), .val .nilIface]) := h58
    refine contract_of ty_ok [0, 1, 2, 3, 4, 5, 6, 7] Try.func19 rfl (by decide) Try.ntmps19 rfl fun z => ?_
    refine run 400 rfl ?_
    refine at_fn h58 rfl ?_
    refine run 400 rfl ?_
    refine at_val (.tup [I 0, .ff]) (does_assert_nil ty_ok (I 0) z28 rfl rfl rfl (fun _ _ => rfl)) ?_
    refine run 400 rfl ?_
    exact at_ret rfl rfl [] ⟨rfl, rfl, rfl⟩ trivial
  · have hout := herr he
    subst hout
    simp only [errI, if_neg he] at h58
    have : Gives Try.prog 19 [.lst 4 (rowsT l), .lst 4 (rowsM ms)] (.tup [.tl 0 [], I e]) := by
      refine contract_of ty_ok [0, 1, 2, 3, 4, 5, 6, 7] Try.func19 rfl (by decide) Try.ntmps19 rfl fun z => ?_
      refine run 400 rfl ?_
      refine at_fn h58 rfl ?_
      refine run 400 rfl ?_
      refine at_val (.tup [I e, .tt]) (does_assert_yes ty_ok (I e) rfl rfl rfl (fun _ _ => rfl)) ?_
      refine run 400 rfl ?_
      exact at_ret rfl rfl [] ⟨rfl, rfl, rfl⟩ trivial
    exact this.le (SVle.tup ⟨SVle.nils, SVle.refl _, trivial⟩)

theorem toList_data (a : ByteArray) : a.toList = a.data.toList := by
  unfold ByteArray.toList
  rw [loop_eq a _ 0 [] rfl]
  simp
theorem seq_data (a b : ByteArray) : seq a b = (a.data.toList == b.data.toList) := by rw [seq, toList_data, toList_data]

abbrev aa : Tm := .mk 1 0 ⟨#[97]⟩ []
abbrev ha : Tm := .mk 3 0 .empty [aa]
theorem right_aa : rightF aa = true := by
  have e : seq aa.s .empty = false := by rw [seq_data]; rfl
  unfold rightF
  rw [e]
  rfl
theorem right_ha : rightF ha = true := by
  have e : seq ha.s .empty = true := seq_self _
  unfold rightF
  rw [e]
  rfl
theorem may_aa : mayF aa = true := by
  unfold mayF
  rw [mayT, right_aa]
  rfl
theorem may_ha : mayF ha = true := by
  unfold mayF
  rw [mayT, right_ha]
  simp only [mayL]
  rw [mayT, right_aa]
  rfl
abbrev mv1 : List Mv := [⟨2, 0, 0, ⟨#[97]⟩⟩, ⟨6, 0, 0, .empty⟩]
abbrev mv2 : List Mv := [⟨0, 0, 0, .empty⟩]
theorem run_mv1 : runF [] mv1 = ([aa, ha], 0) := by
  have d1 : doesF [] [] (.atom ⟨#[97]⟩) = (aa, true) := by show (aa, mayF aa) = _; rw [may_aa]
  have d2 : doesF [] [aa] (.one 3 0) = (ha, true) := by show (ha, mayF ha) = _; rw [may_ha]
  have r1 : readF ⟨2, 0, 0, ⟨#[97]⟩⟩ = some (.atom ⟨#[97]⟩) := rfl
  have r2 : readF ⟨6, 0, 0, .empty⟩ = some (.one 3 0) := rfl
  show runG [] mv1 [] = _
  rw [runG, r1]
  show (match doesF [] [] (.atom ⟨#[97]⟩) with | (t, true) => runG [] [⟨6, 0, 0, .empty⟩] ([] ++ [t]) | (_, false) => ([], 3)) = _
  rw [d1]
  show runG [] [⟨6, 0, 0, .empty⟩] [aa] = _
  rw [runG, r2]
  show (match doesF [] [aa] (.one 3 0) with | (t, true) => runG [] [] ([aa] ++ [t]) | (_, false) => ([], 3)) = _
  rw [d2]
  rfl
theorem run_mv2 : runF [] mv2 = ([], 2) := rfl

set_option maxRecDepth 100000 in
theorem known16_fn : Gives Try.prog 16 [] .tt := by
  have k1 := (run_fn [] mv1 (by simp)).weak (args' := [.tl 0 [], .tl 4 (rowsM mv1)]) ⟨SVle.nils, SVle.tl _ _, trivial⟩
  have k2 := (run_fn [] mv2 (by simp)).weak (args' := [.tl 0 [], .tl 4 (rowsM mv2)]) ⟨SVle.nils, SVle.tl _ _, trivial⟩
  rw [run_mv1] at k1
  rw [run_mv2] at k2
  dsimp only at k1 k2
  have kw : Gives Try.prog 27 [.tl 0 [], n1.sv] (.tup [.tl 0 [], .ff]) := way0_fn
  have kT : Gives Try.prog 35 [I 3, .tl 4 [tr aa]] ha.sv := (T_fn 3 [aa]).weak ⟨SVle.refl _, by rw [rowsT_cons, rowsT_nil]; exact SVle.tl _ _, trivial⟩
  have hsm : Sm ha := (mayF_gd may_ha).sm
  have hrows : rowsT [aa, ha] = [tr aa, tr ha] := by rw [rowsT_cons, rowsT_cons, rowsT_nil]
  refine contract_of ty_ok [0, 1, 2, 3, 4, 5, 6, 7] Try.func16 rfl (by decide) Try.ntmps16 rfl fun z => ?_
  refine run 400 rfl ?_
  refine at_gro (.tl 4 (rowsM mv1)) (doesG_build ty_ok _ rfl ⟨⟨rfl, rfl, _, rfl, SVles.refl _⟩, ⟨rfl, rfl, _, rfl, SVles.refl _⟩, trivial⟩ rfl rfl (by decide)) ?_
  refine run 400 rfl ?_
  refine at_fn k1 rfl ?_
  refine run 400 rfl ?_
  refine at_gro (.tl 4 (rowsM mv2)) (doesG_build ty_ok _ rfl ⟨⟨rfl, rfl, _, rfl, SVles.refl _⟩, trivial⟩ rfl rfl (by decide)) ?_
  refine run 400 rfl ?_
  refine at_fn k2 rfl ?_
  refine run 400 rfl ?_
  refine at_fn (N_fn 1) rfl ?_
  refine run 400 rfl ?_
  refine at_fn kw rfl ?_
  refine run 400 rfl ?_
  refine at_drawn 24 rfl rfl [(2, .yes), (7, .yes), (9, .val (.rp (tr ha) 0)), (11, .sv aa.sv), (12, .gro (.tl 4 [tr aa])), (13, .sv ha.sv), (14, .sv (.bl (same ha ha))), (16, .yes), (20, .yes)] [20, 21, 22] rfl
    ⟨rfl, same_iff.2 rfl, same_fn ha ha hsm, kT, doesG_build ty_ok _ rfl ⟨⟨rfl, rfl, _, rfl, SVles.refl _⟩, trivial⟩ rfl rfl (by decide), A_fn _, does_index ty_ok _ rfl rfl rfl (by omega) (show (rowsT [aa, ha])[(1 : Int).toNat]? = some (tr ha) by rw [hrows]; rfl) rfl, by rw [hrows]; rfl, rfl⟩ ?_
  refine run 400 rfl ?_
  exact at_ret rfl rfl [] ⟨rfl, rfl, rfl⟩ trivial
end Go.Proofs.Ytmnmhehddbemkaa
namespace Go.Proofs.Ytmnmhehddbemkaa
open Go Go.Eng

theorem genT_gd (ns : List Int) : ∀ (d : Nat) (j : Int), 0 ≤ j ∧ j ≤ ns.length → Gd (genT ns d j).1 ∧ szT (genT ns d j).1 < 2 ^ (d + 1) := by
  have hA : ∀ j : Int, Gd (leafA ns j).1 ∧ szT (leafA ns j).1 = 1 := fun j => ⟨.mk rfl (by simp), by simp [leafA, szT, szL]⟩
  have hN : ∀ j : Int, Gd (leafN ns j).1 ∧ szT (leafN ns j).1 = 1 := fun j => ⟨.mk rfl (by simp), by simp [leafN, szT, szL]⟩
  intro d
  induction d with
  | zero =>
    intro j h
    simp only [genT]
    split
    · exact ⟨(hA _).1, by rw [(hA _).2]; decide⟩
    · exact ⟨(hN _).1, by rw [(hN _).2]; decide⟩
  | succ d ih =>
    intro j h
    have hx := nextF_le (l := ns) (j := j) (n := 10) h
    have h2 : 2 ^ (d + 1 + 1) = 2 ^ (d + 1) + 2 ^ (d + 1) := by rw [Nat.pow_succ]; omega
    have h1 : 1 < 2 ^ (d + 1) := Nat.one_lt_two_pow (by omega)
    simp only [genT]
    split
    · exact ⟨(hA _).1, by rw [(hA _).2]; omega⟩
    · split
      · exact ⟨(hN _).1, by rw [(hN _).2]; omega⟩
      · obtain ⟨u1, u2⟩ := ih _ hx.2.2
        have hu3 := genT_le ns d _ hx.2.2
        split
        · refine ⟨.mk ?_ (by intro t ht; simp at ht; rw [ht]; exact u1), by simp only [szT, szL]; omega⟩
          have : 3 + (nextF ns j 10).1 - 5 = 3 ∨ 3 + (nextF ns j 10).1 - 5 = 4 := by omega
          rcases this with e | e <;> rw [e] <;> rfl
        · obtain ⟨v1, v2⟩ := ih _ hu3
          refine ⟨.mk ?_ (by intro t ht; simp at ht; rcases ht with rfl | rfl; exact u1; exact v1), by simp only [szT, szL]; omega⟩
          have : 5 + (nextF ns j 10).1 - 7 = 5 ∨ 5 + (nextF ns j 10).1 - 7 = 6 ∨ 5 + (nextF ns j 10).1 - 7 = 7 := by omega
          rcases this with e | e | e <;> rw [e] <;> rfl

theorem genL_gd (ns : List Int) : ∀ (n : Nat) (j : Int), 0 ≤ j ∧ j ≤ ns.length → (∀ t ∈ genL ns n j, Gd t) ∧ szL (genL ns n j) ≤ n * 16
  | 0, _, _ => ⟨by simp [genL], by simp [genL, szL]⟩
  | n + 1, j, h => by
    obtain ⟨h1, h2⟩ := genT_gd ns 3 j h
    obtain ⟨h3, h4⟩ := genL_gd ns n (genT ns 3 j).2 (genT_le ns 3 j h)
    rw [genL]
    split
    · refine ⟨fun t ht => ?_, by rw [szL]; omega⟩
      rcases List.mem_cons.1 ht with rfl | ht
      · exact h1
      · exact h3 t ht
    · exact ⟨by simp, by rw [szL]; omega⟩

theorem runG_len (l : List Tm) : ∀ (ms : List Mv) (acc : List Tm), (runG l ms acc).2 = 0 → (runG l ms acc).1.length = acc.length + ms.length
  | [], acc, _ => by simp [runG]
  | m :: ms, acc, h => by
    rw [runG] at h ⊢
    split
    · rename_i hs
      rw [hs] at h
      cases h
    · rename_i s hs
      rw [hs] at h
      dsimp only at h
      split
      · rename_i hn
        rw [if_pos hn] at h
        split
        · rename_i t hd
          rw [hd] at h
          rw [runG_len l ms _ h]
          simp
          omega
        · rename_i t hd
          rw [hd] at h
          cases h
      · rename_i hn
        rw [if_neg hn] at h
        cases h

theorem madeL_iff {O : List Tm} : ∀ l : List Tm, madeL O l = true ↔ ∀ t ∈ l, madeT O t = true
  | [] => by simp [madeL]
  | t :: l => by rw [madeL, Bool.and_eq_true, madeL_iff l]; simp
theorem made_of_mem {O : List Tm} {t : Tm} (h : t ∈ O) : madeT O t = true := by
  cases t
  rw [madeT, among_iff.2 h]
  simp
theorem made_kids {O : List Tm} (hO : Closed O) {k n : Int} {s : ByteArray} {l : List Tm} (h : madeT O (.mk k n s l) = true) (hk : k = 7 ∨ k = 6) : ∀ t ∈ parts (.mk k n s l), madeT O t = true := by
  intro t ht
  rw [madeT] at h
  have h1 : (k == 1) = false := by rcases hk with rfl | rfl <;> rfl
  rw [h1, Bool.false_or, Bool.or_eq_true] at h
  rcases h with h | h
  · exact made_of_mem (hO _ (among_iff.1 h) t ht)
  · rw [Bool.and_eq_true] at h
    refine (madeL_iff l).1 h.2 t ?_
    rw [parts] at ht
    split at ht
    · exact ht
    · split at ht
      · exact List.mem_of_mem_drop ht
      · cases ht

/-- A step that a move is. -/
def goodS : St → Prop
  | .half _ k d => k = 7 ∧ 0 ≤ d ∨ k = 6 ∧ 1 ≤ d
  | .one k _ => k ≠ 2
  | .two k _ _ => k ≠ 2
  | _ => True
theorem read_good {m : Mv} {s : St} (h : readF m = some s) : goodS s := by
  unfold readF at h
  repeat' split at h
  all_goals (first | (cases h; trivial) | (cases h; show _ ∨ _; decide) | (cases h; show _ ≠ _; decide) | cases h)

theorem does_made {l acc : List Tm} {O : List Tm} {s : St} {t : Tm} (hO : Closed O) (hl : ∀ x ∈ l, x ∈ O) (ha : ∀ x ∈ acc, madeT O x = true) (hs : goodS s) (hn : nearF s acc.length l.length = true) (h : doesF l acc s = (t, true)) : madeT O t = true := by
  have hmem : ∀ (m : List Tm) (n : Int), inF n m.length = true → m.getD n.toNat .zero ∈ m := fun m n h => getD_mem (by have := inF_lt h; omega)
  unfold doesF at h
  cases s with
  | given n =>
    simp only [stepT, Prod.mk.injEq] at h
    rw [← h.1]
    exact made_of_mem (hl _ (hmem l n hn))
  | atom b =>
    simp only [stepT, Prod.mk.injEq] at h
    rw [← h.1, madeT]
    simp
  | half a k d =>
    simp only [stepT] at h
    split at h
    · cases h
    · rename_i u hu
      split at hu
      · rename_i hc
        simp only [Option.some.injEq] at hu
        have hf := ha _ (hmem acc a hn)
        generalize acc.getD a.toNat .zero = f at hu hc hf
        obtain ⟨fk, fn, fs, fl⟩ := f
        simp only [Prod.mk.injEq] at h
        rw [← h.1, ← hu]
        have hfk : fk = k := hc.1
        subst hfk
        have hd : d < fl.length := hc.2
        refine made_kids hO hf (hs.elim (fun h => .inl h.1) (fun h => .inr h.1)) _ ?_
        rw [parts]
        rcases hs with ⟨rfl, h0⟩ | ⟨rfl, h0⟩
        · rw [if_pos rfl]
          exact getD_mem (by omega)
        · rw [if_neg (by omega), if_pos rfl]
          have e : fl.getD d.toNat .zero = (fl.drop 1).getD (d.toNat - 1) .zero := by
            rw [List.getD_eq_getElem?_getD, List.getD_eq_getElem?_getD, List.getElem?_drop, show 1 + (d.toNat - 1) = d.toNat by omega]
          show fl.getD d.toNat .zero ∈ _
          rw [e]
          exact getD_mem (by simp; omega)
      · cases hu
  | one k a =>
    simp only [stepT, Prod.mk.injEq] at h
    have hk : (k == 2) = false := by simpa using (show k ≠ 2 from hs)
    rw [← h.1, madeT, hk, madeL, madeL, ha _ (hmem acc a hn)]
    simp
  | two k a b =>
    simp only [stepT, Prod.mk.injEq] at h
    rw [nearF, Bool.and_eq_true] at hn
    have hk : (k == 2) = false := by simpa using (show k ≠ 2 from hs)
    rw [← h.1, madeT, hk, madeL, madeL, madeL, ha _ (hmem acc a hn.1), ha _ (hmem acc b hn.2)]
    simp

theorem runG_made {l : List Tm} {O : List Tm} (hO : Closed O) (hl : ∀ x ∈ l, x ∈ O) : ∀ (ms : List Mv) (acc : List Tm), (∀ x ∈ acc, madeT O x = true) → ∀ x ∈ (runG l ms acc).1, madeT O x = true
  | [], acc, ha => by simpa [runG] using ha
  | m :: ms, acc, ha => by
    rw [runG]
    split
    · simp
    · rename_i s hs
      split
      · rename_i hn
        split
        · rename_i t hd
          exact runG_made hO hl ms _ fun x hx => (List.mem_append.1 hx).elim (ha x) fun h => by
            simp at h
            rw [h]
            exact does_made hO hl ha (read_good hs) hn hd
        · simp
      · simp
theorem runF_made {l : List Tm} (hg : ∀ t ∈ l, Gd t) (ms : List Mv) : ∀ x ∈ (runF l ms).1, madeT (openF l) x = true := by
  have hO := openF_P hg
  unfold runF
  split
  · simp
  · exact runG_made hO.closed hO.has ms [] (by simp)
theorem runF_len (l : List Tm) (ms : List Mv) (h : (runF l ms).2 = 0) : (runF l ms).1.length = ms.length := by
  unfold runF at h ⊢
  split
  · rename_i h1; rw [if_pos h1] at h; cases h
  · rename_i h1
    rw [if_neg h1] at h
    simpa using runG_len l ms [] h
theorem runG_sm {l : List Tm} : ∀ (ms : List Mv) (acc : List Tm), (∀ x ∈ acc, Sm x) → ∀ x ∈ (runG l ms acc).1, Sm x
  | [], acc, ha => by simpa [runG] using ha
  | m :: ms, acc, ha => by
    rw [runG]
    split
    · simp
    · split
      · split
        · rename_i s _ _ _ t hd
          exact runG_sm ms _ fun x hx => (List.mem_append.1 hx).elim (ha x) fun h => by
            simp at h
            rw [h]
            unfold doesF at hd
            split at hd
            · cases hd
            · simp only [Prod.mk.injEq] at hd
              rw [← hd.1]
              exact (mayF_gd hd.2).sm
        · simp
      · simp
theorem runF_sm (l : List Tm) (ms : List Mv) : ∀ x ∈ (runF l ms).1, Sm x := by
  unfold runF
  split
  · simp
  · exact runG_sm ms [] (by simp)

set_option maxRecDepth 100000 in
theorem proofSound_fn (ns mn : List Int) (h1 : ns.length ≤ 9223372036854775807) (h2 : mn.length ≤ 9223372036854775807) : Gives Try.prog 3 [.lst 1 (ints ns), .lst 1 (ints mn)] .tt := by
  have hT := terms_fn ns 8 h1 (by omega)
  have hM := moves_fn mn 40 h2 (by omega)
  have hgl := genL_gd ns 8 0 (by omega)
  have hml := genM_len mn 40 0 0
  generalize genL ns 8 0 = l at hT hgl
  generalize genM mn 40 0 0 = ms at hM hml
  have hlen := szL_len l
  refine contract_of ty_ok [0, 1, 2, 3, 4, 5, 6, 7] Try.func3 rfl (by decide) Try.ntmps3 rfl fun z => ?_
  refine run 400 rfl ?_
  refine at_fn known16_fn rfl ?_
  refine run 400 rfl ?_
  refine at_fn hT rfl ?_
  refine run 400 rfl ?_
  refine at_fn hM rfl ?_
  refine run 400 rfl ?_
  refine at_loop (fun m : List Mv => m.length ≤ 40) (fun m => [(5, .lst 4 (rowsT l)), (6, .lst 4 (rowsM m))]) (fun _ => []) (fun m => m.length) [0, 1, 2, 3, 4, 5, 6, 7]
    ms hml ⟨SVle.refl _, SVle.refl _, trivial⟩ trivial ?_
  intro m hm
  have hmlen : (rowsM m).length = m.length := by simp
  refine run 400 rfl ?_
  refine at_ifd rfl (fun g => ?_) (fun g => ?_)
  rotate_left
  · refine run 400 rfl ?_
    exact at_ret rfl rfl [] ⟨rfl, rfl, rfl⟩ trivial
  rw [hmlen] at g
  refine run 400 rfl ?_
  have hR := run_fn l m (by omega)
  have hmade := runF_made hgl.1 m
  have hrl := runF_len l m
  have hsm := runF_sm l m
  generalize runF l m = R at hR hmade hrl hsm
  obtain ⟨out, e⟩ := R
  dsimp only at hR hmade hrl hsm
  have hol : (rowsT out).length = out.length := rowsT_len out
  refine at_fn hR rfl ?_
  refine run 400 rfl ?_
  refine at_if rfl (fun q => ?_) (fun q => ?_)
  · have q : e = 0 := by simpa using q
    have hrl := hrl q
    refine run 400 rfl ?_
    refine at_loop (fun i : Nat => i ≤ out.length) (fun i => [(5, .lst 4 (rowsT l)), (6, .lst 4 (rowsM m)), (7, .lst 4 (rowsT out)), (9, I i)]) (fun _ => []) (fun i => out.length - i) [0, 1, 2, 3, 4, 5, 6, 7]
      0 (by omega) ⟨SVle.refl _, SVle.refl _, SVle.refl _, SVle.refl _, trivial⟩ trivial ?_
    intro i hi
    refine run 400 rfl ?_
    refine at_ifd rfl (fun c => ?_) (fun c => ?_)
    rotate_left
    · refine run 400 rfl ?_
      refine at_true 4 rfl (by rw [hol, hmlen, hrl]; exact beq_self_eq_true _) ?_
      exact at_ret rfl rfl [] ⟨rfl, rfl, rfl⟩ trivial
    rw [hol] at c
    have hlt : i < out.length := by omega
    have hget := rowsT_get hlt
    have hmem := getD_mem hlt
    generalize out.getD i .zero = u at hget hmem
    refine run 400 rfl ?_
    refine at_val (.rp (tr u) 0) (does_index ty_ok _ rfl rfl rfl (by omega) (show (rowsT out)[(i : Int).toNat]? = some (tr u) from hget) rfl) ?_
    refine run 400 rfl ?_
    refine at_fn (can_fn l u hgl.1 (by omega) (hsm u hmem)) rfl ?_
    refine run 400 rfl ?_
    refine at_false 39 rfl (by rw [hmade u hmem]; rfl) ?_
    refine run 400 rfl ?_
    exact at_again (i + 1) (by omega) (by omega) ⟨SVle.refl _, SVle.refl _, SVle.refl _, SVle.of_eq (by show I ((i : Int) + 1) = I ((i + 1 : Nat) : Int); rw [Int.natCast_add]; rfl), trivial⟩ trivial
  · refine run 400 rfl ?_
    refine at_val (.lst 4 ((rowsM m).take (((rowsM m).length : Int) - 1).toNat)) (does_slice_h ty_ok rfl rfl rfl (by omega) rfl) ?_
    refine run 400 rfl ?_
    exact at_again (m.take (m.length - 1)) (by simp; omega) (by simp; omega) ⟨SVle.refl _, SVle.of_eq (by show SV.lst 4 ((rowsM m).take (((rowsM m).length : Int) - 1).toNat) = SV.lst 4 (rowsM (m.take (m.length - 1))); rw [hmlen, show (((m.length : Nat) : Int) - 1).toNat = m.length - 1 by omega]; simp only [rowsM, List.map_take]), trivial⟩ trivial
end Go.Proofs.Ytmnmhehddbemkaa
namespace Go.Proofs.Ytmnmhehddbemkaa
open Go Go.Eng

theorem ok_int {n : Nat} {ds : List DV} (h : okT Try.prog n 3 ds) : ∃ m, ds = [.int .i64 m] := by
  cases n with
  | zero => exact h.elim
  | succ n =>
    simp only [okT, Try.underlying3] at h
    obtain ⟨m, rfl, _⟩ := h
    exact ⟨m, rfl⟩
theorem cells3 : Try.prog.cellsOf 3 = 1 := by kernel_rfl
theorem rows_of {X : Type} {f : X → List DV} {Q : List DV → Prop} (hQ : ∀ r, Q r → ∃ x, r = f x) : ∀ rows : List (List DV), (∀ r ∈ rows, Q r) → ∃ l : List X, rows = l.map f
  | [], _ => ⟨[], rfl⟩
  | r :: rows, h => by
    obtain ⟨x, rfl⟩ := hQ r (h r (by simp))
    obtain ⟨l, rfl⟩ := rows_of hQ rows fun r hr => h r (by simp [hr])
    exact ⟨x :: l, rfl⟩
theorem ok_ints {n : Nat} {ds : List DV} (h : okT Try.prog n 22 ds) : ∃ l, ds = [.lst 1 (ints l)] ∧ l.length ≤ maxLen := by
  cases n with
  | zero => exact h.elim
  | succ n =>
    simp only [okT, Try.underlying22, cells3] at h
    obtain ⟨rows, rfl, hm, hr⟩ := h
    obtain ⟨l, rfl⟩ := rows_of (f := fun n => [.int .i64 n]) (fun r hr => ok_int hr) rows fun r h => (hr r h).2
    exact ⟨l, rfl, by simpa using hm⟩
end Go.Proofs.Ytmnmhehddbemkaa
namespace Go.Proofs.Ytmnmhehddbemkaa
open Go Go.Eng
set_option maxRecDepth 100000

theorem ok_str {n : Nat} {ds : List DV} (h : okT Try.prog n 9 ds) : ∃ m, ds = [.str m] := by
  cases n with
  | zero => exact h.elim
  | succ n =>
    simp only [okT, Try.underlying9] at h
    obtain ⟨m, rfl, _⟩ := h
    exact ⟨m, rfl⟩
theorem cells9 : Try.prog.cellsOf 9 = 1 := by kernel_rfl
theorem cells37 : Try.prog.cellsOf 37 = 4 := by kernel_rfl
theorem ok_move {n : Nat} {r : List DV} (h : okT Try.prog n 37 r) : ∃ m : Mv, r = mr m := by
  cases n with
  | zero => exact h.elim
  | succ n =>
    simp only [okT, Try.underlying37, cells37] at h
    obtain ⟨hl, h⟩ := h
    obtain ⟨a, b, c, d, rfl⟩ : ∃ a b c d, r = [a, b, c, d] := by
      match r, hl with
      | [a, b, c, d], _ => exact ⟨a, b, c, d, rfl⟩
    have h0 := h 0 _ rfl
    have h1 := h 1 _ rfl
    have h2 := h 2 _ rfl
    have h3 := h 3 _ rfl
    simp [cells3, cells9] at h0 h1 h2 h3
    obtain ⟨x0, e0⟩ := ok_int h0
    obtain ⟨x1, e1⟩ := ok_int h1
    obtain ⟨x2, e2⟩ := ok_int h2
    obtain ⟨x3, e3⟩ := ok_str h3
    simp only [List.cons.injEq, and_true] at e0 e1 e2 e3
    exact ⟨⟨x0, x1, x2, x3⟩, by rw [e0, e1, e2, e3]⟩
theorem ok_moves {n : Nat} {ds : List DV} (h : okT Try.prog n 26 ds) : ∃ l : List Mv, ds = [.lst 4 (rowsM l)] ∧ l.length ≤ maxLen := by
  cases n with
  | zero => exact h.elim
  | succ n =>
    simp only [okT, Try.underlying26, cells37] at h
    obtain ⟨rows, rfl, hm, hr⟩ := h
    obtain ⟨l, rfl⟩ := rows_of (f := mr) (fun r hr => ok_move hr) rows fun r h => (hr r h).2
    exact ⟨l, rfl, by simpa using hm⟩
end Go.Proofs.Ytmnmhehddbemkaa
namespace Go.Proofs.Ytmnmhehddbemkaa
open Go Go.Eng


set_option maxRecDepth 100000 in
theorem walk_f0 (t : Tm) (d left : Int) (h1 : decide (left < 1) = true) : Gives Try.prog 69 [t.sv, I d, I left] (I (-1)) := by
  refine contract_of ty_ok [0, 1, 2, 3, 4, 5, 6, 7] Try.func69 rfl (by decide) Try.ntmps69 rfl fun z => ?_
  refine run 400 rfl ?_
  refine at_drawn 51 rfl rfl [(2, .yes)] [20, 21, 22] rfl h1 ?_
  refine run 400 rfl ?_
  exact at_ret rfl rfl [] ⟨rfl, rfl, rfl⟩ trivial

set_option maxRecDepth 100000 in
theorem walk_f1 (t : Tm) (d left : Int) (h1 : decide (left < 1) = false) (h2 : decide (16 < d) = true) : Gives Try.prog 69 [t.sv, I d, I left] (I (-1)) := by
  refine contract_of ty_ok [0, 1, 2, 3, 4, 5, 6, 7] Try.func69 rfl (by decide) Try.ntmps69 rfl fun z => ?_
  refine run 400 rfl ?_
  refine at_drawn 51 rfl rfl [(2, .no), (6, .yes)] [20, 21, 22] rfl ⟨h2, h1⟩ ?_
  refine run 400 rfl ?_
  exact at_ret rfl rfl [] ⟨rfl, rfl, rfl⟩ trivial

set_option maxRecDepth 100000 in
theorem walk_f2 (t : Tm) (d left : Int) (h1 : decide (left < 1) = false) (h2 : decide (16 < d) = false) (h3 : (!(kidsF t.k == ((rowsT t.kids).length : Int))) = true) : Gives Try.prog 69 [t.sv, I d, I left] (I (-1)) := by
  refine contract_of ty_ok [0, 1, 2, 3, 4, 5, 6, 7] Try.func69 rfl (by decide) Try.ntmps69 rfl fun z => ?_
  refine run 400 rfl ?_
  refine at_drawn 51 rfl rfl [(2, .no), (6, .no), (9, .sv (I (kidsF t.k))), (15, .yes)] [20, 21, 22] rfl ⟨h3, kids94_fn _, h2, h1⟩ ?_
  refine run 400 rfl ?_
  exact at_ret rfl rfl [] ⟨rfl, rfl, rfl⟩ trivial

set_option maxRecDepth 100000 in
theorem walk_f3 (t : Tm) (d left : Int) (h1 : decide (left < 1) = false) (h2 : decide (16 < d) = false) (h3 : (!(kidsF t.k == ((rowsT t.kids).length : Int))) = false) (h4 : (!(t.k == 1)) = true) (h5 : (!(seq t.s .empty)) = true) : Gives Try.prog 69 [t.sv, I d, I left] (I (-1)) := by
  refine contract_of ty_ok [0, 1, 2, 3, 4, 5, 6, 7] Try.func69 rfl (by decide) Try.ntmps69 rfl fun z => ?_
  refine run 400 rfl ?_
  refine at_drawn 51 rfl rfl [(2, .no), (6, .no), (9, .sv (I (kidsF t.k))), (15, .no), (19, .yes), (25, .yes)] [20, 21, 22] rfl ⟨h5, h4, h3, kids94_fn _, h2, h1⟩ ?_
  refine run 400 rfl ?_
  exact at_ret rfl rfl [] ⟨rfl, rfl, rfl⟩ trivial

set_option maxRecDepth 100000 in
theorem walk_f4 (t : Tm) (d left : Int) (h1 : decide (left < 1) = false) (h2 : decide (16 < d) = false) (h3 : (!(kidsF t.k == ((rowsT t.kids).length : Int))) = false) (h4 : (!(t.k == 1)) = true) (h5 : (!(seq t.s .empty)) = false) (h6 : decide (1024 < (t.s.size : Int)) = true) : Gives Try.prog 69 [t.sv, I d, I left] (I (-1)) := by
  refine contract_of ty_ok [0, 1, 2, 3, 4, 5, 6, 7] Try.func69 rfl (by decide) Try.ntmps69 rfl fun z => ?_
  refine run 400 rfl ?_
  refine at_drawn 51 rfl rfl [(2, .no), (6, .no), (9, .sv (I (kidsF t.k))), (15, .no), (19, .yes), (25, .no), (31, .yes)] [20, 21, 22] rfl ⟨h6, h5, h4, h3, kids94_fn _, h2, h1⟩ ?_
  refine run 400 rfl ?_
  exact at_ret rfl rfl [] ⟨rfl, rfl, rfl⟩ trivial

set_option maxRecDepth 100000 in
theorem walk_f5 (t : Tm) (d left : Int) (h1 : decide (left < 1) = false) (h2 : decide (16 < d) = false) (h3 : (!(kidsF t.k == ((rowsT t.kids).length : Int))) = false) (h4 : (!(t.k == 1)) = true) (h5 : (!(seq t.s .empty)) = false) (h6 : decide (1024 < (t.s.size : Int)) = false) (h7 : (!(t.k == 2)) = true) (h8 : (!(t.n == 0)) = true) : Gives Try.prog 69 [t.sv, I d, I left] (I (-1)) := by
  refine contract_of ty_ok [0, 1, 2, 3, 4, 5, 6, 7] Try.func69 rfl (by decide) Try.ntmps69 rfl fun z => ?_
  refine run 400 rfl ?_
  refine at_drawn 51 rfl rfl [(2, .no), (6, .no), (9, .sv (I (kidsF t.k))), (15, .no), (19, .yes), (25, .no), (31, .no), (35, .yes), (41, .yes)] [20, 21, 22] rfl ⟨h8, h7, h6, h5, h4, h3, kids94_fn _, h2, h1⟩ ?_
  refine run 400 rfl ?_
  exact at_ret rfl rfl [] ⟨rfl, rfl, rfl⟩ trivial

set_option maxRecDepth 100000 in
theorem walk_f6 (t : Tm) (d left : Int) (h1 : decide (left < 1) = false) (h2 : decide (16 < d) = false) (h3 : (!(kidsF t.k == ((rowsT t.kids).length : Int))) = false) (h4 : (!(t.k == 1)) = true) (h5 : (!(seq t.s .empty)) = false) (h6 : decide (1024 < (t.s.size : Int)) = false) (h7 : (!(t.k == 2)) = true) (h8 : (!(t.n == 0)) = false) (h9 : decide (t.n < 0) = true) : Gives Try.prog 69 [t.sv, I d, I left] (I (-1)) := by
  refine contract_of ty_ok [0, 1, 2, 3, 4, 5, 6, 7] Try.func69 rfl (by decide) Try.ntmps69 rfl fun z => ?_
  refine run 400 rfl ?_
  refine at_drawn 51 rfl rfl [(2, .no), (6, .no), (9, .sv (I (kidsF t.k))), (15, .no), (19, .yes), (25, .no), (31, .no), (35, .yes), (41, .no), (46, .yes)] [20, 21, 22] rfl ⟨h9, h8, h7, h6, h5, h4, h3, kids94_fn _, h2, h1⟩ ?_
  refine run 400 rfl ?_
  exact at_ret rfl rfl [] ⟨rfl, rfl, rfl⟩ trivial

set_option maxRecDepth 100000 in
theorem walk_f7 (t : Tm) (d left : Int) (h1 : decide (left < 1) = false) (h2 : decide (16 < d) = false) (h3 : (!(kidsF t.k == ((rowsT t.kids).length : Int))) = false) (h4 : (!(t.k == 1)) = true) (h5 : (!(seq t.s .empty)) = false) (h6 : decide (1024 < (t.s.size : Int)) = false) (h7 : (!(t.k == 2)) = true) (h8 : (!(t.n == 0)) = false) (h9 : decide (t.n < 0) = false) (h10 : decide (1073741824 < t.n) = true) : Gives Try.prog 69 [t.sv, I d, I left] (I (-1)) := by
  refine contract_of ty_ok [0, 1, 2, 3, 4, 5, 6, 7] Try.func69 rfl (by decide) Try.ntmps69 rfl fun z => ?_
  refine run 400 rfl ?_
  refine at_drawn 51 rfl rfl [(2, .no), (6, .no), (9, .sv (I (kidsF t.k))), (15, .no), (19, .yes), (25, .no), (31, .no), (35, .yes), (41, .no), (46, .no)] [20, 21, 22] rfl ⟨h9, h8, h7, h6, h5, h4, h3, kids94_fn _, h2, h1⟩ ?_
  refine run 400 rfl ?_
  refine at_ifd rfl (fun g => ?_) (fun g => ?_)
  · refine run 400 rfl ?_
    exact at_ret rfl rfl [] ⟨rfl, rfl, rfl⟩ trivial
  · exact absurd h10 (by rw [decide_eq_true_eq]; exact g)

set_option maxRecDepth 100000 in
theorem walk_f8 (t : Tm) (d left : Int) (h1 : decide (left < 1) = false) (h2 : decide (16 < d) = false) (h3 : (!(kidsF t.k == ((rowsT t.kids).length : Int))) = false) (h4 : (!(t.k == 1)) = true) (h5 : (!(seq t.s .empty)) = false) (h6 : decide (1024 < (t.s.size : Int)) = false) (h7 : (!(t.k == 2)) = false) (h9 : decide (t.n < 0) = true) : Gives Try.prog 69 [t.sv, I d, I left] (I (-1)) := by
  refine contract_of ty_ok [0, 1, 2, 3, 4, 5, 6, 7] Try.func69 rfl (by decide) Try.ntmps69 rfl fun z => ?_
  refine run 400 rfl ?_
  refine at_drawn 51 rfl rfl [(2, .no), (6, .no), (9, .sv (I (kidsF t.k))), (15, .no), (19, .yes), (25, .no), (31, .no), (35, .no), (46, .yes)] [20, 21, 22] rfl ⟨h9, h7, h6, h5, h4, h3, kids94_fn _, h2, h1⟩ ?_
  refine run 400 rfl ?_
  exact at_ret rfl rfl [] ⟨rfl, rfl, rfl⟩ trivial

set_option maxRecDepth 100000 in
theorem walk_f9 (t : Tm) (d left : Int) (h1 : decide (left < 1) = false) (h2 : decide (16 < d) = false) (h3 : (!(kidsF t.k == ((rowsT t.kids).length : Int))) = false) (h4 : (!(t.k == 1)) = true) (h5 : (!(seq t.s .empty)) = false) (h6 : decide (1024 < (t.s.size : Int)) = false) (h7 : (!(t.k == 2)) = false) (h9 : decide (t.n < 0) = false) (h10 : decide (1073741824 < t.n) = true) : Gives Try.prog 69 [t.sv, I d, I left] (I (-1)) := by
  refine contract_of ty_ok [0, 1, 2, 3, 4, 5, 6, 7] Try.func69 rfl (by decide) Try.ntmps69 rfl fun z => ?_
  refine run 400 rfl ?_
  refine at_drawn 51 rfl rfl [(2, .no), (6, .no), (9, .sv (I (kidsF t.k))), (15, .no), (19, .yes), (25, .no), (31, .no), (35, .no), (46, .no)] [20, 21, 22] rfl ⟨h9, h7, h6, h5, h4, h3, kids94_fn _, h2, h1⟩ ?_
  refine run 400 rfl ?_
  refine at_ifd rfl (fun g => ?_) (fun g => ?_)
  · refine run 400 rfl ?_
    exact at_ret rfl rfl [] ⟨rfl, rfl, rfl⟩ trivial
  · exact absurd h10 (by rw [decide_eq_true_eq]; exact g)

set_option maxRecDepth 100000 in
theorem walk_f10 (t : Tm) (d left : Int) (h1 : decide (left < 1) = false) (h2 : decide (16 < d) = false) (h3 : (!(kidsF t.k == ((rowsT t.kids).length : Int))) = false) (h4 : (!(t.k == 1)) = false) (h6 : decide (1024 < (t.s.size : Int)) = true) : Gives Try.prog 69 [t.sv, I d, I left] (I (-1)) := by
  refine contract_of ty_ok [0, 1, 2, 3, 4, 5, 6, 7] Try.func69 rfl (by decide) Try.ntmps69 rfl fun z => ?_
  refine run 400 rfl ?_
  refine at_drawn 51 rfl rfl [(2, .no), (6, .no), (9, .sv (I (kidsF t.k))), (15, .no), (19, .no), (31, .yes)] [20, 21, 22] rfl ⟨h6, h4, h3, kids94_fn _, h2, h1⟩ ?_
  refine run 400 rfl ?_
  exact at_ret rfl rfl [] ⟨rfl, rfl, rfl⟩ trivial

set_option maxRecDepth 100000 in
theorem walk_f11 (t : Tm) (d left : Int) (h1 : decide (left < 1) = false) (h2 : decide (16 < d) = false) (h3 : (!(kidsF t.k == ((rowsT t.kids).length : Int))) = false) (h4 : (!(t.k == 1)) = false) (h6 : decide (1024 < (t.s.size : Int)) = false) (h7 : (!(t.k == 2)) = true) (h8 : (!(t.n == 0)) = true) : Gives Try.prog 69 [t.sv, I d, I left] (I (-1)) := by
  refine contract_of ty_ok [0, 1, 2, 3, 4, 5, 6, 7] Try.func69 rfl (by decide) Try.ntmps69 rfl fun z => ?_
  refine run 400 rfl ?_
  refine at_drawn 51 rfl rfl [(2, .no), (6, .no), (9, .sv (I (kidsF t.k))), (15, .no), (19, .no), (31, .no), (35, .yes), (41, .yes)] [20, 21, 22] rfl ⟨h8, h7, h6, h4, h3, kids94_fn _, h2, h1⟩ ?_
  refine run 400 rfl ?_
  exact at_ret rfl rfl [] ⟨rfl, rfl, rfl⟩ trivial

set_option maxRecDepth 100000 in
theorem walk_f12 (t : Tm) (d left : Int) (h1 : decide (left < 1) = false) (h2 : decide (16 < d) = false) (h3 : (!(kidsF t.k == ((rowsT t.kids).length : Int))) = false) (h4 : (!(t.k == 1)) = false) (h6 : decide (1024 < (t.s.size : Int)) = false) (h7 : (!(t.k == 2)) = true) (h8 : (!(t.n == 0)) = false) (h9 : decide (t.n < 0) = true) : Gives Try.prog 69 [t.sv, I d, I left] (I (-1)) := by
  refine contract_of ty_ok [0, 1, 2, 3, 4, 5, 6, 7] Try.func69 rfl (by decide) Try.ntmps69 rfl fun z => ?_
  refine run 400 rfl ?_
  refine at_drawn 51 rfl rfl [(2, .no), (6, .no), (9, .sv (I (kidsF t.k))), (15, .no), (19, .no), (31, .no), (35, .yes), (41, .no), (46, .yes)] [20, 21, 22] rfl ⟨h9, h8, h7, h6, h4, h3, kids94_fn _, h2, h1⟩ ?_
  refine run 400 rfl ?_
  exact at_ret rfl rfl [] ⟨rfl, rfl, rfl⟩ trivial

set_option maxRecDepth 100000 in
theorem walk_f13 (t : Tm) (d left : Int) (h1 : decide (left < 1) = false) (h2 : decide (16 < d) = false) (h3 : (!(kidsF t.k == ((rowsT t.kids).length : Int))) = false) (h4 : (!(t.k == 1)) = false) (h6 : decide (1024 < (t.s.size : Int)) = false) (h7 : (!(t.k == 2)) = true) (h8 : (!(t.n == 0)) = false) (h9 : decide (t.n < 0) = false) (h10 : decide (1073741824 < t.n) = true) : Gives Try.prog 69 [t.sv, I d, I left] (I (-1)) := by
  refine contract_of ty_ok [0, 1, 2, 3, 4, 5, 6, 7] Try.func69 rfl (by decide) Try.ntmps69 rfl fun z => ?_
  refine run 400 rfl ?_
  refine at_drawn 51 rfl rfl [(2, .no), (6, .no), (9, .sv (I (kidsF t.k))), (15, .no), (19, .no), (31, .no), (35, .yes), (41, .no), (46, .no)] [20, 21, 22] rfl ⟨h9, h8, h7, h6, h4, h3, kids94_fn _, h2, h1⟩ ?_
  refine run 400 rfl ?_
  refine at_ifd rfl (fun g => ?_) (fun g => ?_)
  · refine run 400 rfl ?_
    exact at_ret rfl rfl [] ⟨rfl, rfl, rfl⟩ trivial
  · exact absurd h10 (by rw [decide_eq_true_eq]; exact g)

set_option maxRecDepth 100000 in
theorem walk_f14 (t : Tm) (d left : Int) (h1 : decide (left < 1) = false) (h2 : decide (16 < d) = false) (h3 : (!(kidsF t.k == ((rowsT t.kids).length : Int))) = false) (h4 : (!(t.k == 1)) = false) (h6 : decide (1024 < (t.s.size : Int)) = false) (h7 : (!(t.k == 2)) = false) (h9 : decide (t.n < 0) = true) : Gives Try.prog 69 [t.sv, I d, I left] (I (-1)) := by
  refine contract_of ty_ok [0, 1, 2, 3, 4, 5, 6, 7] Try.func69 rfl (by decide) Try.ntmps69 rfl fun z => ?_
  refine run 400 rfl ?_
  refine at_drawn 51 rfl rfl [(2, .no), (6, .no), (9, .sv (I (kidsF t.k))), (15, .no), (19, .no), (31, .no), (35, .no), (46, .yes)] [20, 21, 22] rfl ⟨h9, h7, h6, h4, h3, kids94_fn _, h2, h1⟩ ?_
  refine run 400 rfl ?_
  exact at_ret rfl rfl [] ⟨rfl, rfl, rfl⟩ trivial

set_option maxRecDepth 100000 in
theorem walk_f15 (t : Tm) (d left : Int) (h1 : decide (left < 1) = false) (h2 : decide (16 < d) = false) (h3 : (!(kidsF t.k == ((rowsT t.kids).length : Int))) = false) (h4 : (!(t.k == 1)) = false) (h6 : decide (1024 < (t.s.size : Int)) = false) (h7 : (!(t.k == 2)) = false) (h9 : decide (t.n < 0) = false) (h10 : decide (1073741824 < t.n) = true) : Gives Try.prog 69 [t.sv, I d, I left] (I (-1)) := by
  refine contract_of ty_ok [0, 1, 2, 3, 4, 5, 6, 7] Try.func69 rfl (by decide) Try.ntmps69 rfl fun z => ?_
  refine run 400 rfl ?_
  refine at_drawn 51 rfl rfl [(2, .no), (6, .no), (9, .sv (I (kidsF t.k))), (15, .no), (19, .no), (31, .no), (35, .no), (46, .no)] [20, 21, 22] rfl ⟨h9, h7, h6, h4, h3, kids94_fn _, h2, h1⟩ ?_
  refine run 400 rfl ?_
  refine at_ifd rfl (fun g => ?_) (fun g => ?_)
  · refine run 400 rfl ?_
    exact at_ret rfl rfl [] ⟨rfl, rfl, rfl⟩ trivial
  · exact absurd h10 (by rw [decide_eq_true_eq]; exact g)
end Go.Proofs.Ytmnmhehddbemkaa
namespace Go.Proofs.Ytmnmhehddbemkaa
open Go Go.Eng

theorem tl_data (a : ByteArray) : a.toList = a.data.toList := by
  unfold ByteArray.toList
  rw [loop_eq a _ 0 [] rfl]
  simp
theorem sq_data (a b : ByteArray) : seq a b = (a.data.toList == b.data.toList) := by rw [seq, tl_data, tl_data]
theorem right_eq (t : Tm) : rightF t = ((((kidsF t.k == ((rowsT t.kids).length : Int)) && !(!(t.k == 1) && !(seq t.s .empty)) && !decide (1024 < (t.s.size : Int))) && !(!(t.k == 2) && !(t.n == 0))) && !decide (t.n < 0) && !decide (1073741824 < t.n)) := by
  have hs : seq t.s .empty = true → t.s.size = 0 := by
    intro h
    rw [sq_data] at h
    have : t.s.data = ByteArray.empty.data := by simpa using h
    show t.s.data.size = 0
    rw [this]
    rfl
  unfold rightF
  rw [rowsT_len]
  have e1 : ((t.kids.length : Int) == kidsF t.k) = (kidsF t.k == (t.kids.length : Int)) := by
    rw [Bool.eq_iff_iff, beq_iff_eq, beq_iff_eq]
    exact eq_comm
  have e2 : (seq t.s .empty || (t.k == 1 && decide ((t.s.size : Int) ≤ 1024))) = (!(!(t.k == 1) && !(seq t.s .empty)) && !decide (1024 < (t.s.size : Int))) := by
    cases hq : seq t.s .empty with
    | true =>
      have := hs hq
      simp [this]
    | false =>
      cases hk : (t.k == 1)
      · simp
      · simp only [Bool.false_or, Bool.true_and, Bool.not_true, Bool.false_and, Bool.not_false]
        rw [Bool.eq_iff_iff]
        simp
  have e3 : (t.n == 0 || (t.k == 2 && decide (0 < t.n) && decide (t.n ≤ 1073741824))) = (!(!(t.k == 2) && !(t.n == 0)) && !decide (t.n < 0) && !decide (1073741824 < t.n)) := by
    cases hk : (t.k == 2) with
    | false =>
      by_cases h : t.n = 0
      · simp [h]
      · have h : (t.n == 0) = false := by simpa using h
        simp [h]
    | true =>
      rw [Bool.eq_iff_iff]
      simp
      omega
  rw [e1, e2, e3]
  simp only [Bool.and_assoc]

/-- What is left. -/
def wk (r : Bool × Int) : Int := if r.1 then 64 - r.2 else -1
theorem wk_may {t : Tm} {d left : Int} (h0 : 0 ≤ left ∧ left ≤ 64) : -1 ≤ wk (mayT t d (64 - left)) ∧ wk (mayT t d (64 - left)) ≤ 64 := by
  have := mayT_le t d (64 - left) (by omega) (by omega)
  unfold wk
  split
  · rename_i h
    have := this.2.2 h
    omega
  · omega
theorem wk_cons {t : Tm} {l : List Tm} {d left : Int} (h0 : 0 ≤ left ∧ left ≤ 64) : wk (mayL (t :: l) d (64 - left)) = if wk (mayT t d (64 - left)) < 0 then -1 else wk (mayL l d (64 - wk (mayT t d (64 - left)))) := by
  have := mayT_le t d (64 - left) (by omega) (by omega)
  rw [mayL]
  rcases hm : mayT t d (64 - left) with ⟨b, c'⟩
  rw [hm] at this
  dsimp only at this
  cases b with
  | false => simp [wk]
  | true =>
    have h64 := this.2.2 rfl
    have e : wk (true, c') = 64 - c' := rfl
    rw [e, if_neg (by omega)]
    dsimp only
    rw [show (64 : Int) - (64 - c') = c' by omega]

set_option maxRecDepth 100000 in
theorem walk_g0 (k n : Int) (s : ByteArray) (l : List Tm) (d left : Int) (hd : 0 ≤ d) (hl : left ≤ 64) (ih : ∀ u ∈ l, ∀ d left : Int, 0 ≤ left → left ≤ 64 → 0 ≤ d → d ≤ 17 → Gives Try.prog 69 [u.sv, I d, I left] (I (wk (mayT u d (64 - left))))) (h1 : decide (left < 1) = false) (h2 : decide (16 < d) = false) (h3 : (!(kidsF (Tm.mk k n s l).k == ((rowsT (Tm.mk k n s l).kids).length : Int))) = false) (h4 : (!((Tm.mk k n s l).k == 1)) = true) (h5 : (!(seq (Tm.mk k n s l).s .empty)) = false) (h6 : decide (1024 < ((Tm.mk k n s l).s.size : Int)) = false) (h7 : (!((Tm.mk k n s l).k == 2)) = true) (h8 : (!((Tm.mk k n s l).n == 0)) = false) (h9 : decide ((Tm.mk k n s l).n < 0) = false) (h10 : decide (1073741824 < (Tm.mk k n s l).n) = false) : Gives Try.prog 69 [(Tm.mk k n s l).sv, I d, I left] (I (wk (mayL l (d + 1) (64 - left + 1)))) := by
  have hd16 : d ≤ 16 := by simpa using h2
  have hl1 : 1 ≤ left := by simp at h1; omega
  have hlen2 : l.length ≤ 2 := by
    have : kidsF k = ((rowsT l).length : Int) := by simpa using h3
    rw [rowsT_len] at this
    have := kidsF_le k
    omega
  have hlen0 : ((rowsT l).length : Int) = l.length := by rw [rowsT_len]
  refine contract_of ty_ok [0, 1, 2, 3, 4, 5, 6, 7] Try.func69 rfl (by decide) Try.ntmps69 rfl fun z => ?_
  refine run 400 rfl ?_
  refine at_drawn 51 rfl rfl [(2, .no), (6, .no), (9, .sv (I (kidsF k))), (15, .no), (19, .yes), (25, .no), (31, .no), (35, .yes), (41, .no), (46, .no)] [20, 21, 22] rfl ⟨h9, h8, h7, h6, h5, h4, h3, kids94_fn _, h2, h1⟩ ?_
  refine run 400 rfl ?_
  refine at_ifd rfl (fun g => ?_) (fun g => ?_)
  · exact absurd g (by simpa using h10)
  refine run 400 rfl ?_
  refine at_loop (fun x : Int × Int => 0 ≤ x.1 ∧ x.1 ≤ l.length ∧ -1 ≤ x.2 ∧ x.2 ≤ 64 ∧ wk (mayL l (d + 1) (64 - left + 1)) = if x.2 < 0 then -1 else wk (mayL (l.drop x.1.toNat) (d + 1) (64 - x.2)))
    (fun x => [(1, I d), (2, I x.2), (3, .ptr 0 0), (7, I x.1)]) (fun x => [(0, .cells 33 [I k, I n, .str s, .lst 4 (rowsT l)])]) (fun x => (l.length - x.1).toNat) [1, 2, 3, 4, 5, 6, 7]
    (0, left - 1) ⟨by omega, by dsimp only; omega, by dsimp only; omega, by dsimp only; omega, by dsimp only; rw [if_neg (by omega), show (64 : Int) - (left - 1) = 64 - left + 1 by omega]; rfl⟩ ⟨SVle.refl _, SVle.refl _, SVle.refl _, SVle.refl _, trivial⟩ ⟨rfl, trivial⟩ ?_
  rintro ⟨i, lf⟩ ⟨a1, a2, a3, a4, a5⟩
  dsimp only at a1 a2 a3 a4 a5
  refine run 400 rfl ?_
  refine at_split 66 rfl (fun q => ?_) (fun q => ?_)
  rotate_left
  · have q : ¬ i < ((rowsT l).length : Int) := by simpa using q
    rw [hlen0] at q
    refine run 400 rfl ?_
    have e : l.drop i.toNat = [] := List.drop_eq_nil_of_le (by omega)
    rw [e, mayL] at a5
    refine at_ret rfl rfl [] ⟨?_, rfl, rfl⟩ trivial
    rw [a5]
    show I lf = I _
    split
    · rw [show lf = -1 by omega]
    · rw [wk, if_pos rfl, show lf = 64 - (64 - lf) by omega]
      congr 1
      omega
  have q : i < ((rowsT l).length : Int) := by simpa using q
  rw [hlen0] at q
  refine run 400 rfl ?_
  refine at_ifd rfl (fun q2 => ?_) (fun q2 => ?_)
  rotate_left
  · refine run 400 rfl ?_
    refine at_ret rfl rfl [] ⟨?_, rfl, rfl⟩ trivial
    rw [a5, if_pos (by omega), show lf = -1 by omega]
  have hlt : i.toNat < l.length := by omega
  have hget := rowsT_get hlt
  have hmem := getD_mem hlt
  have hdrop := drop_getD hlt
  generalize l.getD i.toNat .zero = u at hget hmem hdrop
  rw [hdrop, if_neg (by omega), wk_cons (by omega)] at a5
  have hcall := ih u hmem (d + 1) lf (by omega) a4 (by omega) (by omega)
  have hw := wk_may (t := u) (d := d + 1) (left := lf) (by omega)
  generalize wk (mayT u (d + 1) (64 - lf)) = nl at hcall hw a5
  refine run 400 rfl ?_
  refine at_val (.rp (tr u) 0) (does_index ty_ok _ rfl rfl rfl (by omega) (show (rowsT l)[i.toNat]? = some (tr u) from hget) rfl) ?_
  refine run 400 rfl ?_
  refine at_fn hcall rfl ?_
  refine run 400 rfl ?_
  exact at_again (i + 1, nl) ⟨by dsimp only; omega, by dsimp only; omega, by dsimp only; omega, by dsimp only; omega, by dsimp only; rw [a5, show (i + 1).toNat = i.toNat + 1 by omega]⟩ (by dsimp only; omega) ⟨SVle.refl _, SVle.refl _, SVle.refl _, SVle.refl _, trivial⟩ ⟨rfl, trivial⟩

set_option maxRecDepth 100000 in
theorem walk_g1 (k n : Int) (s : ByteArray) (l : List Tm) (d left : Int) (hd : 0 ≤ d) (hl : left ≤ 64) (ih : ∀ u ∈ l, ∀ d left : Int, 0 ≤ left → left ≤ 64 → 0 ≤ d → d ≤ 17 → Gives Try.prog 69 [u.sv, I d, I left] (I (wk (mayT u d (64 - left))))) (h1 : decide (left < 1) = false) (h2 : decide (16 < d) = false) (h3 : (!(kidsF (Tm.mk k n s l).k == ((rowsT (Tm.mk k n s l).kids).length : Int))) = false) (h4 : (!((Tm.mk k n s l).k == 1)) = true) (h5 : (!(seq (Tm.mk k n s l).s .empty)) = false) (h6 : decide (1024 < ((Tm.mk k n s l).s.size : Int)) = false) (h7 : (!((Tm.mk k n s l).k == 2)) = false) (h9 : decide ((Tm.mk k n s l).n < 0) = false) (h10 : decide (1073741824 < (Tm.mk k n s l).n) = false) : Gives Try.prog 69 [(Tm.mk k n s l).sv, I d, I left] (I (wk (mayL l (d + 1) (64 - left + 1)))) := by
  have hd16 : d ≤ 16 := by simpa using h2
  have hl1 : 1 ≤ left := by simp at h1; omega
  have hlen2 : l.length ≤ 2 := by
    have : kidsF k = ((rowsT l).length : Int) := by simpa using h3
    rw [rowsT_len] at this
    have := kidsF_le k
    omega
  have hlen0 : ((rowsT l).length : Int) = l.length := by rw [rowsT_len]
  refine contract_of ty_ok [0, 1, 2, 3, 4, 5, 6, 7] Try.func69 rfl (by decide) Try.ntmps69 rfl fun z => ?_
  refine run 400 rfl ?_
  refine at_drawn 51 rfl rfl [(2, .no), (6, .no), (9, .sv (I (kidsF k))), (15, .no), (19, .yes), (25, .no), (31, .no), (35, .no), (46, .no)] [20, 21, 22] rfl ⟨h9, h7, h6, h5, h4, h3, kids94_fn _, h2, h1⟩ ?_
  refine run 400 rfl ?_
  refine at_ifd rfl (fun g => ?_) (fun g => ?_)
  · exact absurd g (by simpa using h10)
  refine run 400 rfl ?_
  refine at_loop (fun x : Int × Int => 0 ≤ x.1 ∧ x.1 ≤ l.length ∧ -1 ≤ x.2 ∧ x.2 ≤ 64 ∧ wk (mayL l (d + 1) (64 - left + 1)) = if x.2 < 0 then -1 else wk (mayL (l.drop x.1.toNat) (d + 1) (64 - x.2)))
    (fun x => [(1, I d), (2, I x.2), (3, .ptr 0 0), (7, I x.1)]) (fun x => [(0, .cells 33 [I k, I n, .str s, .lst 4 (rowsT l)])]) (fun x => (l.length - x.1).toNat) [1, 2, 3, 4, 5, 6, 7]
    (0, left - 1) ⟨by omega, by dsimp only; omega, by dsimp only; omega, by dsimp only; omega, by dsimp only; rw [if_neg (by omega), show (64 : Int) - (left - 1) = 64 - left + 1 by omega]; rfl⟩ ⟨SVle.refl _, SVle.refl _, SVle.refl _, SVle.refl _, trivial⟩ ⟨rfl, trivial⟩ ?_
  rintro ⟨i, lf⟩ ⟨a1, a2, a3, a4, a5⟩
  dsimp only at a1 a2 a3 a4 a5
  refine run 400 rfl ?_
  refine at_split 66 rfl (fun q => ?_) (fun q => ?_)
  rotate_left
  · have q : ¬ i < ((rowsT l).length : Int) := by simpa using q
    rw [hlen0] at q
    refine run 400 rfl ?_
    have e : l.drop i.toNat = [] := List.drop_eq_nil_of_le (by omega)
    rw [e, mayL] at a5
    refine at_ret rfl rfl [] ⟨?_, rfl, rfl⟩ trivial
    rw [a5]
    show I lf = I _
    split
    · rw [show lf = -1 by omega]
    · rw [wk, if_pos rfl, show lf = 64 - (64 - lf) by omega]
      congr 1
      omega
  have q : i < ((rowsT l).length : Int) := by simpa using q
  rw [hlen0] at q
  refine run 400 rfl ?_
  refine at_ifd rfl (fun q2 => ?_) (fun q2 => ?_)
  rotate_left
  · refine run 400 rfl ?_
    refine at_ret rfl rfl [] ⟨?_, rfl, rfl⟩ trivial
    rw [a5, if_pos (by omega), show lf = -1 by omega]
  have hlt : i.toNat < l.length := by omega
  have hget := rowsT_get hlt
  have hmem := getD_mem hlt
  have hdrop := drop_getD hlt
  generalize l.getD i.toNat .zero = u at hget hmem hdrop
  rw [hdrop, if_neg (by omega), wk_cons (by omega)] at a5
  have hcall := ih u hmem (d + 1) lf (by omega) a4 (by omega) (by omega)
  have hw := wk_may (t := u) (d := d + 1) (left := lf) (by omega)
  generalize wk (mayT u (d + 1) (64 - lf)) = nl at hcall hw a5
  refine run 400 rfl ?_
  refine at_val (.rp (tr u) 0) (does_index ty_ok _ rfl rfl rfl (by omega) (show (rowsT l)[i.toNat]? = some (tr u) from hget) rfl) ?_
  refine run 400 rfl ?_
  refine at_fn hcall rfl ?_
  refine run 400 rfl ?_
  exact at_again (i + 1, nl) ⟨by dsimp only; omega, by dsimp only; omega, by dsimp only; omega, by dsimp only; omega, by dsimp only; rw [a5, show (i + 1).toNat = i.toNat + 1 by omega]⟩ (by dsimp only; omega) ⟨SVle.refl _, SVle.refl _, SVle.refl _, SVle.refl _, trivial⟩ ⟨rfl, trivial⟩

set_option maxRecDepth 100000 in
theorem walk_g2 (k n : Int) (s : ByteArray) (l : List Tm) (d left : Int) (hd : 0 ≤ d) (hl : left ≤ 64) (ih : ∀ u ∈ l, ∀ d left : Int, 0 ≤ left → left ≤ 64 → 0 ≤ d → d ≤ 17 → Gives Try.prog 69 [u.sv, I d, I left] (I (wk (mayT u d (64 - left))))) (h1 : decide (left < 1) = false) (h2 : decide (16 < d) = false) (h3 : (!(kidsF (Tm.mk k n s l).k == ((rowsT (Tm.mk k n s l).kids).length : Int))) = false) (h4 : (!((Tm.mk k n s l).k == 1)) = false) (h6 : decide (1024 < ((Tm.mk k n s l).s.size : Int)) = false) (h7 : (!((Tm.mk k n s l).k == 2)) = true) (h8 : (!((Tm.mk k n s l).n == 0)) = false) (h9 : decide ((Tm.mk k n s l).n < 0) = false) (h10 : decide (1073741824 < (Tm.mk k n s l).n) = false) : Gives Try.prog 69 [(Tm.mk k n s l).sv, I d, I left] (I (wk (mayL l (d + 1) (64 - left + 1)))) := by
  have hd16 : d ≤ 16 := by simpa using h2
  have hl1 : 1 ≤ left := by simp at h1; omega
  have hlen2 : l.length ≤ 2 := by
    have : kidsF k = ((rowsT l).length : Int) := by simpa using h3
    rw [rowsT_len] at this
    have := kidsF_le k
    omega
  have hlen0 : ((rowsT l).length : Int) = l.length := by rw [rowsT_len]
  refine contract_of ty_ok [0, 1, 2, 3, 4, 5, 6, 7] Try.func69 rfl (by decide) Try.ntmps69 rfl fun z => ?_
  refine run 400 rfl ?_
  refine at_drawn 51 rfl rfl [(2, .no), (6, .no), (9, .sv (I (kidsF k))), (15, .no), (19, .no), (31, .no), (35, .yes), (41, .no), (46, .no)] [20, 21, 22] rfl ⟨h9, h8, h7, h6, h4, h3, kids94_fn _, h2, h1⟩ ?_
  refine run 400 rfl ?_
  refine at_ifd rfl (fun g => ?_) (fun g => ?_)
  · exact absurd g (by simpa using h10)
  refine run 400 rfl ?_
  refine at_loop (fun x : Int × Int => 0 ≤ x.1 ∧ x.1 ≤ l.length ∧ -1 ≤ x.2 ∧ x.2 ≤ 64 ∧ wk (mayL l (d + 1) (64 - left + 1)) = if x.2 < 0 then -1 else wk (mayL (l.drop x.1.toNat) (d + 1) (64 - x.2)))
    (fun x => [(1, I d), (2, I x.2), (3, .ptr 0 0), (7, I x.1)]) (fun x => [(0, .cells 33 [I k, I n, .str s, .lst 4 (rowsT l)])]) (fun x => (l.length - x.1).toNat) [1, 2, 3, 4, 5, 6, 7]
    (0, left - 1) ⟨by omega, by dsimp only; omega, by dsimp only; omega, by dsimp only; omega, by dsimp only; rw [if_neg (by omega), show (64 : Int) - (left - 1) = 64 - left + 1 by omega]; rfl⟩ ⟨SVle.refl _, SVle.refl _, SVle.refl _, SVle.refl _, trivial⟩ ⟨rfl, trivial⟩ ?_
  rintro ⟨i, lf⟩ ⟨a1, a2, a3, a4, a5⟩
  dsimp only at a1 a2 a3 a4 a5
  refine run 400 rfl ?_
  refine at_split 66 rfl (fun q => ?_) (fun q => ?_)
  rotate_left
  · have q : ¬ i < ((rowsT l).length : Int) := by simpa using q
    rw [hlen0] at q
    refine run 400 rfl ?_
    have e : l.drop i.toNat = [] := List.drop_eq_nil_of_le (by omega)
    rw [e, mayL] at a5
    refine at_ret rfl rfl [] ⟨?_, rfl, rfl⟩ trivial
    rw [a5]
    show I lf = I _
    split
    · rw [show lf = -1 by omega]
    · rw [wk, if_pos rfl, show lf = 64 - (64 - lf) by omega]
      congr 1
      omega
  have q : i < ((rowsT l).length : Int) := by simpa using q
  rw [hlen0] at q
  refine run 400 rfl ?_
  refine at_ifd rfl (fun q2 => ?_) (fun q2 => ?_)
  rotate_left
  · refine run 400 rfl ?_
    refine at_ret rfl rfl [] ⟨?_, rfl, rfl⟩ trivial
    rw [a5, if_pos (by omega), show lf = -1 by omega]
  have hlt : i.toNat < l.length := by omega
  have hget := rowsT_get hlt
  have hmem := getD_mem hlt
  have hdrop := drop_getD hlt
  generalize l.getD i.toNat .zero = u at hget hmem hdrop
  rw [hdrop, if_neg (by omega), wk_cons (by omega)] at a5
  have hcall := ih u hmem (d + 1) lf (by omega) a4 (by omega) (by omega)
  have hw := wk_may (t := u) (d := d + 1) (left := lf) (by omega)
  generalize wk (mayT u (d + 1) (64 - lf)) = nl at hcall hw a5
  refine run 400 rfl ?_
  refine at_val (.rp (tr u) 0) (does_index ty_ok _ rfl rfl rfl (by omega) (show (rowsT l)[i.toNat]? = some (tr u) from hget) rfl) ?_
  refine run 400 rfl ?_
  refine at_fn hcall rfl ?_
  refine run 400 rfl ?_
  exact at_again (i + 1, nl) ⟨by dsimp only; omega, by dsimp only; omega, by dsimp only; omega, by dsimp only; omega, by dsimp only; rw [a5, show (i + 1).toNat = i.toNat + 1 by omega]⟩ (by dsimp only; omega) ⟨SVle.refl _, SVle.refl _, SVle.refl _, SVle.refl _, trivial⟩ ⟨rfl, trivial⟩

theorem walk_fn : ∀ (t : Tm) (d left : Int), 0 ≤ left → left ≤ 64 → 0 ≤ d → d ≤ 17 → Gives Try.prog 69 [t.sv, I d, I left] (I (wk (mayT t d (64 - left)))) := by
  intro t
  induction t using Tm.ind with
  | h k n s l ih =>
    intro d left h0 h64 hd hd17
    have hr := right_eq (.mk k n s l)
    cases h1 : decide (left < 1) with
    | true => exact (walk_f0 (.mk k n s l) d left h1).le (SVle.of_eq (by simp at h1; rw [mayT, if_pos (by omega)]; rfl))
    | false => ?_
    have h1' : ¬ 64 < 64 - left + 1 := by simp at h1; omega
    cases h2 : decide (16 < d) with
    | true => exact (walk_f1 (.mk k n s l) d left h1 h2).le (SVle.of_eq (by simp at h2; rw [mayT, if_neg h1', if_pos (by omega)]; rfl))
    | false => ?_
    have h2' : ¬ 16 < d := by simpa using h2
    have no : rightF (.mk k n s l) = false → I (-1) = I (wk (mayT (.mk k n s l) d (64 - left))) := fun h => by rw [mayT, if_neg h1', if_neg h2', if_pos h]; rfl
    have yes : rightF (.mk k n s l) = true → I (wk (mayL l (d + 1) (64 - left + 1))) = I (wk (mayT (.mk k n s l) d (64 - left))) := fun h => by rw [mayT, if_neg h1', if_neg h2', if_neg (by simp [h])]
    cases h3 : (!(kidsF (Tm.mk k n s l).k == ((rowsT (Tm.mk k n s l).kids).length : Int))) with
    | true => exact (walk_f2 (.mk k n s l) d left h1 h2 h3).le (SVle.of_eq (no (by rw [hr]; simp only [Bool.not_eq_true'] at h3; simp [h3])))
    | false => ?_
    cases h4 : (!((Tm.mk k n s l).k == 1)) with
    | true =>
      cases h5 : (!(seq (Tm.mk k n s l).s .empty)) with
      | true =>
        exact (walk_f3 (.mk k n s l) d left h1 h2 h3 h4 h5).le (SVle.of_eq (no (by rw [hr]; simp only [Bool.not_eq_true', Bool.not_eq_false'] at h3 h4 h5; simp [*])))
      | false =>
        cases h6 : decide (1024 < ((Tm.mk k n s l).s.size : Int)) with
        | true =>
          exact (walk_f4 (.mk k n s l) d left h1 h2 h3 h4 h5 h6).le (SVle.of_eq (no (by rw [hr]; simp only [Bool.not_eq_true', Bool.not_eq_false'] at h3 h4 h5; simp [*])))
        | false =>
          cases h7 : (!((Tm.mk k n s l).k == 2)) with
          | true =>
            cases h8 : (!((Tm.mk k n s l).n == 0)) with
            | true =>
              exact (walk_f5 (.mk k n s l) d left h1 h2 h3 h4 h5 h6 h7 h8).le (SVle.of_eq (no (by rw [hr]; simp only [Bool.not_eq_true', Bool.not_eq_false'] at h3 h4 h5 h7 h8; simp [*])))
            | false =>
              cases h9 : decide ((Tm.mk k n s l).n < 0) with
              | true =>
                exact (walk_f6 (.mk k n s l) d left h1 h2 h3 h4 h5 h6 h7 h8 h9).le (SVle.of_eq (no (by rw [hr]; simp only [Bool.not_eq_true', Bool.not_eq_false'] at h3 h4 h5 h7 h8; simp [*])))
              | false =>
                cases h10 : decide (1073741824 < (Tm.mk k n s l).n) with
                | true =>
                  exact (walk_f7 (.mk k n s l) d left h1 h2 h3 h4 h5 h6 h7 h8 h9 h10).le (SVle.of_eq (no (by rw [hr]; simp only [Bool.not_eq_true', Bool.not_eq_false'] at h3 h4 h5 h7 h8; simp [*])))
                | false =>
                  exact (walk_g0 k n s l d left hd h64 ih h1 h2 h3 h4 h5 h6 h7 h8 h9 h10).le (SVle.of_eq (yes (by rw [hr]; simp only [Bool.not_eq_true', Bool.not_eq_false'] at h3 h4 h5 h7 h8; simp [*])))
          | false =>
            cases h9 : decide ((Tm.mk k n s l).n < 0) with
            | true =>
              exact (walk_f8 (.mk k n s l) d left h1 h2 h3 h4 h5 h6 h7 h9).le (SVle.of_eq (no (by rw [hr]; simp only [Bool.not_eq_true', Bool.not_eq_false'] at h3 h4 h5 h7; simp [*])))
            | false =>
              cases h10 : decide (1073741824 < (Tm.mk k n s l).n) with
              | true =>
                exact (walk_f9 (.mk k n s l) d left h1 h2 h3 h4 h5 h6 h7 h9 h10).le (SVle.of_eq (no (by rw [hr]; simp only [Bool.not_eq_true', Bool.not_eq_false'] at h3 h4 h5 h7; simp [*])))
              | false =>
                exact (walk_g1 k n s l d left hd h64 ih h1 h2 h3 h4 h5 h6 h7 h9 h10).le (SVle.of_eq (yes (by rw [hr]; simp only [Bool.not_eq_true', Bool.not_eq_false'] at h3 h4 h5 h7; simp [*])))
    | false =>
      cases h6 : decide (1024 < ((Tm.mk k n s l).s.size : Int)) with
      | true =>
        exact (walk_f10 (.mk k n s l) d left h1 h2 h3 h4 h6).le (SVle.of_eq (no (by rw [hr]; simp only [Bool.not_eq_false'] at h3 h4; simp [*])))
      | false =>
        cases h7 : (!((Tm.mk k n s l).k == 2)) with
        | true =>
          cases h8 : (!((Tm.mk k n s l).n == 0)) with
          | true =>
            exact (walk_f11 (.mk k n s l) d left h1 h2 h3 h4 h6 h7 h8).le (SVle.of_eq (no (by rw [hr]; simp only [Bool.not_eq_true', Bool.not_eq_false'] at h3 h4 h7 h8; simp [*])))
          | false =>
            cases h9 : decide ((Tm.mk k n s l).n < 0) with
            | true =>
              exact (walk_f12 (.mk k n s l) d left h1 h2 h3 h4 h6 h7 h8 h9).le (SVle.of_eq (no (by rw [hr]; simp only [Bool.not_eq_true', Bool.not_eq_false'] at h3 h4 h7 h8; simp [*])))
            | false =>
              cases h10 : decide (1073741824 < (Tm.mk k n s l).n) with
              | true =>
                exact (walk_f13 (.mk k n s l) d left h1 h2 h3 h4 h6 h7 h8 h9 h10).le (SVle.of_eq (no (by rw [hr]; simp only [Bool.not_eq_true', Bool.not_eq_false'] at h3 h4 h7 h8; simp [*])))
              | false =>
                exact (walk_g2 k n s l d left hd h64 ih h1 h2 h3 h4 h6 h7 h8 h9 h10).le (SVle.of_eq (yes (by rw [hr]; simp only [Bool.not_eq_true', Bool.not_eq_false'] at h3 h4 h7 h8; simp [*])))
        | false =>
          cases h9 : decide ((Tm.mk k n s l).n < 0) with
          | true =>
            exact (walk_f14 (.mk k n s l) d left h1 h2 h3 h4 h6 h7 h9).le (SVle.of_eq (no (by rw [hr]; simp only [Bool.not_eq_false'] at h3 h4 h7; simp [*])))
          | false =>
            cases h10 : decide (1073741824 < (Tm.mk k n s l).n) with
            | true =>
              exact (walk_f15 (.mk k n s l) d left h1 h2 h3 h4 h6 h7 h9 h10).le (SVle.of_eq (no (by rw [hr]; simp only [Bool.not_eq_false'] at h3 h4 h7; simp [*])))
            | false =>
              exfalso
              simp at h4 h7
              omega

theorem rmay_fn (t : Tm) : Gives Try.prog 40 [t.sv] (.bl (mayF t)) := by
  have hw := walk_fn t 1 64 (by omega) (by omega) (by omega) (by omega)
  have e : mayF t = decide (0 ≤ wk (mayT t 1 (64 - 64))) := by
    have := mayT_le t 1 0 (by omega) (by omega)
    unfold mayF wk
    rw [show (64 : Int) - 64 = 0 by omega]
    cases hm : (mayT t 1 0).1 with
    | false => rfl
    | true =>
      have := this.2.2 hm
      exact (decide_eq_true (by simp; omega)).symm
  rw [e]
  refine contract_of ty_ok [0, 1, 2, 3, 4, 5, 6, 7] Try.func40 rfl (by decide) Try.ntmps40 rfl fun z => ?_
  refine run 400 rfl ?_
  refine at_fn hw rfl ?_
  refine run 400 rfl ?_
  exact at_ret rfl rfl [] ⟨rfl, rfl, rfl⟩ trivial
end Go.Proofs.Ytmnmhehddbemkaa
/- The proof engine, part 14h: own cells that hold lists which may grow. -/
namespace Go.Eng

variable {E : Stc} {all rest : List Oper} {o : Oper} {s : List Fr} {env : List (Nat × SV)} {own own2 : List (Nat × SO)} {nx : List Nat}

/-- Own cells may be known less well. -/
def soLe : SO → SO → Prop
  | .cells t cs, .cells t' cs' => t = t' ∧ SVles cs cs'
  | .tok a, .tok b => a = b
  | .cells _ cs, .buf rw n => SVles cs (bufC rw n)
  | .buf rw n, .buf rw' n' => SVles (bufC rw n) (bufC rw' n')
  | .obj f, .obj f' => ∀ r H o, f r H o → f' r H o
  | _, _ => False
def ownLe : List (Nat × SO) → List (Nat × SO) → Prop
  | [], [] => True
  | (k, a) :: l, (j, b) :: r => k = j ∧ soLe a b ∧ ownLe l r
  | _, _ => False
theorem ownLe_q : ∀ {l r : List (Nat × SO)}, ownLe l r → ∀ k b, ownq r k = some b → ∃ a, ownq l k = some a ∧ soLe a b
  | [], [], _, _, _, h => by simp [ownq] at h
  | (j, a) :: l, (j', b') :: r, hl, k, b, h => by
    obtain ⟨rfl, h1, h2⟩ := hl
    simp only [ownq] at h ⊢
    cases hb : Nat.beq j k with
    | true =>
      rw [hb, cond_true] at h
      simp only [Option.some.injEq] at h
      subst h
      exact ⟨a, rfl, h1⟩
    | false =>
      rw [hb, cond_false] at h
      exact ownLe_q h2 k b h
theorem ownOk_le {mine : Nat → Prop} {g : Nat → Value} {H : Hp} {w : World} {k : Nat} {a b : SO} (h : OwnOk mine g H w k a) (hl : soLe a b) : OwnOk mine g H w k b := by
  cases a with
  | cells t cs =>
    cases b with
    | cells t' cs' =>
      obtain ⟨rfl, hc⟩ := hl
      obtain ⟨q, vs, h1, h2, h3⟩ := h
      exact ⟨q, vs, h1, hc.dens g H vs h2, h3⟩
    | buf rw n =>
      obtain ⟨q, vs, h1, h2, h3⟩ := h
      exact .inl ⟨t, q, vs, h1, SVles.dens hl g H vs h2, h3⟩
    | tok z => exact hl.elim
    | obj f => exact hl.elim
  | tok z =>
    cases b with
    | cells t' cs' => exact hl.elim
    | tok y =>
      have hl : z = y := hl
      subst hl
      exact h
    | obj f => exact hl.elim
    | buf c n => exact hl.elim
  | buf rw n =>
    cases b with
    | buf rw' n' =>
      rcases h with ⟨t, q, vs, h1, h2, h3⟩ | ⟨h1, e⟩
      · exact .inl ⟨t, q, vs, h1, SVles.dens hl g H vs h2, h3⟩
      · refine .inr ⟨h1, ?_⟩
        have hl : SVles (bufC rw n) (bufC rw' n') := hl
        rw [e] at hl
        cases hc : bufC rw' n' with
        | nil => rfl
        | cons _ _ => rw [hc] at hl; exact hl.elim
    | cells t' cs' => exact hl.elim
    | tok y => exact hl.elim
    | obj f => exact hl.elim
  | obj f =>
    cases b with
    | obj f' =>
      obtain ⟨r, o, e, h1, h2, h3⟩ := h
      exact ⟨r, o, e, h1, fun H' hh => hl r H' o (h2 H' hh), h3⟩
    | cells t' cs' => exact hl.elim
    | tok y => exact hl.elim
    | buf c n => exact hl.elim
theorem at_weakO {m : Md} (own' : List (Nat × SO)) (hl : ownLe own own') (kk : Sat E m s env own' nx) : Sat E m s env own nx := by
  refine sat_mono (fun a w hat => ?_) kk
  obtain ⟨hdf, g, H, hd⟩ := hat
  refine ⟨hdf, g, H, { hd with ok := fun k b hk => ?_, inj := fun i j hi hj => hd.inj i j ?_ ?_ }⟩
  · obtain ⟨a', h1, h2⟩ := ownLe_q hl k b hk
    exact ownOk_le (hd.ok k a' h1) h2
  · cases hq : ownq own' i with
    | none => rw [hq] at hi; cases hi
    | some b =>
      obtain ⟨a', h1, _⟩ := ownLe_q hl i b hq
      rw [h1]; rfl
  · cases hq : ownq own' j with
    | none => rw [hq] at hj; cases hj
    | some b =>
      obtain ⟨a', h1, _⟩ := ownLe_q hl j b hq
      rw [h1]; rfl

/-- A list in an own block of one cell gets a name. -/
theorem at_nameC {m : Md} (c k sz : Nat) {ty sz0 : Nat} {rows : List (List DV)} (hc : ownq own c = some (.cells ty [.tl sz0 rows])) (hs : sz0 = sz ∨ rows = []) (hso : setOwnK c (.cells ty [.gl k sz rows]) own some = some own2)
    (kk : Sat E m s env ((k, .tok sz) :: own2) nx) (hm : Nat.ble E.cx.m0 k = true := by rfl) (hE : freshE k env = true := by rfl) (hO : freshO k own = true := by rfl) (hne : Nat.beq k c = false := by rfl) : Sat E m s env own nx := by
  rw [setOwnK_eq] at hso
  simp only [Option.some.injEq] at hso
  subst hso
  have hkc : ¬ k = c := fun e => by rw [e, Nat.beq_refl] at hne; cases hne
  refine sat_mono (fun a w hat => ?_) kk
  obtain ⟨hdf, g, H, hdn⟩ := hat
  obtain ⟨b, vs, g1, g2, g3, g4, g5, g6⟩ := hdn.ok c _ hc
  obtain ⟨x, rfl⟩ : ∃ x, vs = [x] := by
    match vs, g2 with
    | [x], _ => exact ⟨x, rfl⟩
    | [], h => exact h.elim
    | _ :: _ :: _, h => exact h.2.elim
  obtain ⟨⟨ad, cp, e, h1, h2, h3⟩, ad', e'⟩ := g2.1
  have hx : DenD H (.lst sz rows) x := by
    refine ⟨ad, cp, e, h1, h2, fun p hp => ?_⟩
    rcases hs with rfl | rfl
    · exact h3 p hp
    · exact ⟨.inl rfl, trivial⟩
  have hcp : cp = rows.length := by
    rw [e] at e'
    simp only [Value.slice.injEq, true_and] at e'
    exact e'.2
  obtain ⟨hd3, hp⟩ := hdn.tok (k := k) (sz := sz) (rows := rows) (Nat.le_of_ble_eq_true hm) hE hO hx ⟨ad, rows.length, cp, e, fun h => ⟨by rw [(h2 h).1]; rfl, (h2 h).2⟩, h1, fun p hp hlt => absurd hlt (by omega)⟩
  have hiff : ∀ i, (ownq ((k, SO.tok sz) :: setOwn c (.cells ty [.gl k sz rows]) own) i).isSome = true → (ownq ((k, SO.tok sz) :: own) i).isSome = true := by
    intro i hi
    simp only [ownq] at hi ⊢
    cases hb : Nat.beq k i with
    | true => rfl
    | false =>
      rw [hb, cond_false] at hi
      rw [cond_false]
      rw [ownq_setOwn] at hi
      split at hi
      · rename_i e
        subst e
        rw [hc]; rfl
      · exact hi
  refine ⟨hdf, _, H, { hd3 with ok := fun j o' hj => ?_, inj := fun i j hi hj => hd3.inj i j (hiff i hi) (hiff j hj) }⟩
  simp only [ownq] at hj
  cases hb : Nat.beq k j with
  | true =>
    have hj' : ownq ((k, SO.tok sz) :: own) j = some o' := by simp only [ownq, hb, cond_true]; rw [hb, cond_true] at hj; exact hj
    exact hd3.ok j o' hj'
  | false =>
    rw [hb, cond_false, ownq_setOwn] at hj
    have hjk : j ≠ k := fun e => by rw [e, Nat.beq_refl] at hb; cases hb
    by_cases hjc : j = c
    · subst hjc
      rw [if_pos rfl, hc] at hj
      simp only [Option.map_some, Option.some.injEq] at hj
      subst hj
      exact ⟨b, [x], by rw [upd_ne _ _ _ j hjk]; exact g1, ⟨hp, trivial⟩, g3, g4, g5, g6⟩
    · rw [if_neg hjc] at hj
      exact hd3.ok j o' (by simp only [ownq, hb, cond_false]; exact hj)

theorem Dn.cons {cx : Cx} {g : Nat → Value} {H : Hp} {env : List (Nat × SV)} {own : List (Nat × SO)} {n : Nat} {tmps : Array Value} {w : World} {k : Nat} {so : SO}
    (h : Dn cx g H env own n tmps w) (hok : OwnOk cx.mine g H w k so) (hb : ∀ b, blkOf (g k) = some b → ∀ j o, ownq own j = some o → blkOf (g j) ≠ some b) : Dn cx g H env ((k, so) :: own) n tmps w := by
  refine { h with ok := fun j o hj => ?_, inj := fun i j hi hj b hbi hbj => ?_ }
  · simp only [ownq] at hj
    cases hb : Nat.beq k j with
    | true =>
      have := beq_true hb
      subst this
      simp only [hb, cond_true, Option.some.injEq] at hj
      subst hj
      exact hok
    | false =>
      simp only [hb, cond_false] at hj
      exact h.ok j o hj
  · have key : ∀ j, (ownq ((k, so) :: own) j).isSome = true → j = k ∨ (ownq own j).isSome = true := by
      intro j hj
      by_cases hjk : j = k
      · exact .inl hjk
      · have hbf : Nat.beq k j = false := by
          cases hb' : Nat.beq k j with
          | false => rfl
          | true => exact absurd (beq_true hb').symm hjk
        simp only [ownq, hbf, cond_false] at hj
        exact .inr hj
    rcases key i hi with rfl | oi <;> rcases key j hj with rfl | oj
    · rfl
    · cases ho : ownq own j with
      | none => rw [ho] at oj; cases oj
      | some o => exact absurd hbj (hb b hbi j o ho)
    · cases ho : ownq own i with
      | none => rw [ho] at oi; cases oi
      | some o => exact absurd hbi (hb b hbj i o ho)
    · exact h.inj i j oi oj b hbi hbj

def r3 (c k k' : Nat) : Nat → Nat := fun j => bif Nat.beq j 0 then c else bif Nat.beq j 1 then k else k'

/-- A call that may write an own block, in whose cells is a list with room of its own that may grow. -/
theorem at_growM (c k k' sz : Nat) {ty f : Nat} {cs cs' : List SV} {args : List SV} {sv : SV} (hC : Contract E.P f 2 [(0, .cells ty cs), (1, .tok sz)] args fun s post => s = sv ∧ post = [(0, .cells ty cs'), (2, .tok sz)])
    (hc : callK o.op env (fun f l => some (f, l)) none = some (f, rens (r2 c k) args)) (h0 : ownq own c = some (.cells ty (rens (r2 c k) cs))) (h1 : ownq own k = some (.tok sz)) (ho : lessK c own (fun o1 => lessK k o1 some) = some own2)
    (kk : Sat E (.ops all rest) s (put o.dst (ren (r3 c k k') sv) env) ((c, .cells ty (rens (r3 c k k') cs')) :: (k', .tok sz) :: own2) nx)
    (hne : Nat.beq c k = false := by rfl) (hck : Nat.beq c k' = false := by rfl) (hkk : Nat.beq k k' = false := by rfl) (hm : Nat.ble E.cx.m0 k' = true := by rfl) (hE : freshE k' env = true := by rfl) (hO : freshO k' own2 = true := by rfl)
    (l1 : sv.lt 3 = true := by rfl) (l2 : SV.lts 3 cs' = true := by rfl)
    (hg : guardK all o.guard env true false false = true := by rfl) (hd : dstLt o.dst E.n = true := by rfl) : Sat E (.ops all (o :: rest)) s env own nx := by
  intro a w hat
  have hwant := wanted_of (E := E) (own := own) hg a w hat
  simp only [lessK_eq, Option.some.injEq] at ho
  have nck := beq_false hne
  have nck' := beq_false hck
  have nkk' := beq_false hkk
  unfold wpList
  rw [if_pos hwant]
  refine .inl ?_
  obtain ⟨hdf, g, H, hdn⟩ := hat
  obtain ⟨vs, hv, hr⟩ := run_call (P := E.P) hdn hC.1 hc
  have hpre : pres (r2 c k) own [(0, .cells ty cs), (1, .tok sz)] := ⟨h0, h1, trivial⟩
  have hv' : Dens (fun j => g (r2 c k j)) H args vs := Dens.unren (g' := g) (r := r2 c k) (fun _ => rfl) args vs hv
  have key : ∀ i, (ownq [(0, SO.cells ty cs), (1, SO.tok sz)] i).isSome = true → i = 0 ∨ i = 1 := by
    intro i hi
    match i, hi with
    | 0, _ => exact .inl rfl
    | 1, _ => exact .inr rfl
    | i + 2, hi => exact absurd hi (by show ¬ (false = true); simp)
  have hok : ∀ j o, ownq [(0, SO.cells ty cs), (1, SO.tok sz)] j = some o → OwnOk (fun _ => True) (fun j => g (r2 c k j)) H w j o := by
    intro j o hj
    rcases key j (by rw [hj]; rfl) with rfl | rfl
    · have e : SO.cells ty cs = o := by simpa [ownq] using hj
      subst e
      obtain ⟨b, ws, e, q1, q2, q3, q4, _⟩ := hdn.ok c _ h0
      exact ⟨b, ws, e, Dens.unren (g' := g) (r := r2 c k) (fun _ => rfl) cs ws q1, q2, q3, q4, trivial⟩
    · have e : SO.tok sz = o := Option.some.inj hj
      subst e
      obtain ⟨ad, q, cp, e, q1, hle, q2⟩ := hdn.ok k _ h1
      refine ⟨ad, q, cp, e, q1, hle, fun p hpa hlt => ?_⟩
      obtain ⟨q3, _, q5⟩ := q2 p hpa hlt
      exact ⟨q3, trivial, q5⟩
  have hinj : InjOn (fun j => g (r2 c k j)) [(0, SO.cells ty cs), (1, SO.tok sz)] := by
    intro i j hi hj b hbi hbj
    have hi' : (ownq own (r2 c k i)).isSome = true := by
      rcases key i hi with rfl | rfl
      · show (ownq own c).isSome = true; rw [h0]; rfl
      · show (ownq own k).isSome = true; rw [h1]; rfl
    have hj' : (ownq own (r2 c k j)).isSome = true := by
      rcases key j hj with rfl | rfl
      · show (ownq own c).isSome = true; rw [h0]; rfl
      · show (ownq own k).isSome = true; rw [h1]; rfl
    have e := hdn.inj _ _ hi' hj' b hbi hbj
    rcases key i hi with rfl | rfl <;> rcases key j hj with rfl | rfl
    · rfl
    · exact absurd (show c = k from e) nck
    · exact absurd (show k = c from e).symm nck
    · rfl
  have hcall := hC.2 (fun j => g (r2 c k j)) H w vs hdn.hp hok hinj hv'
  unfold Oper.wp
  rw [hr]
  refine hcall.mono fun e w' he => ?_
  cases e with
  | panicked c => exact he.elim
  | outgrown => exact he.elim
  | returned x =>
    obtain ⟨g', H', sv', post, ⟨rfl, rfl⟩, hx, hok', hinj', hon, hb⟩ := he
    have hl2 : ∀ j o, ownq own2 j = some o → j ≠ c ∧ j ≠ k ∧ ownq own j = some o := by
      intro j o hj
      rw [← ho] at hj
      have e1 := rm1_less k (rm1 c own) j o hj
      have e2 := rm1_less c own j o e1.2
      exact ⟨e2.1, e1.1, e2.2⟩
    obtain ⟨hd2, hother⟩ := hdn.left (r := r2 c k) (own2 := own2) hpre hb hon (fun j o hj => ⟨(hl2 j o hj).2.2, fun i hi => by
      rcases key i hi with rfl | rfl
      · exact (hl2 j o hj).1
      · exact (hl2 j o hj).2.1⟩)
    obtain ⟨b, ws, e0, q1, q2, q3, q4, q5⟩ := hok' 0 (.cells ty cs') rfl
    obtain ⟨ad, q, cp, e2, p1, hle, p2⟩ := hok' 2 (.tok sz) rfl
    have hd3 := hd2.bind (k := k') (x := g' 2) (so := .tok sz) (Nat.le_of_ble_eq_true hm) hE hO ⟨ad, q, cp, by rw [upd_same, e2], p1, hle, fun p hpa hlt => by
      obtain ⟨q3, q4, q5⟩ := p2 p hpa hlt
      exact ⟨q3, (hother _ q4).1, q5⟩⟩ (fun b' hb' j o hj => by
      rw [e2] at hb'
      cases ad with
      | none => simp [blkOf] at hb'
      | some p =>
        simp only [blkOf] at hb'
        cases hlt : Nat.blt q cp with
        | false => rw [hlt] at hb'; cases hb'
        | true =>
          rw [hlt, cond_true, Option.some.injEq] at hb'
          subst hb'
          exact (hother _ (p2 p rfl (Nat.blt_eq.mp hlt)).2.1).2 j o hj)
    have f0 : g' 0 = g c := hb.fix 0 (show 0 < 2 by omega)
    have f1 : g' 1 = g k := hb.fix 1 (show 1 < 2 by omega)
    have hg3 : ∀ j, j < 3 → Eng.upd g k' (g' 2) (r3 c k k' j) = g' j := by
      intro j hj
      match j, hj with
      | 0, _ => show Eng.upd g k' (g' 2) c = _; rw [upd_ne _ _ _ c nck', f0]
      | 1, _ => show Eng.upd g k' (g' 2) k = _; rw [upd_ne _ _ _ k nkk', f1]
      | 2, _ => exact upd_same _ _ _
    have hd4 := hd3.cons (k := c) (so := .cells ty (rens (r3 c k k') cs')) ⟨b, ws, by rw [upd_ne _ _ _ c nck', ← f0, e0], Dens.ren hg3 cs' ws l2 q1, q2, q3, q4, (hother _ q5).1⟩ (fun b' hb' j o hj => by
      rw [upd_ne _ _ _ c nck', ← f0, e0] at hb'
      simp only [blkOf, Option.some.injEq] at hb'
      subst hb'
      simp only [ownq] at hj
      cases hjk : Nat.beq k' j with
      | true =>
        have := beq_true hjk
        subst this
        rw [upd_same]
        intro e3
        have := hinj' 0 2 rfl rfl b (by rw [e0]; rfl) e3
        cases this
      | false =>
        rw [hjk, cond_false] at hj
        rw [upd_ne _ _ _ j (fun e => by rw [e, Nat.beq_refl] at hjk; cases hjk)]
        exact (hother _ q5).2 j o hj)
    exact kk _ _ (At.put hdf hd4 (Den.ren hg3 sv' x l1 hx) fun d e => by rw [e] at hd; exact Nat.blt_eq.mp hd)

/-- A list with room of its own, in an own block, gets another name. -/
theorem at_renameC {m : Md} (c k k' sz i : Nat) {ty : Nat} {cs : List SV} {rows : List (List DV)} (hc : ownq own c = some (.cells ty cs)) (hi : cs[i]? = some (.gl k sz rows)) (hk : ownq own k = some (.tok sz)) (ho : lessK c own (fun o1 => lessK k o1 some) = some own2)
    (kk : Sat E m s (degE k' env) ((c, .cells ty (cs.set i (.gl k' sz rows))) :: (k', .tok sz) :: own2) nx) (hne : Nat.beq c k = false := by rfl) (hck : Nat.beq c k' = false := by rfl)
    (hm : Nat.ble E.cx.m0 k' = true := by rfl) (hE : freshE k' (degE k' env) = true := by rfl) (hO : freshO k' own2 = true := by rfl) (hcs : SV.noKs k' cs = true := by rfl) : Sat E m s env own nx := by
  simp only [lessK_eq, Option.some.injEq] at ho
  have nck := beq_false hne
  have nck' := beq_false hck
  refine sat_mono (fun a w hat => ?_) kk
  obtain ⟨hdf, g, H, hdn⟩ := hat
  have hl2 : ∀ j o, ownq own2 j = some o → j ≠ c ∧ j ≠ k ∧ ownq own j = some o := by
    intro j o hj
    rw [← ho] at hj
    have e1 := rm1_less k (rm1 c own) j o hj
    have e2 := rm1_less c own j o e1.2
    exact ⟨e2.1, e1.1, e2.2⟩
  obtain ⟨b, vs, e0, q1, q2, q3, q4, q5⟩ := hdn.ok c _ hc
  obtain ⟨x, hx, hd⟩ := Dens.get q1 hi
  obtain ⟨hx1, hx2⟩ := hd
  obtain ⟨ad, q, cp, e, p1, hle, p2⟩ := hdn.ok k _ hk
  have hd2 : Dn E.cx g H (degE k' env) own2 E.n a.tmps w := (hdn.le (degE_le k' env) (fun j o hj => (hl2 j o hj).2.2))
  have hdis : ∀ b', blkOf (g k) = some b' → ∀ j o, ownq own2 j = some o → blkOf (g j) ≠ some b' := fun b' hb' j o hj ej =>
    (hl2 j o hj).2.1 (hdn.inj j k (by rw [(hl2 j o hj).2.2]; rfl) (by rw [hk]; rfl) b' ej hb')
  obtain ⟨hd3, hp⟩ := hd2.tok (k := k') (sz := sz) (Nat.le_of_ble_eq_true hm) hE hO hx1 ⟨ad, q, cp, by rw [hx2, e], p1, hle, fun p hpa hlt => by
    obtain ⟨q3, q4, q5⟩ := p2 p hpa hlt
    exact ⟨q3, ⟨q4, hdis _ (by rw [e, hpa]; simp [blkOf, Nat.blt_eq.mpr hlt])⟩, q5⟩⟩
  have hset : ∀ (ds : List SV) (ws : List Value) (i : Nat), Dens (Eng.upd g k' x) H ds ws → ws[i]? = some x → Dens (Eng.upd g k' x) H (ds.set i (.gl k' sz rows)) ws := by
    intro ds
    induction ds with
    | nil =>
      intro ws i h1 h2
      cases ws with
      | nil => simp at h2
      | cons _ _ => exact h1.elim
    | cons d ds ih =>
      intro ws i h1 h2
      cases ws with
      | nil => exact h1.elim
      | cons v ws =>
        cases i with
        | zero =>
          simp only [List.getElem?_cons_zero, Option.some.injEq] at h2
          subst h2
          exact ⟨hp, h1.2⟩
        | succ i => exact ⟨h1.1, ih ws i h1.2 (by simpa using h2)⟩
  have q1' : Dens (Eng.upd g k' x) H cs vs := Dens.upd (k := k') (fun j hj => upd_ne _ _ _ j hj) cs vs hcs q1
  refine ⟨hdf, _, H, hd3.cons (k := c) ⟨b, vs, by rw [upd_ne _ _ _ c nck', e0], hset cs vs i q1' hx, q2, q3, q4, q5⟩ fun b' hb' j o hj => ?_⟩
  rw [upd_ne _ _ _ c nck', e0] at hb'
  simp only [blkOf, Option.some.injEq] at hb'
  subst hb'
  simp only [ownq] at hj
  cases hjk : Nat.beq k' j with
  | true =>
    have := beq_true hjk
    subst this
    rw [upd_same, hx2]
    intro e3
    exact nck (hdn.inj c k (by rw [hc]; rfl) (by rw [hk]; rfl) b (by rw [e0]; rfl) e3)
  | false =>
    rw [hjk, cond_false] at hj
    rw [upd_ne _ _ _ j (fun e => by rw [e, Nat.beq_refl] at hjk; cases hjk)]
    intro e3
    exact (hl2 j o hj).1 (hdn.inj j c (by rw [(hl2 j o hj).2.2]; rfl) (by rw [hc]; rfl) b e3 (by rw [e0]; rfl))
end Go.Eng
/- The proof engine: lists in own blocks of more than one cell; owned slices. -/
namespace Go.Eng
open Go.RowKit

theorem Dens.set {g : Nat → Value} {H : Hp} {x : Value} {s : SV} (hs : Den g H s x) : ∀ (ds : List SV) (ws : List Value) (i : Nat), Dens g H ds ws → ws[i]? = some x → Dens g H (ds.set i s) ws
  | [], [], _, h, _ => h
  | [], _ :: _, _, h, _ => h.elim
  | _ :: _, [], _, h, _ => h.elim
  | d :: ds, v :: ws, 0, h, hx => by
    simp only [List.getElem?_cons_zero, Option.some.injEq] at hx
    subst hx
    exact ⟨hs, h.2⟩
  | d :: ds, v :: ws, i + 1, h, hx => ⟨h.1, Dens.set hs ds ws i h.2 (by simpa using hx)⟩

section
variable {E : Stc} {s : List Fr} {env : List (Nat × SV)} {own own2 : List (Nat × SO)} {nx : List Nat}
/-- A list in an own block gets a name. -/
theorem at_nameI {m : Md} (c k sz i : Nat) {ty sz0 : Nat} {cs : List SV} {rows : List (List DV)} (hc : ownq own c = some (.cells ty cs)) (hi : cs[i]? = some (.tl sz0 rows)) (hs : sz0 = sz ∨ rows = []) (hso : setOwnK c (.cells ty (cs.set i (.gl k sz rows))) own some = some own2)
    (kk : Sat E m s env ((k, .tok sz) :: own2) nx) (hm : Nat.ble E.cx.m0 k = true := by rfl) (hE : freshE k env = true := by rfl) (hO : freshO k own = true := by rfl) (hne : Nat.beq k c = false := by rfl) (hcs : SV.noKs k cs = true := by rfl) : Sat E m s env own nx := by
  rw [setOwnK_eq] at hso
  simp only [Option.some.injEq] at hso
  subst hso
  have hkc : ¬ k = c := fun e => by rw [e, Nat.beq_refl] at hne; cases hne
  refine sat_mono (fun a w hat => ?_) kk
  obtain ⟨hdf, g, H, hdn⟩ := hat
  obtain ⟨b, vs, g1, g2, g3, g4, g5, g6⟩ := hdn.ok c _ hc
  obtain ⟨x, hxi, hxd⟩ := Dens.get g2 hi
  obtain ⟨⟨ad, cp, e, h1, h2, h3⟩, ad', e'⟩ := hxd
  have hx : DenD H (.lst sz rows) x := by
    refine ⟨ad, cp, e, h1, h2, fun p hp => ?_⟩
    rcases hs with rfl | rfl
    · exact h3 p hp
    · exact ⟨.inl rfl, trivial⟩
  have hcp : cp = rows.length := by
    rw [e] at e'
    simp only [Value.slice.injEq, true_and] at e'
    exact e'.2
  obtain ⟨hd3, hp⟩ := hdn.tok (k := k) (sz := sz) (rows := rows) (Nat.le_of_ble_eq_true hm) hE hO hx ⟨ad, rows.length, cp, e, fun h => ⟨by rw [(h2 h).1]; rfl, (h2 h).2⟩, h1, fun p hp hlt => absurd hlt (by omega)⟩
  have hiff : ∀ j, (ownq ((k, SO.tok sz) :: setOwn c (.cells ty (cs.set i (.gl k sz rows))) own) j).isSome = true → (ownq ((k, SO.tok sz) :: own) j).isSome = true := by
    intro j hi
    simp only [ownq] at hi ⊢
    cases hb : Nat.beq k j with
    | true => rfl
    | false =>
      rw [hb, cond_false] at hi
      rw [cond_false]
      rw [ownq_setOwn] at hi
      split at hi
      · rename_i e
        subst e
        rw [hc]; rfl
      · exact hi
  refine ⟨hdf, _, H, { hd3 with ok := fun j o' hj => ?_, inj := fun i j hi hj => hd3.inj i j (hiff i hi) (hiff j hj) }⟩
  simp only [ownq] at hj
  cases hb : Nat.beq k j with
  | true =>
    have hj' : ownq ((k, SO.tok sz) :: own) j = some o' := by simp only [ownq, hb, cond_true]; rw [hb, cond_true] at hj; exact hj
    exact hd3.ok j o' hj'
  | false =>
    rw [hb, cond_false, ownq_setOwn] at hj
    have hjk : j ≠ k := fun e => by rw [e, Nat.beq_refl] at hb; cases hb
    by_cases hjc : j = c
    · subst hjc
      rw [if_pos rfl, hc] at hj
      simp only [Option.map_some, Option.some.injEq] at hj
      subst hj
      exact ⟨b, vs, by rw [upd_ne _ _ _ j hjk]; exact g1, Dens.set hp _ _ i (Dens.upd (k := k) (fun j hj => upd_ne _ _ _ j hj) cs vs hcs g2) hxi, g3, g4, g5, g6⟩
    · rw [if_neg hjc] at hj
      exact hd3.ok j o' (by simp only [ownq, hb, cond_false]; exact hj)
end
end Go.Eng
/- The proof engine, part 17s: regions whose order is drawn, gone through in stages. -/
namespace Go.Eng

/-- The first m operations are done, the others are not. -/
def SatA (E : Stc) (ops : Array Oper) (m : Nat) (s : List Fr) (env : List (Nat × SV)) (own : List (Nat × SO)) : Prop :=
  ∀ (fuel : Nat) (listed : Array Bool) (a : Act) (w : World), listed.size = ops.size → (∀ i, i < m → listed.getD i false = true) → (∀ i, m ≤ i → listed.getD i false = false) → ops.size - m ≤ fuel → At E env own a w → wpAny E.P .any ops (KK E s) fuel listed a w

/-- Each operation from n on stands behind all ahead of n. -/
def barGo (n : Nat) : Nat → List Nat → List Oper → Bool
  | _, _, [] => true
  | i, ms, o :: os => bif (bif Nat.ble n i then Nat.beq (Nat.land (maskOf ms o.after.toList) (Nat.sub (Nat.pow 2 n) 1)) (Nat.sub (Nat.pow 2 n) 1) else true) then barGo n (i + 1) (ms ++ [maskOf ms o.after.toList]) os else false

theorem barGo_spec {all : List Oper} {n : Nat} : ∀ (os : List Oper) (i : Nat) (ms : List Nat), barGo n i ms os = true → ms.length = i → (∀ k, os[k]? = all[i + k]?) → (∀ (k x : Nat), ms[k]? = some x → ∀ j, x.testBit j = true → Reach (fun i => all[i]?) k j) →
    ∀ k o, os[k]? = some o → n ≤ i + k → ∀ j, j < n → Reach (fun i => all[i]?) (i + k) j
  | [], _, _, _, _, _, _, k, o, h => by simp at h
  | x :: xs, i, ms, hs, hl, hall, hm, k, o, h => by
    simp only [barGo] at hs
    cases hc : (bif Nat.ble n i then Nat.beq (Nat.land (maskOf ms x.after.toList) (Nat.sub (Nat.pow 2 n) 1)) (Nat.sub (Nat.pow 2 n) 1) else true) with
    | false => rw [hc] at hs; cases hs
    | true =>
      rw [hc, cond_true] at hs
      have hx : all[i]? = some x := by have := hall 0; simpa using this.symm
      have hmask := maskOf_spec (get := fun i => all[i]?) hm hx x.after.toList (fun _ h => h)
      cases k with
      | zero =>
        intro hn j hj
        rw [Nat.add_zero] at hn ⊢
        rw [Nat.ble_eq_true_of_le hn, cond_true] at hc
        have e : (maskOf ms x.after.toList) &&& (2 ^ n - 1) = 2 ^ n - 1 := beq_true hc
        refine hmask j ?_
        have h2 : (2 ^ n - 1).testBit j = true := by rw [Nat.testBit_two_pow_sub_one]; simpa using hj
        rw [← e, Nat.testBit_and, Bool.and_eq_true] at h2
        exact h2.1
      | succ k =>
        intro hn j hj
        have := barGo_spec xs (i + 1) (ms ++ [maskOf ms x.after.toList]) hs (by simp [hl]) (fun k => by have := hall (k + 1); rw [show i + 1 + k = i + (k + 1) from by omega]; simpa using this) (fun q y hq => by
          by_cases hlt : q < ms.length
          · rw [List.getElem?_append_left hlt] at hq
            exact hm q y hq
          · rw [List.getElem?_append_right (by omega)] at hq
            have : q - ms.length = 0 := by
              cases hz : q - ms.length with
              | zero => rfl
              | succ z => rw [hz] at hq; simp at hq
            rw [this] at hq
            simp only [List.getElem?_cons_zero, Option.some.injEq] at hq
            subst hq
            obtain rfl : q = i := by omega
            exact hmask) k o (by simpa using h) (by omega) j (by omega)
        rw [show i + (k + 1) = i + 1 + k from by omega]
        exact this
def barOk (n : Nat) (all : List Oper) : Bool := barGo n 0 [] all
theorem barOk_spec {n : Nat} {all : List Oper} (h : barOk n all = true) {i : Nat} {o : Oper} (ho : all[i]? = some o) (hn : n ≤ i) {j : Nat} (hj : j < n) : Reach (fun i => all[i]?) i j := by
  have := barGo_spec (all := all) all 0 [] h rfl (fun k => by simp) (fun k x hx => by simp at hx) i o ho (by omega) j (by omega)
  simpa using this

/-- A stage of a region, in whatever order. -/
theorem wpAny_stage (E : Stc) (ops : Array Oper) (pre suf : List Oper) (plan : List PE) (env0 : List (Nat × SV)) (own0 : List (Nat × SO)) (s : List Fr) (m0 : Nat)
    (hops : ops.toList = pre ++ suf) (hlen : plan.length = pre.length) (hdst : dstsOk pre = true) (htil : tilsLt pre.length plan) (hsuf : barOk pre.length (pre ++ suf) = true) (hah : aheadOk 0 (pre ++ suf) = true)
    (cert : ∀ i o p, m0 ≤ i → pre[i]? = some o → plan[i]? = some p → Cert E ops pre plan env0 own0 s i o p)
    (hK : SatA E ops pre.length s (envOf (fun _ => true) 0 pre plan env0) (ownOf (fun _ => true) 0 plan own0)) :
    ∀ (fuel : Nat) (listed : Array Bool) (a : Act) (w : World), listed.size = ops.size →
      (∃ i, i < pre.length ∧ listed.getD i false = false) → (∀ i, i < m0 → listed.getD i false = true) → (∀ i, pre.length ≤ i → listed.getD i false = false) →
          (∀ j oj k, pre[j]? = some oj → listed.getD j false = true → behind oj k = true → listed.getD k false = true) →
          (listed.toList.filter (!·)).length ≤ fuel → At E (envOf (fun i => listed.getD i false) 0 pre plan env0) (ownOf (fun i => listed.getD i false) 0 plan own0) a w →
      wpAny E.P .any ops (KK E s) fuel listed a w := by
  have hget : ∀ i : Nat, ops[i]? = (pre ++ suf)[i]? := fun i => by rw [← hops]; simp
  have hsize : ops.size = pre.length + suf.length := by rw [← Array.length_toList, hops, List.length_append]
  have hd : ∀ (listed : Array Bool) (i : Nat), listed.size = ops.size → i < ops.size → listed.getD i true = listed.getD i false := by
    intro listed i h1 h2
    simp [h1, h2]
  intro fuel
  induction fuel with
  | zero =>
    intro listed a w hls ⟨i, hi, hli⟩ _ _ _ hf _
    · exfalso
      have hil : i < listed.size := by omega
      have : false ∈ listed.toList := by
        have e : listed.getD i false = listed[i] := by simp [hil]
        rw [e] at hli
        rw [← hli]
        exact Array.mem_toList_iff.2 (Array.getElem_mem hil)
      have hm : false ∈ listed.toList.filter (!·) := List.mem_filter.2 ⟨this, rfl⟩
      have := List.length_pos_of_mem hm
      omega
  | succ fuel ih =>
    intro listed a w hls ⟨i, hi, hli⟩ hm0 hsf hcl hf hat
    · -- the first phase
      -- the least that is left may come
      have hleast : ∃ m, m < pre.length ∧ listed.getD m false = false ∧ ∀ j, j < m → listed.getD j false = true := by
        have : ∀ n, n ≤ pre.length → (∀ j, j < n → listed.getD j false = true) ∨ ∃ m, m < n ∧ listed.getD m false = false ∧ ∀ j, j < m → listed.getD j false = true := by
          intro n
          induction n with
          | zero => intro _; exact .inl fun j hj => absurd hj (Nat.not_lt_zero j)
          | succ n ihn =>
            intro hn
            rcases ihn (by omega) with h | ⟨m, hm, h1, h2⟩
            · cases hc : listed.getD n false with
              | true =>
                refine .inl fun j hj => ?_
                rcases Nat.lt_or_ge j n with h' | h'
                · exact h j h'
                · have : j = n := by omega
                  subst this
                  exact hc
              | false => exact .inr ⟨n, by omega, hc, h⟩
            · exact .inr ⟨m, by omega, h1, h2⟩
        rcases this pre.length (Nat.le_refl _) with h | ⟨m, hm, h1, h2⟩
        · rw [h i hi] at hli; cases hli
        · exact ⟨m, hm, h1, h2⟩
      obtain ⟨m, hm, hlm, hbm⟩ := hleast
      have hom : ops[m]? = some pre[m] := by
        rw [hget, List.getElem?_append_left hm]
        exact List.getElem?_eq_getElem hm
      have hmr : m ∈ Region.ready .any ops listed := by
        refine ready_iff.2 ⟨by rw [hd listed m hls (by omega)]; exact hlm, pre[m], hom, fun j hj => hbm j ?_⟩
        have := aheadOk_spec (pre ++ suf) 0 m pre[m] hah (by rw [← hget]; exact hom) j hj
        omega
      refine ⟨fun h0 => (by rw [h0] at hmr; cases hmr), fun j hj => ?_⟩
      obtain ⟨hj1, o, ho, hb⟩ := ready_iff.1 hj
      have hjl : j < ops.size := (Array.getElem?_eq_some_iff.1 ho).1
      rw [hd listed j hls hjl] at hj1
      have hjp : j < pre.length := by
        rcases Nat.lt_or_ge j pre.length with h | h
        · exact h
        · exfalso
          have hoj0 : (pre ++ suf)[j]? = some o := by rw [← hget]; exact ho
          have := reach_listed (get := fun i => (pre ++ suf)[i]?) (L := fun i => listed.getD i false) (fun i o k' hi hL hb' => by
            rcases Nat.lt_or_ge i pre.length with h' | h'
            · rw [List.getElem?_append_left h'] at hi
              exact hcl i o k' hi hL hb'
            · simp only [hsf i h'] at hL
              cases hL) (barOk_spec hsuf hoj0 h hm) (fun o' ho' k' hk' => by
            rw [hoj0] at ho'
            cases ho'
            exact hb k' hk')
          simp only [hlm] at this
          cases this
      have hoj : pre[j]? = some o := by
        rw [hget, List.getElem?_append_left hjp] at ho
        exact ho
      have hpj : plan[j]? = some plan[j] := List.getElem?_eq_getElem (by omega)
      have hjm : m0 ≤ j := by
        rcases Nat.lt_or_ge j m0 with h | h
        · rw [hm0 j h] at hj1; cases hj1
        · exact h
      have hc := cert j o plan[j] hjm hoj hpj (fun i => listed.getD i false) hj1 hb hcl a w hat
      refine wpOp_mono (fun a' w' hat' => ?_) hc
      have hsel : ∀ i, i < pre.length → (listed.setIfInBounds j true).getD i false = add (fun i => listed.getD i false) j i := by
        intro i hip
        by_cases e : i = j
        · subst e
          have : i < listed.size := by omega
          simp [this, add]
        · rw [getD_set_ne false (Ne.symm e)]
          have : Nat.beq i j = false := by
            cases hb : Nat.beq i j with
            | false => rfl
            | true => exact absurd (beq_true hb) e
          simp [add, this]
      have hat2 : At E (envOf (fun i => (listed.setIfInBounds j true).getD i false) 0 pre plan env0) (ownOf (fun i => (listed.setIfInBounds j true).getD i false) 0 plan own0) a' w' := by
        rw [envOf_congr (sel' := add (fun i => listed.getD i false) j) pre plan 0 env0 (fun i _ hi => hsel i (by omega)), ownOf_congr (sel' := add (fun i => listed.getD i false) j) hsel plan 0 own0 htil (by omega)]
        refine at_le hat' ?_ fun _ _ h => h
        have := envOf_add (sel := fun i => listed.getD i false) pre plan 0 j env0 o plan[j] hdst hoj hpj
        rw [Nat.zero_add] at this
        exact this
      have hcount : ((listed.setIfInBounds j true).toList.filter (!·)).length ≤ fuel := by
        have hjls : j < listed.toList.length := by simpa using (by omega : j < listed.size)
        have e1 : (listed.setIfInBounds j true).toList = listed.toList.set j true := by simp
        have e2 : listed.toList = listed.toList.take j ++ listed.toList[j] :: listed.toList.drop (j + 1) := by
          rw [← List.drop_eq_getElem_cons hjls, List.take_append_drop]
        have e3 : listed.toList.set j true = listed.toList.take j ++ true :: listed.toList.drop (j + 1) := List.set_eq_take_append_cons_drop.trans (if_pos hjls)
        have e4 : listed.toList[j] = false := by
          have : listed.getD j false = listed[j]'(by omega) := by simp [show j < listed.size by omega]
          rw [this] at hj1
          simpa using hj1
        rw [e1, e3]
        rw [e2, e4] at hf
        simp only [List.filter_append, List.filter_cons, List.length_append] at hf ⊢
        simp at hf ⊢
        omega
      by_cases hall : ∃ i, i < pre.length ∧ (listed.setIfInBounds j true).getD i false = false
      · refine ih _ a' w' (by simpa using hls) hall (fun i hi => getD_set_true (hm0 i hi)) (fun i hi => by rw [getD_set_ne false (by omega)]; exact hsf i hi) (fun i oi k hoi hli hk => ?_) hcount hat2
        by_cases e : i = j
        · subst e
          rw [hoj] at hoi
          cases hoi
          exact getD_set_true (hb k hk)
        · rw [getD_set_ne false (Ne.symm e)] at hli
          exact getD_set_true (hcl i oi k hoi hli hk)
      · have hle : ops.size - pre.length ≤ fuel := by
          have hle : suf.length ≤ ((listed.setIfInBounds j true).toList.filter (!·)).length := by
            have e5 : (listed.setIfInBounds j true).toList.drop pre.length = List.replicate suf.length false := by
              apply List.ext_getElem?
              intro i
              rw [List.getElem?_drop, List.getElem?_replicate]
              by_cases hi : i < suf.length
              · rw [if_pos hi]
                have hlt : pre.length + i < (listed.setIfInBounds j true).size := by simp; omega
                have : (listed.setIfInBounds j true).getD (pre.length + i) false = false := by
                  rw [getD_set_ne false (by omega)]; exact hsf _ (by omega)
                rw [Array.getElem?_toList, Array.getElem?_eq_getElem hlt]
                have e6 : (listed.setIfInBounds j true).getD (pre.length + i) false = (listed.setIfInBounds j true)[pre.length + i] := by
                  rw [Array.getD_eq_getD_getElem?, Array.getElem?_eq_getElem hlt]; rfl
                rw [← e6, this]
              · rw [if_neg hi]
                apply List.getElem?_eq_none
                simp
                omega
            have e7 : ((listed.setIfInBounds j true).toList.filter (!·)).length = (((listed.setIfInBounds j true).toList.take pre.length).filter (!·)).length + (((listed.setIfInBounds j true).toList.drop pre.length).filter (!·)).length := by
              rw [← List.length_append, ← List.filter_append, List.take_append_drop]
            rw [e7, e5]
            simp
          omega
        have htrue : ∀ i, i < pre.length → (listed.setIfInBounds j true).getD i false = true := fun i hi => by
          cases hc : (listed.setIfInBounds j true).getD i false with
          | true => rfl
          | false => exact absurd ⟨i, hi, hc⟩ hall
        refine hK fuel _ a' w' (by simpa using hls) htrue (fun i hi => by rw [getD_set_ne false (by omega)]; exact hsf i hi) hle ?_
        rw [envOf_congr (sel' := fun i => (listed.setIfInBounds j true).getD i false) pre plan 0 env0 (fun i _ hi => (htrue i (by omega)).symm), ownOf_congr (sel' := fun i => (listed.setIfInBounds j true).getD i false) (N := pre.length) (fun i hi => (htrue i hi).symm) plan 0 own0 htil (by omega)]
        exact hat2

/-- What is done already, as a part of a plan. -/
def dums (env0 : List (Nat × SV)) : List Oper → List PE
  | [] => []
  | o :: os => ⟨match o.dst with | some d => nth env0 d | none => .any, [], none, none, false⟩ :: dums env0 os
theorem dums_len (env0 : List (Nat × SV)) : ∀ l, (dums env0 l).length = l.length
  | [] => rfl
  | _ :: l => by simp [dums, dums_len env0 l]

def dumsK {α : Type} (env0 : List (Nat × SV)) : List Oper → (List PE → α) → α
  | [], k => k []
  | o :: os, k => dumsK env0 os fun r => match o.dst with
    | some d => nthK d (fun s => k (⟨s, [], none, none, false⟩ :: r)) env0
    | none => k (⟨.any, [], none, none, false⟩ :: r)
theorem dumsK_eq {α : Type} (env0 : List (Nat × SV)) : ∀ (l : List Oper) (k : List PE → α), dumsK env0 l k = k (dums env0 l)
  | [], _ => rfl
  | o :: os, k => by
    simp only [dumsK, dums, dumsK_eq env0 os]
    cases o.dst with
    | some d => simp only [nthK_eq]
    | none => rfl

/-- A stage: from m0 done to m1 done. -/
def planS (P : Program) (T : Nat → TI) (mm n : Nat) (all : List Oper) (m0 : Nat) (pre0 pre1 pre : List Oper) (ans : List (Nat × Ans)) (env0 : List (Nat × SV)) (own0 : List (Nat × SO)) (nx st : List Nat) : PlanR :=
  bif dstsOk pre then
    bif barOk pre.length all then
      bif aheadOk 0 all then
        rmOK st own0 fun ownR => dumsK env0 pre0 fun ds => planK P T mm n all pre ans env0 ownR own0 m0 pre1 ds nx [] fun ps ob =>
          bif newOk own0 ps && (disO ownR ps && (eatOk own0 ps && eatU ps)) then
            bif freshP mm pre ps env0 own0 0 ps then
              bif tilsB pre ps 0 ps then
                envOfK (fun _ => true) 0 pre ps env0 fun env => ownOfK ps own0 fun own => .ok ps env own ob
              else .stuck 105
            else .stuck 104
          else .stuck 103
      else .stuck 102
    else .stuck 101
  else .stuck 100

theorem satA_mono {E : Stc} {ops : Array Oper} {m : Nat} {s : List Fr} {env env' : List (Nat × SV)} {own own' : List (Nat × SO)} (h : ∀ a w, At E env own a w → At E env' own' a w) (k : SatA E ops m s env' own') : SatA E ops m s env own :=
  fun fuel listed a w h1 h2 h3 h4 hat => k fuel listed a w h1 h2 h3 h4 (h a w hat)

/-- At the front of a region. -/
theorem at_stages {E : Stc} {id : Nat} {ops : Array Oper} {s : List Fr} {env : List (Nat × SV)} {own : List (Nat × SO)} {nx : List Nat} (h : SatA E ops 0 s env own) (hm : E.P.follows .mixedOrders = true := by rfl) : Sat E (.code (.region id ops true)) s env own nx := by
  intro a w hat
  refine wp_region_any hm ?_
  refine h ops.size _ a w.drew (by simp) (fun i hi => absurd hi (Nat.not_lt_zero i)) (fun i _ => ?_) (by omega) ?_
  · rw [Array.getD_eq_getD_getElem?, Array.getElem?_replicate]
    split <;> rfl
  · obtain ⟨hdf, g, H, hd⟩ := hat
    exact ⟨hdf, g, H, hd.drew⟩

/-- At the end of a region. -/
theorem at_stage_end {E : Stc} {ops : Array Oper} {m : Nat} {s : List Fr} {env : List (Nat × SV)} {own : List (Nat × SO)} (nx : List Nat) (hm : m = ops.size) (h : Sat E .norm s env own nx) : SatA E ops m s env own := by
  subst hm
  intro fuel listed a w hls h1 _ _ hat
  have hr : Region.ready .any ops listed = [] := by
    apply List.eq_nil_iff_forall_not_mem.2
    intro j hj
    obtain ⟨hj1, o, ho, _⟩ := ready_iff.1 hj
    have hlt : j < ops.size := (Array.getElem?_eq_some_iff.1 ho).1
    have := h1 j hlt
    have e : listed.getD j true = listed.getD j false := by simp [hls, hlt]
    rw [e, this] at hj1
    cases hj1
  cases fuel with
  | zero => exact ⟨hr, h a w hat⟩
  | succ fuel => exact ⟨fun _ => h a w hat, by rw [hr]; simp⟩

theorem envOf_dums {E : List (Nat × SV)} : ∀ (l : List Oper) (ps : List PE) (i0 _m : Nat) (sel : Nat → Bool) (env : List (Nat × SV)), (∀ i p, ps[i]? = some p → sel (i0 + i) = true → ∀ o d, l[i]? = some o → o.dst = some d → SVle (nth E d) p.sv) → leE E env → leE E (envOf sel i0 l ps env)
  | [], _, _, _, _, env, _, h => by simpa [envOf] using h
  | o :: os, [], i0, m, sel, env, hp, h => by
    intro t
    simp only [envOf, nth_put]
    split
    · exact SVle.any _
    · exact envOf_dums os [] (i0 + 1) m sel env (fun i p hq => by simp at hq) h t
  | o :: os, p :: ps, i0, m, sel, env, hp, h => by
    intro t
    simp only [envOf, nth_put]
    split
    · rename_i hd
      cases hs : sel i0 with
      | false => exact SVle.any _
      | true => exact hp 0 p rfl (by simpa using hs) o t rfl hd
    · exact envOf_dums os ps (i0 + 1) m sel env (fun i q hq hsel o' d ho' hd' => hp (i + 1) q (by simpa using hq) (by rw [show i0 + (i + 1) = i0 + 1 + i from by omega]; exact hsel) o' d (by simpa using ho') hd') h t

theorem ownOf_none {sel : Nat → Bool} : ∀ (ps : List PE) (i0 : Nat) (own : List (Nat × SO)), (∀ i p, ps[i]? = some p → sel (i0 + i) = true → p.new = [] ∧ p.eats = none) → ownOf sel i0 ps own = own
  | [], _, _, _ => rfl
  | p :: ps, i0, own, h => by
    simp only [ownOf]
    have h1 := h 0 p rfl
    have ih := fun own => ownOf_none (sel := sel) ps (i0 + 1) own (fun i q hq hs => h (i + 1) q (by simpa using hq) (by rw [show i0 + (i + 1) = i0 + 1 + i from by omega]; exact hs))
    cases hs : sel i0 with
    | false => simp [ih]
    | true =>
      obtain ⟨h2, h3⟩ := h1 (by simpa using hs)
      rw [h2, h3]
      cases tilOk sel p.til <;> simp [eatO, ih]

theorem dums_get (env0 : List (Nat × SV)) : ∀ (l : List Oper) (i : Nat) (o : Oper), l[i]? = some o → (dums env0 l)[i]? = some ⟨match o.dst with | some d => nth env0 d | none => .any, [], none, none, false⟩
  | [], _, _, h => by simp at h
  | x :: xs, 0, o, h => by
    simp only [List.getElem?_cons_zero, Option.some.injEq] at h
    subst h
    rfl
  | x :: xs, i + 1, o, h => by
    simp only [dums, List.getElem?_cons_succ]
    exact dums_get env0 xs i o (by simpa using h)

theorem at_stageG {E : Stc} {ops : Array Oper} {s : List Fr} {env : List (Nat × SV)} {own : List (Nat × SO)} {all pre0 pre1 suf : List Oper} {ps : List PE} {env' : List (Nat × SV)} {own' : List (Nat × SO)} {ob : List Prop} {m0 m1 : Nat}
    (st : List Nat) (hall : ops.toList = all) (hsplit : all = (pre0 ++ pre1) ++ suf) (h0 : pre0.length = m0) (h01 : (pre0 ++ pre1).length = m1) (ans : List (Nat × Ans)) (nx0 : List Nat) (h : planS E.P E.T E.cx.m0 E.n all m0 pre0 pre1 (pre0 ++ pre1) ans env own nx0 st = .ok ps env' own' ob) (ho : All ob)
    (hS : SatA E ops m1 s env' own') : SatA E ops m0 s env own := by
  subst hall
  generalize hpre : pre0 ++ pre1 = pre at h hsplit h01
  unfold planS at h
  cases h1 : dstsOk pre with
  | false => simp [h1] at h
  | true =>
    cases h2 : barOk pre.length ops.toList with
    | false => simp [h1, h2] at h
    | true =>
      cases h3 : aheadOk 0 ops.toList with
      | false => simp [h1, h2, h3] at h
      | true =>
        simp only [h1, h2, h3, cond_true, envOfK_eq, ownOfK_eq 0, rmOK_eq, dumsK_eq] at h
        have key := planK_sound E ops.toList pre ans env (rmO st own) own _ ps env' own' ob ((newOk own ps && (disO (rmO st own) ps && (eatOk own ps && eatU ps))) = true ∧ freshP E.cx.m0 pre ps env own 0 ps = true ∧ tilsB pre ps 0 ps = true ∧ env' = envOf (fun _ => true) 0 pre ps env ∧ own' = ownOf (fun _ => true) 0 ps own) (fun qs ob1 hq ha => by
          cases h4 : (newOk own qs && (disO (rmO st own) qs && (eatOk own qs && eatU qs))) with
          | false => simp [h4] at hq
          | true =>
            cases h5 : freshP E.cx.m0 pre qs env own 0 qs with
            | false => simp [h4, h5] at hq
            | true =>
              cases h6 : tilsB pre qs 0 qs with
              | false => simp [h4, h5, h6] at hq
              | true =>
                simp only [h4, h5, h6, cond_true, PlanR.ok.injEq] at hq
                obtain ⟨e1, e2, e3, e4⟩ := hq
                subst e1; subst e4
                exact ⟨rfl, ha, h4, h5, h6, e2.symm, e3.symm⟩) pre1 m0 (dums env pre0) nx0 [] (by rw [dums_len, h0]) h ho
        obtain ⟨_, ⟨q, hq⟩, hlen0, hlocs, hn, hf, htl, e1, e2⟩ := key
        have hlp : pre.length = m0 + pre1.length := by rw [← hpre, List.length_append, h0]
        have hlen : ps.length = pre.length := by rw [hlen0, hlp]
        rw [Bool.and_eq_true, Bool.and_eq_true, Bool.and_eq_true] at hn
        obtain ⟨hn, hdis, heat, hu⟩ := hn
        subst e1; subst e2
        have hget : ∀ i, m0 ≤ i → pre[i]? = pre1[i - m0]? := fun i hi => by rw [← hpre, List.getElem?_append_right (by omega), h0]
        have cert : ∀ i o p, m0 ≤ i → pre[i]? = some o → ps[i]? = some p → Cert E ops pre ps env own s i o p := by
          intro i o p hi hio hip
          obtain ⟨hd, p', hp', hl⟩ := locs_get pre1 m0 (i - m0) o hlocs (by rw [← hget i hi]; exact hio)
          rw [show m0 + (i - m0) = i from by omega] at hp' hl
          rw [hip] at hp'
          cases hp'
          exact cert_of_loc hsplit hlen (fun k o h => rmO_own h) hdis hn heat hu (by rw [← hsplit]; exact h3) hf (fun i p j hp hj => by have := (tilsB_spec ps 0 i p j htl hp hj).2; rwa [Nat.zero_add] at this) hio hip hd hl
        have htl' : tilsLt pre.length ps := fun p hp j hj => by
          obtain ⟨i, hi⟩ := List.getElem?_of_mem hp
          exact (tilsB_spec ps 0 i p j htl hi hj).1
        have hsz : ops.size = pre.length + suf.length := by rw [← Array.length_toList, hsplit, List.length_append]
        intro fuel listed a w hls hl1 hl2 hfu hat
        have hat' : At E (envOf (fun i => listed.getD i false) 0 pre ps env) (ownOf (fun i => listed.getD i false) 0 ps own) a w := by
          have hdum : ∀ i p, ps[i]? = some p → listed.getD i false = true → i < m0 ∧ ∃ o, pre0[i]? = some o ∧ p = ⟨match o.dst with | some d => nth env d | none => .any, [], none, none, false⟩ := by
            intro i p hp hs
            have hi : i < m0 := by
              rcases Nat.lt_or_ge i m0 with h | h
              · exact h
              · rw [hl2 i h] at hs; cases hs
            refine ⟨hi, pre0[i]'(by omega), List.getElem?_eq_getElem _, ?_⟩
            rw [hq, List.getElem?_append_left (by rw [dums_len]; omega), dums_get env pre0 i _ (List.getElem?_eq_getElem (by omega))] at hp
            exact (Option.some.inj hp).symm
          refine at_le hat ?_ ?_
          · refine envOf_dums pre ps 0 m0 _ env (fun i p hp hs o d hio hd => ?_) (fun _ => SVle.refl _)
            rw [Nat.zero_add] at hs
            obtain ⟨hi, o', ho', rfl⟩ := hdum i p hp hs
            have : pre[i]? = some o' := by rw [← hpre, List.getElem?_append_left (by omega)]; exact ho'
            rw [this] at hio
            cases hio
            rw [hd]
            exact SVle.refl _
          · rw [ownOf_none ps 0 own (fun i p hp hs => by
              rw [Nat.zero_add] at hs
              obtain ⟨_, o', _, rfl⟩ := hdum i p hp hs
              exact ⟨rfl, rfl⟩)]
            exact fun _ _ h => h
        have hS' : SatA E ops pre.length s (envOf (fun _ => true) 0 pre ps env) (ownOf (fun _ => true) 0 ps own) := by rw [h01]; exact hS
        by_cases hp1 : pre1.length = 0
        · -- nothing is to be done
          have e : pre.length = m0 := by omega
          refine hS' fuel listed a w hls (fun i hi => hl1 i (by omega)) (fun i hi => hl2 i (by omega)) (by omega) ?_
          rw [envOf_congr (sel' := fun i => listed.getD i false) pre ps 0 env (fun i _ hi => (hl1 i (by omega)).symm), ownOf_congr (sel' := fun i => listed.getD i false) (N := pre.length) (fun i hi => (hl1 i (by omega)).symm) ps 0 own htl' (by omega)]
          exact hat'
        · refine wpAny_stage E ops pre suf ps env own s m0 hsplit hlen h1 htl' (by rw [← hsplit]; exact h2) (by rw [← hsplit]; exact h3) cert hS' fuel listed a w hls ⟨m0, by omega, hl2 m0 (Nat.le_refl _)⟩ hl1 (fun i hi => hl2 i (by omega)) (fun j oj k hoj hj hb => ?_) ?_ hat'
          · have hjm : j < m0 := by
              rcases Nat.lt_or_ge j m0 with h | h
              · exact h
              · rw [hl2 j h] at hj; cases hj
            have hjl : j < pre.length := by omega
            have := aheadOk_spec ops.toList 0 j oj h3 (by rw [hsplit, List.getElem?_append_left hjl]; exact hoj) k hb
            exact hl1 k (by omega)
          · have e5 : listed.toList = List.replicate m0 true ++ List.replicate (ops.size - m0) false := by
              apply List.ext_getElem?
              intro i
              rw [Array.getElem?_toList, List.getElem?_append, List.length_replicate, List.getElem?_replicate, List.getElem?_replicate]
              by_cases hi : i < ops.size
              · have e6 : listed.getD i false = listed[i]'(by omega) := by rw [Array.getD_eq_getD_getElem?, Array.getElem?_eq_getElem (by omega)]; rfl
                rw [Array.getElem?_eq_getElem (by omega), ← e6]
                by_cases hm : i < m0
                · rw [if_pos hm, if_pos hm, hl1 i hm]
                · rw [if_neg hm, if_pos (by omega), hl2 i (by omega)]
              · rw [Array.getElem?_eq_none (by omega)]
                by_cases hm : i < m0
                · omega
                · rw [if_neg hm, if_neg (by omega)]
            rw [e5]
            simpa using hfu

/-- A stage whose operations come in whatever order: from m0 on up to m1; st: which own blocks are written. -/
theorem at_stage {E : Stc} {ops : Array Oper} {s : List Fr} {env : List (Nat × SV)} {own : List (Nat × SO)} {all pre0 pre1 rest suf : List Oper} {ps : List PE} {env' : List (Nat × SV)} {own' : List (Nat × SO)} {ob : List Prop} {m0 m1 : Nat}
    (d : Nat) (st : List Nat) (hall : ops.toList = all) (hs0 : splitK m0 all Prod.mk = (pre0, rest)) (hs1 : splitK d rest Prod.mk = (pre1, suf)) (h0 : pre0.length = m0) (h01 : (pre0 ++ pre1).length = m1) (ans : List (Nat × Ans)) (nx0 : List Nat)
    (h : planS E.P E.T E.cx.m0 E.n all m0 pre0 pre1 (pre0 ++ pre1) ans env own nx0 st = .ok ps env' own' ob) (ho : All ob) (hS : SatA E ops m1 s env' own') : SatA E ops m0 s env own :=
  at_stageG st hall (by rw [splitK_pair hs0, splitK_pair hs1, List.append_assoc]) h0 h01 ans nx0 h ho hS

theorem letsOut_then {Q : Exit → Act → World → Prop} {A : Act → World → Prop} (h : LetsOut (Exit.then A Q)) : LetsOut Q := h

theorem wp_then {P : Program} {o : Oper} {a : Act} {w : World} {A : Act → World → Prop} {K K' : Act → World → Prop} {Q : Exit → Act → World → Prop} (h : ∀ a w, K a w → K' a w) (hh : o.wp P a w K (Exit.then A Q)) : o.wp P a w K' Q := by
  have h2 := Oper.wp_mono h hh
  unfold Oper.wp at *
  generalize (execOp a.eval o).run P w = r at *
  cases r with
  | ok n w' =>
    cases n <;> simp only [Oper.upon] at h2 ⊢ <;>
      first
        | exact h2
        | exact Calls.mono h2 (fun e w'' he => by cases e <;> exact he)
  | halt x w' => cases x <;> simp only [Oper.upon] at h2 ⊢ <;> exact h2

/-- One operation that all others wait for. -/
theorem at_forced {E : Stc} {ops : Array Oper} {s : List Fr} {env : List (Nat × SV)} {own : List (Nat × SO)} (nx : List Nat) {all pre0 suf : List Oper} {o : Oper} {m0 : Nat} {α : Type} (φ : α → Prop) (σ : α → List (Nat × SV)) (τ : α → List (Nat × SO))
    (hall : ops.toList = all) (hs0 : splitK m0 all Prod.mk = (pre0, o :: suf)) (h0 : pre0.length = m0) (hbar : barOk (m0 + 1) all = true) (hah : aheadOk 0 all = true)
    (h : Sat E (.ops all [o]) (.lp (Joined φ σ τ) :: s) env own nx) (k : ∀ y, φ y → SatA E ops (m0 + 1) s (σ y) (τ y)) : SatA E ops m0 s env own := by
  subst hall
  have hsp := splitK_pair hs0
  have hget : ∀ i : Nat, ops[i]? = ops.toList[i]? := fun i => by simp
  have hop : ops[m0]? = some o := by
    rw [hget, hsp, List.getElem?_append_right (by omega), h0, Nat.sub_self]
    rfl
  have hm : m0 < ops.size := (Array.getElem?_eq_some_iff.1 hop).1
  intro fuel listed a w hls hl1 hl2 hfu hat
  have hd : ∀ i, i < ops.size → listed.getD i true = listed.getD i false := fun i hi => by simp [hls, hi]
  have hready : ∀ j, j ∈ Region.ready .any ops listed ↔ j = m0 := by
    intro j
    rw [ready_iff]
    constructor
    · rintro ⟨hj1, o', ho, hb⟩
      have hjl : j < ops.size := (Array.getElem?_eq_some_iff.1 ho).1
      rw [hd j hjl] at hj1
      have hge : m0 ≤ j := by
        rcases Nat.lt_or_ge j m0 with h | h
        · rw [hl1 j h] at hj1; cases hj1
        · exact h
      rcases Nat.lt_or_ge m0 j with h | h
      · exfalso
        have hoj0 : ops.toList[j]? = some o' := by rw [← hget]; exact ho
        have := reach_listed (get := fun i => ops.toList[i]?) (L := fun i => listed.getD i false) (fun i oi k' hi hL hb' => hl1 k' (by
          have hlt' := aheadOk_spec ops.toList 0 i oi hah hi k' hb'
          rcases Nat.lt_or_ge i m0 with h' | h'
          · omega
          · simp only [hl2 i h'] at hL
            cases hL)) (barOk_spec hbar hoj0 (by omega) (Nat.lt_succ_self m0)) (fun o'' ho' k' hk' => by
          rw [hoj0] at ho'
          cases ho'
          exact hb k' hk')
        simp only [hl2 _ (Nat.le_refl _)] at this
        cases this
      · omega
    · rintro rfl
      refine ⟨by rw [hd _ hm]; exact hl2 _ (Nat.le_refl _), o, hop, fun j hj => hl1 j ?_⟩
      have := aheadOk_spec ops.toList 0 j.succ.pred
      have := aheadOk_spec ops.toList 0 _ o hah (by rw [← hget]; exact hop) j hj
      omega
  cases fuel with
  | zero => omega
  | succ fuel =>
    refine ⟨fun e => ?_, fun j hj => ?_⟩
    · have := (hready m0).2 rfl
      rw [e] at this
      cases this
    · obtain rfl := (hready j).1 hj
      have hw := h a w hat
      have key : ∀ a w, KK E (.lp (Joined φ σ τ) :: s) .normal a w → wpAny E.P .any ops (KK E s) fuel (listed.setIfInBounds j true) a w := by
        rintro a w ⟨env1, own1, ⟨y, hy, he, ho⟩, hat1⟩
        refine k y hy fuel _ a w (by simpa using hls) (fun i hi => ?_) (fun i hi => ?_) (by omega) (at_sub hat1 he ho)
        · by_cases e : i = j
          · subst e
            have : i < listed.size := by omega
            simp [this]
          · rw [getD_set_ne false (Ne.symm e)]; exact hl1 i (by omega)
        · rw [getD_set_ne false (by omega)]; exact hl2 i (by omega)
      unfold wpOp
      rw [hop]
      simp only
      unfold wpList at hw
      rw [Array.toArray_toList] at hw
      split
      · rename_i hwant
        rw [if_pos hwant] at hw
        exact hw.imp (wp_then key) (fun h => ⟨h.1, letsOut_then h.2⟩)
      · rename_i hwant
        rw [if_neg hwant] at hw
        exact key _ _ hw

/-- Between stages the state may be looked at in other words. -/
theorem at_between {E : Stc} {ops : Array Oper} {m : Nat} {s : List Fr} {env : List (Nat × SV)} {own : List (Nat × SO)} (nx : List Nat) {α : Type} (φ : α → Prop) (σ : α → List (Nat × SV)) (τ : α → List (Nat × SO))
    (h : Sat E .norm (.lp (Joined φ σ τ) :: s) env own nx) (k : ∀ y, φ y → SatA E ops m s (σ y) (τ y)) : SatA E ops m s env own := by
  intro fuel listed a w h1 h2 h3 h4 hat
  obtain ⟨env1, own1, ⟨y, hy, he, ho⟩, hat1⟩ := h a w hat
  exact k y hy fuel listed a w h1 h2 h3 h4 (at_sub hat1 he ho)

end Go.Eng
