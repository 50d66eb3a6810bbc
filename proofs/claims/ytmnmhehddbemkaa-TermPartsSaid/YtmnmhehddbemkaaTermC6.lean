/- The texts Own, W4p, W4q, W4r, W4s, W4x, X1, W4u, W4v, W1a, W1b, Own2, W1c, P1, one behind the other: an executor over the translated code, contracts of functions, and their laws. -/
import Derived.Laws.BytesString
import Derived.Carry
import Derived.Lib.Bytealg
import Derived.Laws.Externs
import Derived.Test.YtmnmhehddbemkaaTermC5
/- The proof engine, part 14g: own things that a call hands back; maps; bytes. -/
namespace Go.Eng

/-- A thing of its own is held by a name. -/
theorem Dn.bind {cx : Cx} {g : Nat → Value} {H : Hp} {env : List (Nat × SV)} {own : List (Nat × SO)} {n : Nat} {tmps : Array Value} {w : World} {k : Nat} {x : Value} {so : SO}
    (h : Dn cx g H env own n tmps w) (hm : cx.m0 ≤ k) (hE : freshE k env = true) (hO : freshO k own = true) (hok : OwnOk cx.mine (Eng.upd g k x) H w k so)
    (hb : ∀ b, blkOf x = some b → ∀ j o, ownq own j = some o → blkOf (g j) ≠ some b) : Dn cx (Eng.upd g k x) H env ((k, so) :: own) n tmps w := by
  have hne : ∀ i, i ≠ k → Eng.upd g k x i = g i := fun i hi => upd_ne _ _ _ i hi
  refine { size := h.size, den := fun t => Den.upd hne _ _ (freshE_nth t hE) (h.den t), ok := fun j o hj => ?_, inj := fun i j hi hj b hbi hbj => ?_, hp := h.hp, base := { h.base with fix := fun j hj => by rw [hne j (by omega)]; exact h.base.fix j hj } }
  · simp only [ownq] at hj
    cases hb : Nat.beq k j with
    | true =>
      have := beq_true hb
      subst this
      simp only [hb, cond_true, Option.some.injEq] at hj
      subst hj
      exact hok
    | false =>
      simp only [hb, cond_false] at hj
      exact (h.ok j o hj).upd (freshO_own hO hj)
  · have key : ∀ j b, (ownq ((k, so) :: own) j).isSome = true → blkOf (Eng.upd g k x j) = some b → (j = k ∧ ∀ i o, ownq own i = some o → blkOf (g i) ≠ some b) ∨ (j ≠ k ∧ (ownq own j).isSome = true ∧ blkOf (g j) = some b) := by
      intro j b hj hbj
      by_cases hjk : j = k
      · subst hjk
        rw [upd_same] at hbj
        exact .inl ⟨rfl, hb b hbj⟩
      · have hbf : Nat.beq k j = false := by
          cases hb' : Nat.beq k j with
          | false => rfl
          | true => exact absurd (beq_true hb').symm hjk
        simp only [ownq, hbf, cond_false] at hj
        rw [hne j hjk] at hbj
        exact .inr ⟨hjk, hj, hbj⟩
    rcases key i b hi hbi with ⟨e1, e2⟩ | ⟨n1, o1, b1⟩ <;> rcases key j b hj hbj with ⟨e3, e4⟩ | ⟨n2, o2, b2⟩
    · rw [e1, e3]
    · cases ho : ownq own j with
      | none => rw [ho] at o2; cases o2
      | some o => exact absurd b2 (e2 j o ho)
    · cases ho : ownq own i with
      | none => rw [ho] at o1; cases o1
      | some o => exact absurd b1 (e4 i o ho)
    · exact h.inj i j o1 o2 b b1 b2

section
variable {E : Stc} {all rest : List Oper} {o : Oper} {s : List Fr} {env : List (Nat × SV)} {own own2 : List (Nat × SO)} {nx : List Nat}

/-- A call that is handed a list with room of its own, and hands one back. -/
theorem at_growF (k k' sz : Nat) {rows : List (List DV)} {f : Nat} {args : List SV} (hC : Contract E.P f 1 [(0, .tok sz)] args fun s post => s = .gl 1 sz rows ∧ post = [(1, .tok sz)]) (hc : callK o.op env (fun f l => some (f, l)) none = some (f, rens (fun _ => k) args))
    (hk : ownq own k = some (.tok sz)) (ho : lessK k own some = some own2) (kk : Sat E (.ops all rest) s (put o.dst (.gl k' sz rows) (degE k env)) ((k', .tok sz) :: own2) nx)
    (hm : Nat.ble E.cx.m0 k' = true := by rfl) (hE : freshE k' (degE k env) = true := by rfl) (hO : freshO k' own2 = true := by rfl)
    (hg : guardK all o.guard env true false false = true := by rfl) (hd : dstLt o.dst E.n = true := by rfl) : Sat E (.ops all (o :: rest)) s env own nx := by
  intro a w hat
  have hwant := wanted_of (E := E) (own := own) hg a w hat
  rw [lessK_eq] at ho
  simp only [Option.some.injEq] at ho
  subst ho
  unfold wpList
  rw [if_pos hwant]
  refine .inl ?_
  obtain ⟨hdf, g, H, hdn⟩ := hat
  obtain ⟨vs, hv, hr⟩ := run_call (P := E.P) hdn hC.1 hc
  have hpre : pres (fun _ => k) own [(0, .tok sz)] := ⟨hk, trivial⟩
  have hv' : Dens (fun j => g ((fun _ => k) j)) H args vs := Dens.unren (g' := g) (r := fun _ => k) (fun _ => rfl) args vs hv
  have key : ∀ i, (ownq [(0, SO.tok sz)] i).isSome = true → i = 0 := by
    intro i hi
    cases i with
    | zero => rfl
    | succ i => exact absurd hi (by show ¬ (false = true); simp)
  have hok : ∀ j o, ownq [(0, SO.tok sz)] j = some o → OwnOk (fun _ => True) (fun _ => g k) H w j o := by
    intro j o hj
    have h0 := key j (by rw [hj]; rfl)
    subst h0
    have e : SO.tok sz = o := by simpa [ownq] using hj
    subst e
    obtain ⟨ad, q, c, e, q1, hle, q2⟩ := hdn.ok k _ hk
    refine ⟨ad, q, c, e, q1, hle, fun p hpa hlt => ?_⟩
    obtain ⟨q3, _, q5⟩ := q2 p hpa hlt
    exact ⟨q3, trivial, q5⟩
  have hinj : InjOn (fun _ => g k) [(0, SO.tok sz)] := by
    intro i j hi hj _ _ _
    rw [key i hi, key j hj]
  have hcall := hC.2 (fun _ => g k) H w vs hdn.hp hok hinj hv'
  unfold Oper.wp
  rw [hr]
  refine hcall.mono fun e w' he => ?_
  cases e with
  | panicked c => exact he.elim
  | outgrown => exact he.elim
  | returned x =>
    obtain ⟨g', H', sv, post, ⟨rfl, rfl⟩, hx, hok', _, hon, hb⟩ := he
    obtain ⟨hd2, hother⟩ := hdn.left (r := fun _ => k) (own2 := rm1 k own) hpre hb hon (fun j o hj => ⟨rm1_own hj, fun i _ => (rm1_less k own j o hj).1⟩)
    obtain ⟨hx1, hx2⟩ := hx
    obtain ⟨ad, q, c, e, q1, hle, q2⟩ := hok' 1 (.tok sz) rfl
    rw [← hx2] at e
    have hsp : Spare w' H' sz x fun b => E.cx.mine b ∧ ∀ j o, ownq (rm1 k own) j = some o → blkOf (g j) ≠ some b := by
      refine ⟨ad, q, c, e, q1, hle, fun p hpa hlt => ?_⟩
      obtain ⟨q3, q4, q5⟩ := q2 p hpa hlt
      exact ⟨q3, hother _ q4, q5⟩
    obtain ⟨hd3, hp⟩ := (hd2.le (degE_le k env) (fun _ _ h => h)).tok (Nat.le_of_ble_eq_true hm) hE hO hx1 hsp
    exact kk _ _ (At.put hdf hd3 hp fun d e => by rw [e] at hd; exact Nat.blt_eq.mp hd)

/-- A call that hands back a thing of its own: a map. -/
theorem at_mapF (k' : Nat) {F : Nat → Hp → Obj → Prop} {f : Nat} {args : List SV} (hC : Contract E.P f 0 [] args fun s post => s = .mp 0 ∧ post = [(0, .obj F)]) (hc : callK o.op env (fun f l => some (f, l)) none = some (f, args))
    (kk : Sat E (.ops all rest) s (put o.dst (.mp k') env) ((k', .obj F) :: own) nx)
    (hm : Nat.ble E.cx.m0 k' = true := by rfl) (hE : freshE k' env = true := by rfl) (hO : freshO k' own = true := by rfl)
    (hg : guardK all o.guard env true false false = true := by rfl) (hd : dstLt o.dst E.n = true := by rfl) : Sat E (.ops all (o :: rest)) s env own nx := by
  intro a w hat
  have hwant := wanted_of (E := E) (own := own) hg a w hat
  unfold wpList
  rw [if_pos hwant]
  refine .inl ?_
  obtain ⟨hdf, g, H, hdn⟩ := hat
  obtain ⟨vs, hv, hr⟩ := run_call (P := E.P) hdn hC.1 hc
  have hcall := hC.2 g H w vs hdn.hp (fun k o hk => by simp [ownq] at hk) (fun i j hi => by simp [ownq] at hi) hv
  unfold Oper.wp
  rw [hr]
  refine hcall.mono fun e w' he => ?_
  cases e with
  | panicked c => exact he.elim
  | outgrown => exact he.elim
  | returned x =>
    obtain ⟨g', H', sv, post, ⟨rfl, rfl⟩, ⟨q, hx1, hx2⟩, hok', _, hon, hb⟩ := he
    obtain ⟨hd2, hother⟩ := hdn.left (r := fun k => k) (pre := []) (own2 := own) trivial hb hon (fun j o hj => ⟨hj, fun k hk => by simp [ownq] at hk⟩)
    obtain ⟨q', ob, e, r1, r2, r3, r4⟩ := hok' 0 (.obj F) rfl
    rw [hx1] at e
    simp only [Value.map.injEq, Option.some.injEq] at e
    subst e
    have ho := hother q r4
    have hd3 := hd2.bind (x := x) (so := .obj F) (Nat.le_of_ble_eq_true hm) hE hO ⟨q, ob, by rw [upd_same, hx2], r1, r2, r3, ho.1⟩ (fun b hbx j o hj => by
      rw [hx2] at hbx
      simp only [blkOf, Option.some.injEq] at hbx
      subst hbx
      exact ho.2 j o hj)
    exact kk _ _ (At.put hdf hd3 ⟨q, by rw [upd_same, hx2], hx2⟩ fun d e => by rw [e] at hd; exact Nat.blt_eq.mp hd)

/-- A list with room of its own gets another name. -/
theorem at_rename {m : Md} (t k k' sz : Nat) {rows : List (List DV)} (ht : nth env t = .gl k sz rows) (hk : ownq own k = some (.tok sz)) (ho : lessK k own some = some own2) (kk : Sat E m s ((t, .gl k' sz rows) :: degE k env) ((k', .tok sz) :: own2) nx)
    (hm : Nat.ble E.cx.m0 k' = true := by rfl) (hE : freshE k' (degE k env) = true := by rfl) (hO : freshO k' own2 = true := by rfl) : Sat E m s env own nx := by
  rw [lessK_eq] at ho
  simp only [Option.some.injEq] at ho
  subst ho
  refine sat_mono (fun a w hat => ?_) kk
  obtain ⟨hdf, g, H, hdn⟩ := hat
  have hx := hdn.den t
  rw [ht] at hx
  obtain ⟨hx1, hx2⟩ := hx
  obtain ⟨ad, q, c, e, q1, hle, q2⟩ := hdn.ok k _ hk
  have hsp : Spare w H sz (a.tmps.getD t undef) fun b => E.cx.mine b ∧ ∀ j o, ownq (rm1 k own) j = some o → blkOf (g j) ≠ some b := by
    refine ⟨ad, q, c, by rw [hx2, e], q1, hle, fun p hpa hlt => ?_⟩
    obtain ⟨q3, q4, q5⟩ := q2 p hpa hlt
    refine ⟨q3, ⟨q4, fun j o hj ej => ?_⟩, q5⟩
    have hl := rm1_less k own j o hj
    exact hl.1 (hdn.inj j k (by rw [hl.2]; rfl) (by rw [hk]; rfl) p.block ej (by rw [e, hpa]; simp [blkOf, Nat.blt_eq.mpr hlt]))
  have hd2 := (hdn.lessO (rm1_less k own)).le (degE_le k env) (fun _ _ h => h)
  obtain ⟨hd3, hp⟩ := hd2.tok (Nat.le_of_ble_eq_true hm) hE hO hx1 hsp
  refine ⟨hdf, _, H, { hd3 with den := fun i => ?_ }⟩
  simp only [nth]
  cases hb : Nat.beq t i with
  | true =>
    have := beq_true hb
    subst this
    exact hp
  | false => exact hd3.den i

/-- A map that has no entries. -/
def noMap : Nat → Hp → Obj → Prop := fun _ _ o => ∃ c, o = .map #[] c

/-- A map is made. -/
theorem at_mkmap (k' : Nat) {t : Nat} (ho : o.op = .makeMap t none) (kk : Sat E (.ops all rest) s (put o.dst (.mp k') env) ((k', .obj noMap) :: own) nx)
    (hm : Nat.ble E.cx.m0 k' = true := by rfl) (hE : freshE k' env = true := by rfl) (hO : freshO k' own = true := by rfl)
    (hg : guardK all o.guard env true false false = true := by rfl) (hd : dstLt o.dst E.n = true := by rfl) : Sat E (.ops all (o :: rest)) s env own nx := by
  intro a w hat
  have hwant := wanted_of (E := E) (own := own) hg a w hat
  unfold wpList
  rw [if_pos hwant]
  refine .inl ?_
  obtain ⟨hdf, g, H, hdn⟩ := hat
  have hr : (execOp a.eval o).run E.P w = .ok (.value (.map (some w.heap.size))) (w.alloc (.map #[] 0)) := by
    simp [execOp, ho, Instr.makeMap]
  have hd2 := hdn.grown (w' := w.alloc (.map #[] 0)) rfl rfl rfl (by simp) (fun b hb => heap_alloc_lt w _ hb)
  have hnew := hdn.new_ok (Nat.le_refl w.heap.size)
  have hd3 := hd2.bind (k := k') (x := .map (some w.heap.size)) (so := .obj noMap) (Nat.le_of_ble_eq_true hm) hE hO ⟨w.heap.size, _, upd_same _ _ _, heap_alloc_new w _, fun _ _ => ⟨0, rfl⟩, fun j => Hp.on_new hdn.hp j, hnew.1⟩ (fun b hbx j o hj => by
    simp only [blkOf, Option.some.injEq] at hbx
    subst hbx
    exact hnew.2 j o hj)
  unfold Oper.wp
  rw [hr]
  exact kk _ _ (At.put hdf hd3 ⟨w.heap.size, upd_same _ _ _, rfl⟩ fun d e => by rw [e] at hd; exact Nat.blt_eq.mp hd)
end

section
variable {P : Program} {T : Nat → TI} {env : List (Nat × SV)} {own : List (Nat × SO)}

/-- Nothing is found where there is nothing. -/
theorem does_lookup0 {o : Oper} {t k e q : Nat} {x y : Operand} {str : ByteArray} {z : Value} (s : SV) (ht : P.underlying t = some (.map k e)) (hks : P.underlying k = some .string) (hz : (P.info? e).bind (·.zero) = some z) (ho : o.op = .lookup t x y true) (hx : ev env x = .mp q) (hy : ev env y = .str str) (hq : ownq own q = some (.obj noMap)) (hs : ∀ g H, Den g H s z) :
    DoesV P o env own (.tup [s, .ff]) := by
  obtain ⟨i2, hi2, hz2⟩ := Option.bind_eq_some_iff.1 hz
  refine does_val fun cx g H n a w hd => ⟨.tuple #[z, .bool false], ?_, [z, .bool false], rfl, hs g H, rfl, trivial⟩
  obtain ⟨r, ob, e1, h1, h2, _⟩ := hd.ok q _ hq
  obtain ⟨c, rfl⟩ := h2 H (Hp.le_refl H)
  have ex := hd.ev x
  rw [hx] at ex
  obtain ⟨r', e2, e3⟩ := ex
  rw [e1] at e2
  simp only [Value.map.injEq, Option.some.injEq] at e2
  subst e2
  have ey : a.eval y = .string str := by have := hd.ev y; rw [hy] at this; exact this
  have hck : ∀ em, (Instr.checkKey em 10000 k (.string str)).run P w = .ok () w := by
    intro em
    rw [show (10000 : Nat) = 9999 + 1 from rfl, Instr.checkKey]
    simp [run_underlying hks]
  have hget : (getObj r).run P w = .ok (.map #[] c) w := by simp [getObj, Sem.run, h1]
  have hfind : (Instr.findKey k (.string str) []).run P w = .ok none w := by simp [Instr.findKey, run_underlying hks, Instr.findNow]
  have hl : (Instr.lookup t (.map (some r)) (.string str) true).run P w = .ok (.tuple #[z, .bool false]) w := by
    unfold Instr.lookup
    simp [run_underlying ht, hget, hck, hfind, run_zero' hi2 hz2]
  simp only [execOp, ho, e3, ey]
  simp [hl]

/-- Shifted to the right. -/
theorem does_shr {o : Oper} {t ty : Nat} {x y : Operand} {k k2 : IntKind} {a b : Int} (ho : o.op = .binOp .shr t x y ty) (hx : ev env x = .int k a) (hy : ev env y = .int k2 b) (hb : 0 ≤ b) :
    DoesV P o env own (.int k (a.fdiv (2 ^ (min b.toNat k.bits)))) := by
  refine does_bin ho fun g H u v w hu hv => ?_
  rw [hx] at hu
  rw [hy] at hv
  have hu : u = .int k a := hu
  have hv : v = .int k2 b := hv
  subst hu; subst hv
  refine ⟨_, by rw [eqGuard_at_int]; rfl, ?_, rfl⟩
  simp [binOp, Op.shift, show ¬ b < 0 by omega]

/-- The lower bits of a number. -/
theorem does_wrap (hT : ∀ t, T t = tiOf P t) {o : Oper} {s d : Nat} {x : Operand} {k k2 : IntKind} {n : Int} (ho : o.op = .convert s d x) (hx : ev env x = .int k2 n) (hs : (T s).kd = .int k2) (hd : (T d).kd = .int k) : DoesV P o env own (.int k (k.wrap n)) := by
  rw [hT s] at hs
  rw [hT d] at hd
  obtain ⟨i1, d1, h1, e1⟩ := und_kd hs (by simp)
  obtain ⟨i2, d2, h2, e2⟩ := und_kd hd (by simp)
  have e1' : d1 = .int k2 := by cases d1 <;> simp [kdOf] at e1; rw [e1]
  have e2' : d2 = .int k := by cases d2 <;> simp [kdOf] at e2; rw [e2]
  subst e1'; subst e2'
  refine does_val fun cx g H q a w hdn => ⟨.int k (k.wrap n), ?_, rfl⟩
  have e : a.eval x = .int k2 n := by have := hdn.ev x; rw [hx] at this; exact this
  simp [execOp, ho, e, convert, run_underlying h1.und, run_underlying h2.und, Conv.intToInt]

abbrev bytesR (ns : List Int) : List (List DV) := ns.map fun n => [.int .u8 n]
def bytesS (ns : List Int) : ByteArray := ns.foldl (fun r n => r.push (UInt8.ofNat n.toNat)) ByteArray.empty

theorem flat_bytes {H : Hp} : ∀ {ns : List Int} {vs : List Value}, DenF H 1 (bytesR ns) vs → vs = ns.map (Value.int .u8)
  | [], vs, h => h
  | n :: ns, vs, h => by
    obtain ⟨v1, v2, e, h1, _, h3⟩ := h
    subst e
    rw [flat_bytes h3]
    cases v1 with
    | nil => exact h1.elim
    | cons x v1 =>
      cases v1 with
      | nil =>
        have : x = .int .u8 n := h1.1
        rw [this]
        rfl
      | cons _ _ => exact h1.2.elim

/-- Bytes as a text. -/
theorem does_bytesStr (hT : ∀ t, T t = tiOf P t) {o : Oper} {s d : Nat} {x : Operand} {ns : List Int} (ho : o.op = .convert s d x) (hx : lstv (ev env x) = some (1, bytesR ns)) (hs : (T s).kd = .slice) (he : (T (T s).elem).kd = .int .u8) (hd : (T d).kd = .str) : DoesV P o env own (.str (bytesS ns)) := by
  rw [hT s] at hs
  rw [hT (T s).elem, hT s] at he
  rw [hT d] at hd
  obtain ⟨i1, h1⟩ := slice_ti hs
  obtain ⟨i2, d2, h2, e2⟩ := und_kd hd (by simp)
  obtain ⟨i3, d3, h3, e3⟩ := und_kd he (by simp)
  have e2' : d2 = .string := by cases d2 <;> simp [kdOf] at e2; rfl
  have e3' : d3 = .int .u8 := by cases d3 <;> simp [kdOf] at e3; rw [e3]
  subst e2'; subst e3'
  refine does_val fun cx g H q a w hdn => ⟨.string (bytesS ns), ?_, rfl⟩
  obtain ⟨ad, c, e, hc, hn, hp⟩ := lstv_den hx (hdn.ev x)
  have hlen : (bytesR ns).length = ns.length := by simp
  rw [hlen] at e
  have hconv : (Conv.bytesToString (.slice ad ns.length c)).run P w = .ok (.string (bytesS ns)) w := by
    cases had : ad with
    | none =>
      have := (hn had).1
      have : ns = [] := by simpa using this
      subst this
      simp [Conv.bytesToString, bytesS]
    | some p =>
      obtain ⟨hs', hR⟩ := hp p had
      obtain ⟨nv, hf, hcell⟩ := hR.flat
      have hnv := flat_bytes hf
      subst hnv
      refine run_bytesToString w p ns.length c ns ?_
      have hl := run_loadCells_list (P := P) w p (ns.map (Value.int .u8)) fun j v hj => by
        have hsp : p.spot = none := hs'.resolve_left fun e => by
          have : ns = [] := by simpa using e
          subst this
          simp at hj
        obtain ⟨b, off, spot⟩ := p
        simp only at hsp
        subst hsp
        rw [addr_add]
        exact hdn.hp _ _ _ (hcell j v hj)
      simpa using hl
  simp [execOp, ho, e, convert, run_underlying h1.und, run_underlying h2.und, run_underlying h3.und, hconv]

end
end Go.Eng
namespace Go.Proofs.Ytmnmhehddbemkaa
open Go Go.Eng

def numB (v : Int) (n : Nat) : List Int := (List.range n).map fun i => IntKind.u8.wrap (v.fdiv (2 ^ (min (8 * ((n : Int) - 1 - (i : Nat))).toNat IntKind.i64.bits)))

set_option maxRecDepth 100000 in
theorem number_fn (b : List Int) (v : Int) (n : Nat) (hn : n ≤ 100) (hb : b.length ≤ 1000000) : Contract Try.prog 126 1 [(0, .tok 1)] [.gl 0 1 (bytesR b), I v, I n] fun s post => s = .gl 1 1 (bytesR (b ++ numB v n)) ∧ post = [(1, .tok 1)] := by
  have hlenB : (numB v n).length = n := by simp [numB]
  refine contract_of ty_ok [2, 3, 4, 5, 6, 7] Try.func126 rfl (by decide) Try.ntmps126 rfl fun z => ?_
  refine run 400 rfl ?_
  refine at_rename 0 0 1 1 rfl rfl rfl ?_
  refine at_loop (fun i : Nat => i ≤ n) (fun i => [(0, .gl 1 1 (bytesR (b ++ (numB v n).take i))), (1, I v), (2, I n), (8, I n), (9, I i)]) (fun _ => [(1, .tok 1)]) (fun i => n - i) [2, 3, 4, 5, 6, 7]
    0 (by omega) ⟨SVle.of_eq (by show SV.gl 1 1 (bytesR b) = SV.gl 1 1 (bytesR (b ++ (numB v n).take 0)); rw [List.take_zero, List.append_nil]), SVle.refl _, SVle.refl _, SVle.refl _, SVle.refl _, trivial⟩ ⟨rfl, trivial⟩ ?_
  intro i hi
  refine run 400 rfl ?_
  refine at_ifd rfl (fun g => ?_) (fun g => ?_)
  rotate_left
  · have e : i = n := by omega
    subst e
    refine run 400 rfl ?_
    exact at_ret rfl rfl [(1, .tok 1)] ⟨by rw [List.take_of_length_le (by omega)], rfl⟩ ⟨rfl, trivial⟩
  have hlt : i < n := by omega
  have hx : (numB v n)[i]? = some (IntKind.u8.wrap (v.fdiv (2 ^ (min (8 * ((n : Int) - 1 - i)).toNat IntKind.i64.bits)))) := by
    simp [numB, hlt]
  refine run 400 rfl ?_
  refine at_val (.int .i64 (v.fdiv (2 ^ (min (8 * ((n : Int) - 1 - i)).toNat IntKind.i64.bits)))) (does_shr rfl rfl rfl (by omega)) ?_
  refine at_val (.int .u8 (IntKind.u8.wrap (v.fdiv (2 ^ (min (8 * ((n : Int) - 1 - i)).toNat IntKind.i64.bits))))) (does_wrap ty_ok rfl rfl rfl rfl) ?_
  generalize IntKind.u8.wrap (v.fdiv (2 ^ (min (8 * ((n : Int) - 1 - i)).toNat IntKind.i64.bits))) = x at hx
  refine at_gro (.tl 1 [[.int .u8 x]]) (doesG_build ty_ok _ rfl ⟨⟨rfl, rfl, _, rfl, SVles.refl _⟩, trivial⟩ rfl rfl (by decide)) ?_
  have hlen : (bytesR (b ++ (numB v n).take i)).length = b.length + i := by simp; omega
  refine at_grow 1 1 1 (bytesR (b ++ (numB v n).take i) ++ [[.int .u8 x]]) rfl (doesU_append ty_ok rfl rfl rfl rfl rfl rfl rfl (by rw [hlen]; simp; omega) (by rw [hlen]; show _ * 1 ≤ _; simp; omega)) rfl ?_
  refine run 400 rfl ?_
  exact at_again (i + 1) (by omega) (by omega) ⟨SVle.of_eq (by show SV.gl 1 1 (bytesR (b ++ (numB v n).take i) ++ [[.int .u8 x]]) = SV.gl 1 1 (bytesR (b ++ (numB v n).take (i + 1))); rw [List.take_add_one, hx]; simp), SVle.refl _, SVle.refl _, SVle.refl _, SVle.of_eq (by show I ((i : Int) + 1) = I ((i + 1 : Nat) : Int); rw [Int.natCast_add]; rfl), trivial⟩ ⟨rfl, trivial⟩

set_option maxRecDepth 100000 in
theorem puts0_fn (n : Int) : Gives Try.prog 104 [.tl 1 [], (Tm.mk 2 n .empty []).sv] (.lst 1 (bytesR ([2] ++ numB n 4))) := by
  refine contract_of ty_ok [0, 1, 2, 3, 4, 6, 7] Try.func104 rfl (by decide) Try.ntmps104 rfl fun z => ?_
  refine run 400 rfl ?_ (by show (0 : Int) ≤ 2 ∧ (2 : Int) ≤ 255; omega)
  refine at_gro (.tl 1 (bytesR [2])) (doesG_build ty_ok _ rfl ⟨⟨rfl, rfl, _, rfl, SVles.refl _⟩, trivial⟩ rfl rfl (by decide)) ?_
  refine at_new 5 1 (bytesR [2]) (doesT_append (xs := []) ty_ok rfl rfl rfl rfl rfl rfl rfl (by simp) (by show _ * 1 ≤ _; simp)) ?_
  refine run 400 rfl ?_
  refine at_false 15 rfl rfl ?_
  refine run 400 rfl ?_
  refine at_true 25 rfl rfl ?_
  refine run 400 rfl ?_
  refine at_growF 5 5 1 (number_fn [2] n 4 (by omega) (by simp)) rfl rfl rfl ?_
  refine run 400 rfl ?_
  refine at_loop (fun _ : Unit => True) (fun _ => [(0, .gl 5 1 (bytesR ([2] ++ numB n 4))), (33, I 0), (34, I 0)]) (fun _ => [(5, .tok 1)]) (fun _ => 0) [0, 1, 2, 3, 4, 6, 7]
    () trivial ⟨SVle.refl _, SVle.of_eq (by show I (rowsT []).length = I 0; rw [rowsT_nil]; rfl), SVle.refl _, trivial⟩ ⟨rfl, trivial⟩ ?_
  intro _ _
  refine run 400 rfl ?_
  refine at_ifd rfl (fun g => absurd g (by omega)) (fun g => ?_)
  refine at_deg 5 ?_
  refine run 400 rfl ?_
  exact at_ret rfl rfl [] ⟨rfl, rfl, rfl⟩ trivial
end Go.Proofs.Ytmnmhehddbemkaa
namespace Go.Proofs.Ytmnmhehddbemkaa
open Go Go.Eng

abbrev n1 : Tm := .mk 2 1 .empty []
theorem may_n1 : mayF n1 = true := by
  have hr : rightF n1 = true := by
    simp [rightF, kidsF, seq_self]
    exact .inr ⟨by show (0 : Int) < 1; omega, by show (1 : Int) ≤ 1073741824; omega⟩
  simp [mayF, mayT, hr, mayL]
theorem tl01 (sz : Nat) : SVle (.tl 0 []) (.tl sz []) := SVle.nil sz
theorem put_fn : Gives Try.prog 92 [n1.sv] (.lst 1 (bytesR ([2] ++ numB 1 4))) := by
  have hp := (puts0_fn 1).weak (args' := [.tl 0 [], n1.sv]) ⟨SVle.nil 1, SVle.refl _, trivial⟩
  have hm := may_fn n1
  rw [may_n1] at hm
  refine contract_of ty_ok [0, 1, 2, 3, 4, 5, 6, 7] Try.func92 rfl (by decide) Try.ntmps92 rfl fun z => ?_
  refine run 400 rfl ?_
  refine at_fn hm rfl ?_
  refine run 400 rfl ?_
  refine at_if rfl (fun h => by cases h) (fun h => ?_)
  refine run 400 rfl ?_
  refine at_fn hp rfl ?_
  refine run 400 rfl ?_
  exact at_ret rfl rfl [] ⟨rfl, rfl, rfl⟩ trivial
theorem key_fn : Gives Try.prog 66 [n1.sv] (.str (bytesS ([2] ++ numB 1 4))) := by
  refine contract_of ty_ok [0, 1, 2, 3, 4, 5, 6, 7] Try.func66 rfl (by decide) Try.ntmps66 rfl fun z => ?_
  refine run 400 rfl ?_
  refine at_fn put_fn rfl ?_
  refine at_val (.str (bytesS ([2] ++ numB 1 4))) (does_bytesStr ty_ok (ns := [2] ++ numB 1 4) rfl rfl rfl rfl rfl) ?_
  refine run 400 rfl ?_
  exact at_ret rfl rfl [] ⟨rfl, rfl, rfl⟩ trivial

theorem z33 : (Try.prog.info? 33).bind (·.zero) = some (.agg #[.int .i64 0, .int .i64 0, .string .empty, .slice none 0 0]) := by kernel_rfl
abbrev canPre : List (Nat × SO) := [(0, .cells 85 [.mp 2]), (1, .cells 55 [.clo 65 [.ptr 0 0, .ptr 1 0]]), (2, .obj noMap)]

set_option maxRecDepth 100000 in
theorem can1_fn : Contract Try.prog 65 3 canPre [n1.sv, .ptr 0 0, .ptr 1 0] fun s post => s = .ff ∧ post = canPre := by
  refine contract_of ty_ok [3, 4, 5, 6, 7] Try.func65 rfl (by decide) Try.ntmps65 rfl fun z => ?_
  refine run 400 rfl ?_
  refine at_drawn 9 rfl rfl [(2, .sv (.str (bytesS ([2] ++ numB 1 4)))), (3, .val (.tup [.agg [I 0, I 0, .str .empty, .lst 4 []], .ff])), (7, .forget), (8, .forget)] [20, 21, 22] rfl
    ⟨does_lookup0 _ Try.underlying85 Try.underlying9 z33 rfl rfl rfl rfl (fun g H => ⟨_, rfl, rfl, rfl, rfl, ⟨none, 0, rfl, Nat.le_refl _, fun _ => ⟨rfl, rfl⟩, fun p hp => by cases hp⟩, trivial⟩), key_fn⟩ ?_
  refine run 400 rfl ?_
  refine at_if rfl (fun h => by cases h) (fun h => ?_)
  refine run 400 rfl ?_
  refine at_if rfl (fun h => ?_) (fun h => ?_)
  · refine run 400 rfl ?_
    exact at_ret rfl rfl canPre ⟨rfl, rfl⟩ ⟨rfl, rfl, rfl, trivial⟩
  · have h : ((rowsT []).length : Int) ≠ 0 := by simpa using h
    rw [rowsT_nil] at h
    exact absurd rfl h

set_option maxRecDepth 100000 in
theorem open0_fn : Contract Try.prog 63 0 [] [.tl 0 []] fun s post => s = .mp 0 ∧ post = [(0, .obj noMap)] := by
  refine contract_of ty_ok [1, 2, 3, 4, 5, 6] Try.func63 rfl (by decide) Try.ntmps63 rfl fun z => ?_
  refine run 400 rfl ?_
  refine at_mkmap 0 rfl ?_
  refine run 400 rfl ?_
  refine at_loop (fun _ : Unit => True) (fun _ => [(3, .ptr 1 0), (10, I 0), (11, I 0)]) (fun _ => [(0, .obj noMap), (1, .cells 85 [.mp 0])]) (fun _ => 0) [3, 4, 5, 6]
    () trivial ⟨SVle.refl _, SVle.refl _, SVle.refl _, trivial⟩ ⟨rfl, rfl, trivial⟩ ?_
  intro _ _
  refine run 400 rfl ?_
  refine at_ifd rfl (fun g => absurd g (by omega)) (fun g => ?_)
  refine run 400 rfl ?_
  exact at_ret rfl rfl [(0, .obj noMap)] ⟨rfl, rfl⟩ ⟨rfl, trivial⟩

def r3 (a b c : Nat) : Nat → Nat := fun k => bif Nat.beq k 0 then a else bif Nat.beq k 1 then b else c

set_option maxRecDepth 100000 in
theorem can0_fn : Gives Try.prog 31 [.tl 0 [], n1.sv] .ff := by
  refine contract_of ty_ok [0, 1, 2, 3, 4, 6] Try.func31 rfl (by decide) Try.ntmps31 rfl fun z => ?_
  refine run 400 rfl ?_
  refine at_mapF 5 open0_fn rfl ?_
  refine run 400 rfl ?_
  refine at_call (r3 1 2 5) can1_fn rfl rfl ⟨rfl, rfl, rfl, trivial⟩ ?_ ?_ ?_
  · rintro _ _ ⟨rfl, rfl⟩
    refine ⟨rfl, rfl, rfl, ?_⟩
    refine run 400 rfl ?_
    exact at_ret rfl rfl [] ⟨rfl, rfl, rfl⟩ trivial
  · intro i j hi hj e
    have key : ∀ i, (ownq canPre i).isSome = true → i = 0 ∨ i = 1 ∨ i = 2 := by
      intro i hi
      match i, hi with
      | 0, _ => exact .inl rfl
      | 1, _ => exact .inr (.inl rfl)
      | 2, _ => exact .inr (.inr rfl)
      | i + 3, hi => exact absurd hi (by show ¬ (false = true); simp)
    rcases key i hi with rfl | rfl | rfl <;> rcases key j hj with rfl | rfl | rfl <;> first | rfl | (exact absurd e (by decide))
  · intro k hk
    match k, hk with
    | 0, _ => rfl
    | 1, _ => rfl
    | 2, _ => rfl

theorem way0_fn : Gives Try.prog 27 [.tl 0 [], n1.sv] (.tup [.tl 0 [], .ff]) := by
  refine contract_of ty_ok [0, 1, 2, 3, 4, 5, 6, 7] Try.func27 rfl (by decide) Try.ntmps27 rfl fun z => ?_
  refine run 400 rfl ?_
  refine at_fn can0_fn rfl ?_
  refine run 400 rfl ?_
  exact at_ret rfl rfl [] ⟨rfl, rfl, rfl⟩ trivial
end Go.Proofs.Ytmnmhehddbemkaa
namespace Go.Proofs.Ytmnmhehddbemkaa
open Go Go.Eng

theorem z28 : (Try.prog.info? 28).bind (·.zero) = some (.int .i64 0) := by kernel_rfl

theorem runG_err (l : List Tm) : ∀ (ms : List Mv) (acc : List Tm), (runG l ms acc).2 ≠ 0 → (runG l ms acc).1 = []
  | [], acc, h => by simp [runG] at h
  | m :: ms, acc, h => by
    rw [runG] at h ⊢
    split
    · rfl
    · rename_i s hs
      rw [hs] at h
      dsimp only at h
      split
      · rename_i hn
        rw [if_pos hn] at h
        split
        · rename_i t hd
          rw [hd] at h
          exact runG_err l ms _ h
        · rfl
      · rfl
theorem runF_err (l : List Tm) (ms : List Mv) (h : (runF l ms).2 ≠ 0) : (runF l ms).1 = [] := by
  unfold runF at h ⊢
  split
  · rfl
  · rename_i h1
    rw [if_neg h1] at h
    exact runG_err l ms [] h

theorem run_fn (l : List Tm) (ms : List Mv) (hl : l.length ≤ 1000000) : Gives Try.prog 19 [.lst 4 (rowsT l), .lst 4 (rowsM ms)] (.tup [.lst 4 (rowsT (runF l ms).1), I (runF l ms).2]) := by
  have h58 := run58_fn l ms hl
  have herr := runF_err l ms
  generalize runF l ms = r at h58 herr
  obtain ⟨out, e⟩ := r
  dsimp only at h58 herr ⊢
  by_cases he : e = 0
  · subst he
    have h58 : Gives Try.prog 58 [.lst 4 (rowsT l), .lst 4 (rowsM ms)] (.tup [.lst 4 (rowsT out), .val .nilIface]) := h58
    refine contract_of ty_ok [0, 1, 2, 3, 4, 5, 6, 7] Try.func19 rfl (by decide) Try.ntmps19 rfl fun z => ?_
    refine run 400 rfl ?_
    refine at_fn h58 rfl ?_
    refine run 400 rfl ?_
    refine at_val (.tup [I 0, .ff]) (does_assert_nil ty_ok (I 0) z28 rfl rfl rfl (fun _ _ => rfl)) ?_
    refine run 400 rfl ?_
    exact at_ret rfl rfl [] ⟨rfl, rfl, rfl⟩ trivial
  · have hout := herr he
    subst hout
    simp only [errI, if_neg he] at h58
    have : Gives Try.prog 19 [.lst 4 (rowsT l), .lst 4 (rowsM ms)] (.tup [.tl 0 [], I e]) := by
      refine contract_of ty_ok [0, 1, 2, 3, 4, 5, 6, 7] Try.func19 rfl (by decide) Try.ntmps19 rfl fun z => ?_
      refine run 400 rfl ?_
      refine at_fn h58 rfl ?_
      refine run 400 rfl ?_
      refine at_val (.tup [I e, .tt]) (does_assert_yes ty_ok (I e) rfl rfl rfl (fun _ _ => rfl)) ?_
      refine run 400 rfl ?_
      exact at_ret rfl rfl [] ⟨rfl, rfl, rfl⟩ trivial
    exact this.le (SVle.tup ⟨SVle.nils, SVle.refl _, trivial⟩)

theorem toList_data (a : ByteArray) : a.toList = a.data.toList := by
  unfold ByteArray.toList
  rw [loop_eq a _ 0 [] rfl]
  simp
theorem seq_data (a b : ByteArray) : seq a b = (a.data.toList == b.data.toList) := by rw [seq, toList_data, toList_data]

abbrev aa : Tm := .mk 1 0 ⟨#[97]⟩ []
abbrev ha : Tm := .mk 3 0 .empty [aa]
theorem right_aa : rightF aa = true := by
  have e : seq aa.s .empty = false := by rw [seq_data]; rfl
  unfold rightF
  rw [e]
  rfl
theorem right_ha : rightF ha = true := by
  have e : seq ha.s .empty = true := seq_self _
  unfold rightF
  rw [e]
  rfl
theorem may_aa : mayF aa = true := by
  unfold mayF
  rw [mayT, right_aa]
  rfl
theorem may_ha : mayF ha = true := by
  unfold mayF
  rw [mayT, right_ha]
  simp only [mayL]
  rw [mayT, right_aa]
  rfl
abbrev mv1 : List Mv := [⟨2, 0, 0, ⟨#[97]⟩⟩, ⟨6, 0, 0, .empty⟩]
abbrev mv2 : List Mv := [⟨0, 0, 0, .empty⟩]
theorem run_mv1 : runF [] mv1 = ([aa, ha], 0) := by
  have d1 : doesF [] [] (.atom ⟨#[97]⟩) = (aa, true) := by show (aa, mayF aa) = _; rw [may_aa]
  have d2 : doesF [] [aa] (.one 3 0) = (ha, true) := by show (ha, mayF ha) = _; rw [may_ha]
  have r1 : readF ⟨2, 0, 0, ⟨#[97]⟩⟩ = some (.atom ⟨#[97]⟩) := rfl
  have r2 : readF ⟨6, 0, 0, .empty⟩ = some (.one 3 0) := rfl
  show runG [] mv1 [] = _
  rw [runG, r1]
  show (match doesF [] [] (.atom ⟨#[97]⟩) with | (t, true) => runG [] [⟨6, 0, 0, .empty⟩] ([] ++ [t]) | (_, false) => ([], 3)) = _
  rw [d1]
  show runG [] [⟨6, 0, 0, .empty⟩] [aa] = _
  rw [runG, r2]
  show (match doesF [] [aa] (.one 3 0) with | (t, true) => runG [] [] ([aa] ++ [t]) | (_, false) => ([], 3)) = _
  rw [d2]
  rfl
theorem run_mv2 : runF [] mv2 = ([], 2) := rfl

set_option maxRecDepth 100000 in
theorem known16_fn : Gives Try.prog 16 [] .tt := by
  have k1 := (run_fn [] mv1 (by simp)).weak (args' := [.tl 0 [], .tl 4 (rowsM mv1)]) ⟨SVle.nils, SVle.tl _ _, trivial⟩
  have k2 := (run_fn [] mv2 (by simp)).weak (args' := [.tl 0 [], .tl 4 (rowsM mv2)]) ⟨SVle.nils, SVle.tl _ _, trivial⟩
  rw [run_mv1] at k1
  rw [run_mv2] at k2
  dsimp only at k1 k2
  have kw : Gives Try.prog 27 [.tl 0 [], n1.sv] (.tup [.tl 0 [], .ff]) := way0_fn
  have kT : Gives Try.prog 35 [I 3, .tl 4 [tr aa]] ha.sv := (T_fn 3 [aa]).weak ⟨SVle.refl _, by rw [rowsT_cons, rowsT_nil]; exact SVle.tl _ _, trivial⟩
  have hsm : Sm ha := (mayF_gd may_ha).sm
  have hrows : rowsT [aa, ha] = [tr aa, tr ha] := by rw [rowsT_cons, rowsT_cons, rowsT_nil]
  refine contract_of ty_ok [0, 1, 2, 3, 4, 5, 6, 7] Try.func16 rfl (by decide) Try.ntmps16 rfl fun z => ?_
  refine run 400 rfl ?_
  refine at_gro (.tl 4 (rowsM mv1)) (doesG_build ty_ok _ rfl ⟨⟨rfl, rfl, _, rfl, SVles.refl _⟩, ⟨rfl, rfl, _, rfl, SVles.refl _⟩, trivial⟩ rfl rfl (by decide)) ?_
  refine run 400 rfl ?_
  refine at_fn k1 rfl ?_
  refine run 400 rfl ?_
  refine at_gro (.tl 4 (rowsM mv2)) (doesG_build ty_ok _ rfl ⟨⟨rfl, rfl, _, rfl, SVles.refl _⟩, trivial⟩ rfl rfl (by decide)) ?_
  refine run 400 rfl ?_
  refine at_fn k2 rfl ?_
  refine run 400 rfl ?_
  refine at_fn (N_fn 1) rfl ?_
  refine run 400 rfl ?_
  refine at_fn kw rfl ?_
  refine run 400 rfl ?_
  refine at_drawn 24 rfl rfl [(2, .yes), (7, .yes), (9, .val (.rp (tr ha) 0)), (11, .sv aa.sv), (12, .gro (.tl 4 [tr aa])), (13, .sv ha.sv), (14, .sv (.bl (same ha ha))), (16, .yes), (20, .yes)] [20, 21, 22] rfl
    ⟨rfl, same_iff.2 rfl, same_fn ha ha hsm, kT, doesG_build ty_ok _ rfl ⟨⟨rfl, rfl, _, rfl, SVles.refl _⟩, trivial⟩ rfl rfl (by decide), A_fn _, does_index ty_ok _ rfl rfl rfl (by omega) (show (rowsT [aa, ha])[(1 : Int).toNat]? = some (tr ha) by rw [hrows]; rfl) rfl, by rw [hrows]; rfl, rfl⟩ ?_
  refine run 400 rfl ?_
  exact at_ret rfl rfl [] ⟨rfl, rfl, rfl⟩ trivial
end Go.Proofs.Ytmnmhehddbemkaa
namespace Go.Proofs.Ytmnmhehddbemkaa
open Go Go.Eng

theorem genT_gd (ns : List Int) : ∀ (d : Nat) (j : Int), 0 ≤ j ∧ j ≤ ns.length → Gd (genT ns d j).1 ∧ szT (genT ns d j).1 < 2 ^ (d + 1) := by
  have hA : ∀ j : Int, Gd (leafA ns j).1 ∧ szT (leafA ns j).1 = 1 := fun j => ⟨.mk rfl (by simp), by simp [leafA, szT, szL]⟩
  have hN : ∀ j : Int, Gd (leafN ns j).1 ∧ szT (leafN ns j).1 = 1 := fun j => ⟨.mk rfl (by simp), by simp [leafN, szT, szL]⟩
  intro d
  induction d with
  | zero =>
    intro j h
    simp only [genT]
    split
    · exact ⟨(hA _).1, by rw [(hA _).2]; decide⟩
    · exact ⟨(hN _).1, by rw [(hN _).2]; decide⟩
  | succ d ih =>
    intro j h
    have hx := nextF_le (l := ns) (j := j) (n := 10) h
    have h2 : 2 ^ (d + 1 + 1) = 2 ^ (d + 1) + 2 ^ (d + 1) := by rw [Nat.pow_succ]; omega
    have h1 : 1 < 2 ^ (d + 1) := Nat.one_lt_two_pow (by omega)
    simp only [genT]
    split
    · exact ⟨(hA _).1, by rw [(hA _).2]; omega⟩
    · split
      · exact ⟨(hN _).1, by rw [(hN _).2]; omega⟩
      · obtain ⟨u1, u2⟩ := ih _ hx.2.2
        have hu3 := genT_le ns d _ hx.2.2
        split
        · refine ⟨.mk ?_ (by intro t ht; simp at ht; rw [ht]; exact u1), by simp only [szT, szL]; omega⟩
          have : 3 + (nextF ns j 10).1 - 5 = 3 ∨ 3 + (nextF ns j 10).1 - 5 = 4 := by omega
          rcases this with e | e <;> rw [e] <;> rfl
        · obtain ⟨v1, v2⟩ := ih _ hu3
          refine ⟨.mk ?_ (by intro t ht; simp at ht; rcases ht with rfl | rfl; exact u1; exact v1), by simp only [szT, szL]; omega⟩
          have : 5 + (nextF ns j 10).1 - 7 = 5 ∨ 5 + (nextF ns j 10).1 - 7 = 6 ∨ 5 + (nextF ns j 10).1 - 7 = 7 := by omega
          rcases this with e | e | e <;> rw [e] <;> rfl

theorem genL_gd (ns : List Int) : ∀ (n : Nat) (j : Int), 0 ≤ j ∧ j ≤ ns.length → (∀ t ∈ genL ns n j, Gd t) ∧ szL (genL ns n j) ≤ n * 16
  | 0, _, _ => ⟨by simp [genL], by simp [genL, szL]⟩
  | n + 1, j, h => by
    obtain ⟨h1, h2⟩ := genT_gd ns 3 j h
    obtain ⟨h3, h4⟩ := genL_gd ns n (genT ns 3 j).2 (genT_le ns 3 j h)
    rw [genL]
    split
    · refine ⟨fun t ht => ?_, by rw [szL]; omega⟩
      rcases List.mem_cons.1 ht with rfl | ht
      · exact h1
      · exact h3 t ht
    · exact ⟨by simp, by rw [szL]; omega⟩

theorem runG_len (l : List Tm) : ∀ (ms : List Mv) (acc : List Tm), (runG l ms acc).2 = 0 → (runG l ms acc).1.length = acc.length + ms.length
  | [], acc, _ => by simp [runG]
  | m :: ms, acc, h => by
    rw [runG] at h ⊢
    split
    · rename_i hs
      rw [hs] at h
      cases h
    · rename_i s hs
      rw [hs] at h
      dsimp only at h
      split
      · rename_i hn
        rw [if_pos hn] at h
        split
        · rename_i t hd
          rw [hd] at h
          rw [runG_len l ms _ h]
          simp
          omega
        · rename_i t hd
          rw [hd] at h
          cases h
      · rename_i hn
        rw [if_neg hn] at h
        cases h

theorem madeL_iff {O : List Tm} : ∀ l : List Tm, madeL O l = true ↔ ∀ t ∈ l, madeT O t = true
  | [] => by simp [madeL]
  | t :: l => by rw [madeL, Bool.and_eq_true, madeL_iff l]; simp
theorem made_of_mem {O : List Tm} {t : Tm} (h : t ∈ O) : madeT O t = true := by
  cases t
  rw [madeT, among_iff.2 h]
  simp
theorem made_kids {O : List Tm} (hO : Closed O) {k n : Int} {s : ByteArray} {l : List Tm} (h : madeT O (.mk k n s l) = true) (hk : k = 7 ∨ k = 6) : ∀ t ∈ parts (.mk k n s l), madeT O t = true := by
  intro t ht
  rw [madeT] at h
  have h1 : (k == 1) = false := by rcases hk with rfl | rfl <;> rfl
  rw [h1, Bool.false_or, Bool.or_eq_true] at h
  rcases h with h | h
  · exact made_of_mem (hO _ (among_iff.1 h) t ht)
  · rw [Bool.and_eq_true] at h
    refine (madeL_iff l).1 h.2 t ?_
    rw [parts] at ht
    split at ht
    · exact ht
    · split at ht
      · exact List.mem_of_mem_drop ht
      · cases ht

/-- A step that a move is. -/
def goodS : St → Prop
  | .half _ k d => k = 7 ∧ 0 ≤ d ∨ k = 6 ∧ 1 ≤ d
  | .one k _ => k ≠ 2
  | .two k _ _ => k ≠ 2
  | _ => True
theorem read_good {m : Mv} {s : St} (h : readF m = some s) : goodS s := by
  unfold readF at h
  repeat' split at h
  all_goals (first | (cases h; trivial) | (cases h; show _ ∨ _; decide) | (cases h; show _ ≠ _; decide) | cases h)

theorem does_made {l acc : List Tm} {O : List Tm} {s : St} {t : Tm} (hO : Closed O) (hl : ∀ x ∈ l, x ∈ O) (ha : ∀ x ∈ acc, madeT O x = true) (hs : goodS s) (hn : nearF s acc.length l.length = true) (h : doesF l acc s = (t, true)) : madeT O t = true := by
  have hmem : ∀ (m : List Tm) (n : Int), inF n m.length = true → m.getD n.toNat .zero ∈ m := fun m n h => getD_mem (by have := inF_lt h; omega)
  unfold doesF at h
  cases s with
  | given n =>
    simp only [stepT, Prod.mk.injEq] at h
    rw [← h.1]
    exact made_of_mem (hl _ (hmem l n hn))
  | atom b =>
    simp only [stepT, Prod.mk.injEq] at h
    rw [← h.1, madeT]
    simp
  | half a k d =>
    simp only [stepT] at h
    split at h
    · cases h
    · rename_i u hu
      split at hu
      · rename_i hc
        simp only [Option.some.injEq] at hu
        have hf := ha _ (hmem acc a hn)
        generalize acc.getD a.toNat .zero = f at hu hc hf
        obtain ⟨fk, fn, fs, fl⟩ := f
        simp only [Prod.mk.injEq] at h
        rw [← h.1, ← hu]
        have hfk : fk = k := hc.1
        subst hfk
        have hd : d < fl.length := hc.2
        refine made_kids hO hf (hs.elim (fun h => .inl h.1) (fun h => .inr h.1)) _ ?_
        rw [parts]
        rcases hs with ⟨rfl, h0⟩ | ⟨rfl, h0⟩
        · rw [if_pos rfl]
          exact getD_mem (by omega)
        · rw [if_neg (by omega), if_pos rfl]
          have e : fl.getD d.toNat .zero = (fl.drop 1).getD (d.toNat - 1) .zero := by
            rw [List.getD_eq_getElem?_getD, List.getD_eq_getElem?_getD, List.getElem?_drop, show 1 + (d.toNat - 1) = d.toNat by omega]
          show fl.getD d.toNat .zero ∈ _
          rw [e]
          exact getD_mem (by simp; omega)
      · cases hu
  | one k a =>
    simp only [stepT, Prod.mk.injEq] at h
    have hk : (k == 2) = false := by simpa using (show k ≠ 2 from hs)
    rw [← h.1, madeT, hk, madeL, madeL, ha _ (hmem acc a hn)]
    simp
  | two k a b =>
    simp only [stepT, Prod.mk.injEq] at h
    rw [nearF, Bool.and_eq_true] at hn
    have hk : (k == 2) = false := by simpa using (show k ≠ 2 from hs)
    rw [← h.1, madeT, hk, madeL, madeL, madeL, ha _ (hmem acc a hn.1), ha _ (hmem acc b hn.2)]
    simp

theorem runG_made {l : List Tm} {O : List Tm} (hO : Closed O) (hl : ∀ x ∈ l, x ∈ O) : ∀ (ms : List Mv) (acc : List Tm), (∀ x ∈ acc, madeT O x = true) → ∀ x ∈ (runG l ms acc).1, madeT O x = true
  | [], acc, ha => by simpa [runG] using ha
  | m :: ms, acc, ha => by
    rw [runG]
    split
    · simp
    · rename_i s hs
      split
      · rename_i hn
        split
        · rename_i t hd
          exact runG_made hO hl ms _ fun x hx => (List.mem_append.1 hx).elim (ha x) fun h => by
            simp at h
            rw [h]
            exact does_made hO hl ha (read_good hs) hn hd
        · simp
      · simp
theorem runF_made {l : List Tm} (hg : ∀ t ∈ l, Gd t) (ms : List Mv) : ∀ x ∈ (runF l ms).1, madeT (openF l) x = true := by
  have hO := openF_P hg
  unfold runF
  split
  · simp
  · exact runG_made hO.closed hO.has ms [] (by simp)
theorem runF_len (l : List Tm) (ms : List Mv) (h : (runF l ms).2 = 0) : (runF l ms).1.length = ms.length := by
  unfold runF at h ⊢
  split
  · rename_i h1; rw [if_pos h1] at h; cases h
  · rename_i h1
    rw [if_neg h1] at h
    simpa using runG_len l ms [] h
theorem runG_sm {l : List Tm} : ∀ (ms : List Mv) (acc : List Tm), (∀ x ∈ acc, Sm x) → ∀ x ∈ (runG l ms acc).1, Sm x
  | [], acc, ha => by simpa [runG] using ha
  | m :: ms, acc, ha => by
    rw [runG]
    split
    · simp
    · split
      · split
        · rename_i s _ _ _ t hd
          exact runG_sm ms _ fun x hx => (List.mem_append.1 hx).elim (ha x) fun h => by
            simp at h
            rw [h]
            unfold doesF at hd
            split at hd
            · cases hd
            · simp only [Prod.mk.injEq] at hd
              rw [← hd.1]
              exact (mayF_gd hd.2).sm
        · simp
      · simp
theorem runF_sm (l : List Tm) (ms : List Mv) : ∀ x ∈ (runF l ms).1, Sm x := by
  unfold runF
  split
  · simp
  · exact runG_sm ms [] (by simp)

set_option maxRecDepth 100000 in
theorem proofSound_fn (ns mn : List Int) (h1 : ns.length ≤ 9223372036854775807) (h2 : mn.length ≤ 9223372036854775807) : Gives Try.prog 3 [.lst 1 (ints ns), .lst 1 (ints mn)] .tt := by
  have hT := terms_fn ns 8 h1 (by omega)
  have hM := moves_fn mn 40 h2 (by omega)
  have hgl := genL_gd ns 8 0 (by omega)
  have hml := genM_len mn 40 0 0
  generalize genL ns 8 0 = l at hT hgl
  generalize genM mn 40 0 0 = ms at hM hml
  have hlen := szL_len l
  refine contract_of ty_ok [0, 1, 2, 3, 4, 5, 6, 7] Try.func3 rfl (by decide) Try.ntmps3 rfl fun z => ?_
  refine run 400 rfl ?_
  refine at_fn known16_fn rfl ?_
  refine run 400 rfl ?_
  refine at_fn hT rfl ?_
  refine run 400 rfl ?_
  refine at_fn hM rfl ?_
  refine run 400 rfl ?_
  refine at_loop (fun m : List Mv => m.length ≤ 40) (fun m => [(5, .lst 4 (rowsT l)), (6, .lst 4 (rowsM m))]) (fun _ => []) (fun m => m.length) [0, 1, 2, 3, 4, 5, 6, 7]
    ms hml ⟨SVle.refl _, SVle.refl _, trivial⟩ trivial ?_
  intro m hm
  have hmlen : (rowsM m).length = m.length := by simp
  refine run 400 rfl ?_
  refine at_ifd rfl (fun g => ?_) (fun g => ?_)
  rotate_left
  · refine run 400 rfl ?_
    exact at_ret rfl rfl [] ⟨rfl, rfl, rfl⟩ trivial
  rw [hmlen] at g
  refine run 400 rfl ?_
  have hR := run_fn l m (by omega)
  have hmade := runF_made hgl.1 m
  have hrl := runF_len l m
  have hsm := runF_sm l m
  generalize runF l m = R at hR hmade hrl hsm
  obtain ⟨out, e⟩ := R
  dsimp only at hR hmade hrl hsm
  have hol : (rowsT out).length = out.length := rowsT_len out
  refine at_fn hR rfl ?_
  refine run 400 rfl ?_
  refine at_if rfl (fun q => ?_) (fun q => ?_)
  · have q : e = 0 := by simpa using q
    have hrl := hrl q
    refine run 400 rfl ?_
    refine at_loop (fun i : Nat => i ≤ out.length) (fun i => [(5, .lst 4 (rowsT l)), (6, .lst 4 (rowsM m)), (7, .lst 4 (rowsT out)), (9, I i)]) (fun _ => []) (fun i => out.length - i) [0, 1, 2, 3, 4, 5, 6, 7]
      0 (by omega) ⟨SVle.refl _, SVle.refl _, SVle.refl _, SVle.refl _, trivial⟩ trivial ?_
    intro i hi
    refine run 400 rfl ?_
    refine at_ifd rfl (fun c => ?_) (fun c => ?_)
    rotate_left
    · refine run 400 rfl ?_
      refine at_true 4 rfl (by rw [hol, hmlen, hrl]; exact beq_self_eq_true _) ?_
      exact at_ret rfl rfl [] ⟨rfl, rfl, rfl⟩ trivial
    rw [hol] at c
    have hlt : i < out.length := by omega
    have hget := rowsT_get hlt
    have hmem := getD_mem hlt
    generalize out.getD i .zero = u at hget hmem
    refine run 400 rfl ?_
    refine at_val (.rp (tr u) 0) (does_index ty_ok _ rfl rfl rfl (by omega) (show (rowsT out)[(i : Int).toNat]? = some (tr u) from hget) rfl) ?_
    refine run 400 rfl ?_
    refine at_fn (can_fn l u hgl.1 (by omega) (hsm u hmem)) rfl ?_
    refine run 400 rfl ?_
    refine at_false 39 rfl (by rw [hmade u hmem]; rfl) ?_
    refine run 400 rfl ?_
    exact at_again (i + 1) (by omega) (by omega) ⟨SVle.refl _, SVle.refl _, SVle.refl _, SVle.of_eq (by show I ((i : Int) + 1) = I ((i + 1 : Nat) : Int); rw [Int.natCast_add]; rfl), trivial⟩ trivial
  · refine run 400 rfl ?_
    refine at_val (.lst 4 ((rowsM m).take (((rowsM m).length : Int) - 1).toNat)) (does_slice_h ty_ok rfl rfl rfl (by omega) rfl) ?_
    refine run 400 rfl ?_
    exact at_again (m.take (m.length - 1)) (by simp; omega) (by simp; omega) ⟨SVle.refl _, SVle.of_eq (by show SV.lst 4 ((rowsM m).take (((rowsM m).length : Int) - 1).toNat) = SV.lst 4 (rowsM (m.take (m.length - 1))); rw [hmlen, show (((m.length : Nat) : Int) - 1).toNat = m.length - 1 by omega]; simp only [rowsM, List.map_take]), trivial⟩ trivial
end Go.Proofs.Ytmnmhehddbemkaa
namespace Go.Proofs.Ytmnmhehddbemkaa
open Go Go.Eng

theorem ok_int {n : Nat} {ds : List DV} (h : okT Try.prog n 3 ds) : ∃ m, ds = [.int .i64 m] := by
  cases n with
  | zero => exact h.elim
  | succ n =>
    simp only [okT, Try.underlying3] at h
    obtain ⟨m, rfl, _⟩ := h
    exact ⟨m, rfl⟩
theorem cells3 : Try.prog.cellsOf 3 = 1 := by kernel_rfl
theorem rows_of {X : Type} {f : X → List DV} {Q : List DV → Prop} (hQ : ∀ r, Q r → ∃ x, r = f x) : ∀ rows : List (List DV), (∀ r ∈ rows, Q r) → ∃ l : List X, rows = l.map f
  | [], _ => ⟨[], rfl⟩
  | r :: rows, h => by
    obtain ⟨x, rfl⟩ := hQ r (h r (by simp))
    obtain ⟨l, rfl⟩ := rows_of hQ rows fun r hr => h r (by simp [hr])
    exact ⟨x :: l, rfl⟩
theorem ok_ints {n : Nat} {ds : List DV} (h : okT Try.prog n 22 ds) : ∃ l, ds = [.lst 1 (ints l)] ∧ l.length ≤ maxLen := by
  cases n with
  | zero => exact h.elim
  | succ n =>
    simp only [okT, Try.underlying22, cells3] at h
    obtain ⟨rows, rfl, hm, hr⟩ := h
    obtain ⟨l, rfl⟩ := rows_of (f := fun n => [.int .i64 n]) (fun r hr => ok_int hr) rows fun r h => (hr r h).2
    exact ⟨l, rfl, by simpa using hm⟩
end Go.Proofs.Ytmnmhehddbemkaa
namespace Go.Proofs.Ytmnmhehddbemkaa
open Go Go.Eng
set_option maxRecDepth 100000

theorem ok_str {n : Nat} {ds : List DV} (h : okT Try.prog n 9 ds) : ∃ m, ds = [.str m] := by
  cases n with
  | zero => exact h.elim
  | succ n =>
    simp only [okT, Try.underlying9] at h
    obtain ⟨m, rfl, _⟩ := h
    exact ⟨m, rfl⟩
theorem cells9 : Try.prog.cellsOf 9 = 1 := by kernel_rfl
theorem cells37 : Try.prog.cellsOf 37 = 4 := by kernel_rfl
theorem ok_move {n : Nat} {r : List DV} (h : okT Try.prog n 37 r) : ∃ m : Mv, r = mr m := by
  cases n with
  | zero => exact h.elim
  | succ n =>
    simp only [okT, Try.underlying37, cells37] at h
    obtain ⟨hl, h⟩ := h
    obtain ⟨a, b, c, d, rfl⟩ : ∃ a b c d, r = [a, b, c, d] := by
      match r, hl with
      | [a, b, c, d], _ => exact ⟨a, b, c, d, rfl⟩
    have h0 := h 0 _ rfl
    have h1 := h 1 _ rfl
    have h2 := h 2 _ rfl
    have h3 := h 3 _ rfl
    simp [cells3, cells9] at h0 h1 h2 h3
    obtain ⟨x0, e0⟩ := ok_int h0
    obtain ⟨x1, e1⟩ := ok_int h1
    obtain ⟨x2, e2⟩ := ok_int h2
    obtain ⟨x3, e3⟩ := ok_str h3
    simp only [List.cons.injEq, and_true] at e0 e1 e2 e3
    exact ⟨⟨x0, x1, x2, x3⟩, by rw [e0, e1, e2, e3]⟩
theorem ok_moves {n : Nat} {ds : List DV} (h : okT Try.prog n 26 ds) : ∃ l : List Mv, ds = [.lst 4 (rowsM l)] ∧ l.length ≤ maxLen := by
  cases n with
  | zero => exact h.elim
  | succ n =>
    simp only [okT, Try.underlying26, cells37] at h
    obtain ⟨rows, rfl, hm, hr⟩ := h
    obtain ⟨l, rfl⟩ := rows_of (f := mr) (fun r hr => ok_move hr) rows fun r h => (hr r h).2
    exact ⟨l, rfl, by simpa using hm⟩
end Go.Proofs.Ytmnmhehddbemkaa
namespace Go.Proofs.Ytmnmhehddbemkaa
open Go Go.Eng


set_option maxRecDepth 100000 in
theorem walk_f0 (t : Tm) (d left : Int) (h1 : decide (left < 1) = true) : Gives Try.prog 69 [t.sv, I d, I left] (I (-1)) := by
  refine contract_of ty_ok [0, 1, 2, 3, 4, 5, 6, 7] Try.func69 rfl (by decide) Try.ntmps69 rfl fun z => ?_
  refine run 400 rfl ?_
  refine at_drawn 51 rfl rfl [(2, .yes)] [20, 21, 22] rfl h1 ?_
  refine run 400 rfl ?_
  exact at_ret rfl rfl [] ⟨rfl, rfl, rfl⟩ trivial

set_option maxRecDepth 100000 in
theorem walk_f1 (t : Tm) (d left : Int) (h1 : decide (left < 1) = false) (h2 : decide (16 < d) = true) : Gives Try.prog 69 [t.sv, I d, I left] (I (-1)) := by
  refine contract_of ty_ok [0, 1, 2, 3, 4, 5, 6, 7] Try.func69 rfl (by decide) Try.ntmps69 rfl fun z => ?_
  refine run 400 rfl ?_
  refine at_drawn 51 rfl rfl [(2, .no), (6, .yes)] [20, 21, 22] rfl ⟨h2, h1⟩ ?_
  refine run 400 rfl ?_
  exact at_ret rfl rfl [] ⟨rfl, rfl, rfl⟩ trivial

set_option maxRecDepth 100000 in
theorem walk_f2 (t : Tm) (d left : Int) (h1 : decide (left < 1) = false) (h2 : decide (16 < d) = false) (h3 : (!(kidsF t.k == ((rowsT t.kids).length : Int))) = true) : Gives Try.prog 69 [t.sv, I d, I left] (I (-1)) := by
  refine contract_of ty_ok [0, 1, 2, 3, 4, 5, 6, 7] Try.func69 rfl (by decide) Try.ntmps69 rfl fun z => ?_
  refine run 400 rfl ?_
  refine at_drawn 51 rfl rfl [(2, .no), (6, .no), (9, .sv (I (kidsF t.k))), (15, .yes)] [20, 21, 22] rfl ⟨h3, kids94_fn _, h2, h1⟩ ?_
  refine run 400 rfl ?_
  exact at_ret rfl rfl [] ⟨rfl, rfl, rfl⟩ trivial

set_option maxRecDepth 100000 in
theorem walk_f3 (t : Tm) (d left : Int) (h1 : decide (left < 1) = false) (h2 : decide (16 < d) = false) (h3 : (!(kidsF t.k == ((rowsT t.kids).length : Int))) = false) (h4 : (!(t.k == 1)) = true) (h5 : (!(seq t.s .empty)) = true) : Gives Try.prog 69 [t.sv, I d, I left] (I (-1)) := by
  refine contract_of ty_ok [0, 1, 2, 3, 4, 5, 6, 7] Try.func69 rfl (by decide) Try.ntmps69 rfl fun z => ?_
  refine run 400 rfl ?_
  refine at_drawn 51 rfl rfl [(2, .no), (6, .no), (9, .sv (I (kidsF t.k))), (15, .no), (19, .yes), (25, .yes)] [20, 21, 22] rfl ⟨h5, h4, h3, kids94_fn _, h2, h1⟩ ?_
  refine run 400 rfl ?_
  exact at_ret rfl rfl [] ⟨rfl, rfl, rfl⟩ trivial

set_option maxRecDepth 100000 in
theorem walk_f4 (t : Tm) (d left : Int) (h1 : decide (left < 1) = false) (h2 : decide (16 < d) = false) (h3 : (!(kidsF t.k == ((rowsT t.kids).length : Int))) = false) (h4 : (!(t.k == 1)) = true) (h5 : (!(seq t.s .empty)) = false) (h6 : decide (1024 < (t.s.size : Int)) = true) : Gives Try.prog 69 [t.sv, I d, I left] (I (-1)) := by
  refine contract_of ty_ok [0, 1, 2, 3, 4, 5, 6, 7] Try.func69 rfl (by decide) Try.ntmps69 rfl fun z => ?_
  refine run 400 rfl ?_
  refine at_drawn 51 rfl rfl [(2, .no), (6, .no), (9, .sv (I (kidsF t.k))), (15, .no), (19, .yes), (25, .no), (31, .yes)] [20, 21, 22] rfl ⟨h6, h5, h4, h3, kids94_fn _, h2, h1⟩ ?_
  refine run 400 rfl ?_
  exact at_ret rfl rfl [] ⟨rfl, rfl, rfl⟩ trivial

set_option maxRecDepth 100000 in
theorem walk_f5 (t : Tm) (d left : Int) (h1 : decide (left < 1) = false) (h2 : decide (16 < d) = false) (h3 : (!(kidsF t.k == ((rowsT t.kids).length : Int))) = false) (h4 : (!(t.k == 1)) = true) (h5 : (!(seq t.s .empty)) = false) (h6 : decide (1024 < (t.s.size : Int)) = false) (h7 : (!(t.k == 2)) = true) (h8 : (!(t.n == 0)) = true) : Gives Try.prog 69 [t.sv, I d, I left] (I (-1)) := by
  refine contract_of ty_ok [0, 1, 2, 3, 4, 5, 6, 7] Try.func69 rfl (by decide) Try.ntmps69 rfl fun z => ?_
  refine run 400 rfl ?_
  refine at_drawn 51 rfl rfl [(2, .no), (6, .no), (9, .sv (I (kidsF t.k))), (15, .no), (19, .yes), (25, .no), (31, .no), (35, .yes), (41, .yes)] [20, 21, 22] rfl ⟨h8, h7, h6, h5, h4, h3, kids94_fn _, h2, h1⟩ ?_
  refine run 400 rfl ?_
  exact at_ret rfl rfl [] ⟨rfl, rfl, rfl⟩ trivial

set_option maxRecDepth 100000 in
theorem walk_f6 (t : Tm) (d left : Int) (h1 : decide (left < 1) = false) (h2 : decide (16 < d) = false) (h3 : (!(kidsF t.k == ((rowsT t.kids).length : Int))) = false) (h4 : (!(t.k == 1)) = true) (h5 : (!(seq t.s .empty)) = false) (h6 : decide (1024 < (t.s.size : Int)) = false) (h7 : (!(t.k == 2)) = true) (h8 : (!(t.n == 0)) = false) (h9 : decide (t.n < 0) = true) : Gives Try.prog 69 [t.sv, I d, I left] (I (-1)) := by
  refine contract_of ty_ok [0, 1, 2, 3, 4, 5, 6, 7] Try.func69 rfl (by decide) Try.ntmps69 rfl fun z => ?_
  refine run 400 rfl ?_
  refine at_drawn 51 rfl rfl [(2, .no), (6, .no), (9, .sv (I (kidsF t.k))), (15, .no), (19, .yes), (25, .no), (31, .no), (35, .yes), (41, .no), (46, .yes)] [20, 21, 22] rfl ⟨h9, h8, h7, h6, h5, h4, h3, kids94_fn _, h2, h1⟩ ?_
  refine run 400 rfl ?_
  exact at_ret rfl rfl [] ⟨rfl, rfl, rfl⟩ trivial

set_option maxRecDepth 100000 in
theorem walk_f7 (t : Tm) (d left : Int) (h1 : decide (left < 1) = false) (h2 : decide (16 < d) = false) (h3 : (!(kidsF t.k == ((rowsT t.kids).length : Int))) = false) (h4 : (!(t.k == 1)) = true) (h5 : (!(seq t.s .empty)) = false) (h6 : decide (1024 < (t.s.size : Int)) = false) (h7 : (!(t.k == 2)) = true) (h8 : (!(t.n == 0)) = false) (h9 : decide (t.n < 0) = false) (h10 : decide (1073741824 < t.n) = true) : Gives Try.prog 69 [t.sv, I d, I left] (I (-1)) := by
  refine contract_of ty_ok [0, 1, 2, 3, 4, 5, 6, 7] Try.func69 rfl (by decide) Try.ntmps69 rfl fun z => ?_
  refine run 400 rfl ?_
  refine at_drawn 51 rfl rfl [(2, .no), (6, .no), (9, .sv (I (kidsF t.k))), (15, .no), (19, .yes), (25, .no), (31, .no), (35, .yes), (41, .no), (46, .no)] [20, 21, 22] rfl ⟨h9, h8, h7, h6, h5, h4, h3, kids94_fn _, h2, h1⟩ ?_
  refine run 400 rfl ?_
  refine at_ifd rfl (fun g => ?_) (fun g => ?_)
  · refine run 400 rfl ?_
    exact at_ret rfl rfl [] ⟨rfl, rfl, rfl⟩ trivial
  · exact absurd h10 (by rw [decide_eq_true_eq]; exact g)

set_option maxRecDepth 100000 in
theorem walk_f8 (t : Tm) (d left : Int) (h1 : decide (left < 1) = false) (h2 : decide (16 < d) = false) (h3 : (!(kidsF t.k == ((rowsT t.kids).length : Int))) = false) (h4 : (!(t.k == 1)) = true) (h5 : (!(seq t.s .empty)) = false) (h6 : decide (1024 < (t.s.size : Int)) = false) (h7 : (!(t.k == 2)) = false) (h9 : decide (t.n < 0) = true) : Gives Try.prog 69 [t.sv, I d, I left] (I (-1)) := by
  refine contract_of ty_ok [0, 1, 2, 3, 4, 5, 6, 7] Try.func69 rfl (by decide) Try.ntmps69 rfl fun z => ?_
  refine run 400 rfl ?_
  refine at_drawn 51 rfl rfl [(2, .no), (6, .no), (9, .sv (I (kidsF t.k))), (15, .no), (19, .yes), (25, .no), (31, .no), (35, .no), (46, .yes)] [20, 21, 22] rfl ⟨h9, h7, h6, h5, h4, h3, kids94_fn _, h2, h1⟩ ?_
  refine run 400 rfl ?_
  exact at_ret rfl rfl [] ⟨rfl, rfl, rfl⟩ trivial

set_option maxRecDepth 100000 in
theorem walk_f9 (t : Tm) (d left : Int) (h1 : decide (left < 1) = false) (h2 : decide (16 < d) = false) (h3 : (!(kidsF t.k == ((rowsT t.kids).length : Int))) = false) (h4 : (!(t.k == 1)) = true) (h5 : (!(seq t.s .empty)) = false) (h6 : decide (1024 < (t.s.size : Int)) = false) (h7 : (!(t.k == 2)) = false) (h9 : decide (t.n < 0) = false) (h10 : decide (1073741824 < t.n) = true) : Gives Try.prog 69 [t.sv, I d, I left] (I (-1)) := by
  refine contract_of ty_ok [0, 1, 2, 3, 4, 5, 6, 7] Try.func69 rfl (by decide) Try.ntmps69 rfl fun z => ?_
  refine run 400 rfl ?_
  refine at_drawn 51 rfl rfl [(2, .no), (6, .no), (9, .sv (I (kidsF t.k))), (15, .no), (19, .yes), (25, .no), (31, .no), (35, .no), (46, .no)] [20, 21, 22] rfl ⟨h9, h7, h6, h5, h4, h3, kids94_fn _, h2, h1⟩ ?_
  refine run 400 rfl ?_
  refine at_ifd rfl (fun g => ?_) (fun g => ?_)
  · refine run 400 rfl ?_
    exact at_ret rfl rfl [] ⟨rfl, rfl, rfl⟩ trivial
  · exact absurd h10 (by rw [decide_eq_true_eq]; exact g)

set_option maxRecDepth 100000 in
theorem walk_f10 (t : Tm) (d left : Int) (h1 : decide (left < 1) = false) (h2 : decide (16 < d) = false) (h3 : (!(kidsF t.k == ((rowsT t.kids).length : Int))) = false) (h4 : (!(t.k == 1)) = false) (h6 : decide (1024 < (t.s.size : Int)) = true) : Gives Try.prog 69 [t.sv, I d, I left] (I (-1)) := by
  refine contract_of ty_ok [0, 1, 2, 3, 4, 5, 6, 7] Try.func69 rfl (by decide) Try.ntmps69 rfl fun z => ?_
  refine run 400 rfl ?_
  refine at_drawn 51 rfl rfl [(2, .no), (6, .no), (9, .sv (I (kidsF t.k))), (15, .no), (19, .no), (31, .yes)] [20, 21, 22] rfl ⟨h6, h4, h3, kids94_fn _, h2, h1⟩ ?_
  refine run 400 rfl ?_
  exact at_ret rfl rfl [] ⟨rfl, rfl, rfl⟩ trivial

set_option maxRecDepth 100000 in
theorem walk_f11 (t : Tm) (d left : Int) (h1 : decide (left < 1) = false) (h2 : decide (16 < d) = false) (h3 : (!(kidsF t.k == ((rowsT t.kids).length : Int))) = false) (h4 : (!(t.k == 1)) = false) (h6 : decide (1024 < (t.s.size : Int)) = false) (h7 : (!(t.k == 2)) = true) (h8 : (!(t.n == 0)) = true) : Gives Try.prog 69 [t.sv, I d, I left] (I (-1)) := by
  refine contract_of ty_ok [0, 1, 2, 3, 4, 5, 6, 7] Try.func69 rfl (by decide) Try.ntmps69 rfl fun z => ?_
  refine run 400 rfl ?_
  refine at_drawn 51 rfl rfl [(2, .no), (6, .no), (9, .sv (I (kidsF t.k))), (15, .no), (19, .no), (31, .no), (35, .yes), (41, .yes)] [20, 21, 22] rfl ⟨h8, h7, h6, h4, h3, kids94_fn _, h2, h1⟩ ?_
  refine run 400 rfl ?_
  exact at_ret rfl rfl [] ⟨rfl, rfl, rfl⟩ trivial

set_option maxRecDepth 100000 in
theorem walk_f12 (t : Tm) (d left : Int) (h1 : decide (left < 1) = false) (h2 : decide (16 < d) = false) (h3 : (!(kidsF t.k == ((rowsT t.kids).length : Int))) = false) (h4 : (!(t.k == 1)) = false) (h6 : decide (1024 < (t.s.size : Int)) = false) (h7 : (!(t.k == 2)) = true) (h8 : (!(t.n == 0)) = false) (h9 : decide (t.n < 0) = true) : Gives Try.prog 69 [t.sv, I d, I left] (I (-1)) := by
  refine contract_of ty_ok [0, 1, 2, 3, 4, 5, 6, 7] Try.func69 rfl (by decide) Try.ntmps69 rfl fun z => ?_
  refine run 400 rfl ?_
  refine at_drawn 51 rfl rfl [(2, .no), (6, .no), (9, .sv (I (kidsF t.k))), (15, .no), (19, .no), (31, .no), (35, .yes), (41, .no), (46, .yes)] [20, 21, 22] rfl ⟨h9, h8, h7, h6, h4, h3, kids94_fn _, h2, h1⟩ ?_
  refine run 400 rfl ?_
  exact at_ret rfl rfl [] ⟨rfl, rfl, rfl⟩ trivial

set_option maxRecDepth 100000 in
theorem walk_f13 (t : Tm) (d left : Int) (h1 : decide (left < 1) = false) (h2 : decide (16 < d) = false) (h3 : (!(kidsF t.k == ((rowsT t.kids).length : Int))) = false) (h4 : (!(t.k == 1)) = false) (h6 : decide (1024 < (t.s.size : Int)) = false) (h7 : (!(t.k == 2)) = true) (h8 : (!(t.n == 0)) = false) (h9 : decide (t.n < 0) = false) (h10 : decide (1073741824 < t.n) = true) : Gives Try.prog 69 [t.sv, I d, I left] (I (-1)) := by
  refine contract_of ty_ok [0, 1, 2, 3, 4, 5, 6, 7] Try.func69 rfl (by decide) Try.ntmps69 rfl fun z => ?_
  refine run 400 rfl ?_
  refine at_drawn 51 rfl rfl [(2, .no), (6, .no), (9, .sv (I (kidsF t.k))), (15, .no), (19, .no), (31, .no), (35, .yes), (41, .no), (46, .no)] [20, 21, 22] rfl ⟨h9, h8, h7, h6, h4, h3, kids94_fn _, h2, h1⟩ ?_
  refine run 400 rfl ?_
  refine at_ifd rfl (fun g => ?_) (fun g => ?_)
  · refine run 400 rfl ?_
    exact at_ret rfl rfl [] ⟨rfl, rfl, rfl⟩ trivial
  · exact absurd h10 (by rw [decide_eq_true_eq]; exact g)

set_option maxRecDepth 100000 in
theorem walk_f14 (t : Tm) (d left : Int) (h1 : decide (left < 1) = false) (h2 : decide (16 < d) = false) (h3 : (!(kidsF t.k == ((rowsT t.kids).length : Int))) = false) (h4 : (!(t.k == 1)) = false) (h6 : decide (1024 < (t.s.size : Int)) = false) (h7 : (!(t.k == 2)) = false) (h9 : decide (t.n < 0) = true) : Gives Try.prog 69 [t.sv, I d, I left] (I (-1)) := by
  refine contract_of ty_ok [0, 1, 2, 3, 4, 5, 6, 7] Try.func69 rfl (by decide) Try.ntmps69 rfl fun z => ?_
  refine run 400 rfl ?_
  refine at_drawn 51 rfl rfl [(2, .no), (6, .no), (9, .sv (I (kidsF t.k))), (15, .no), (19, .no), (31, .no), (35, .no), (46, .yes)] [20, 21, 22] rfl ⟨h9, h7, h6, h4, h3, kids94_fn _, h2, h1⟩ ?_
  refine run 400 rfl ?_
  exact at_ret rfl rfl [] ⟨rfl, rfl, rfl⟩ trivial

set_option maxRecDepth 100000 in
theorem walk_f15 (t : Tm) (d left : Int) (h1 : decide (left < 1) = false) (h2 : decide (16 < d) = false) (h3 : (!(kidsF t.k == ((rowsT t.kids).length : Int))) = false) (h4 : (!(t.k == 1)) = false) (h6 : decide (1024 < (t.s.size : Int)) = false) (h7 : (!(t.k == 2)) = false) (h9 : decide (t.n < 0) = false) (h10 : decide (1073741824 < t.n) = true) : Gives Try.prog 69 [t.sv, I d, I left] (I (-1)) := by
  refine contract_of ty_ok [0, 1, 2, 3, 4, 5, 6, 7] Try.func69 rfl (by decide) Try.ntmps69 rfl fun z => ?_
  refine run 400 rfl ?_
  refine at_drawn 51 rfl rfl [(2, .no), (6, .no), (9, .sv (I (kidsF t.k))), (15, .no), (19, .no), (31, .no), (35, .no), (46, .no)] [20, 21, 22] rfl ⟨h9, h7, h6, h4, h3, kids94_fn _, h2, h1⟩ ?_
  refine run 400 rfl ?_
  refine at_ifd rfl (fun g => ?_) (fun g => ?_)
  · refine run 400 rfl ?_
    exact at_ret rfl rfl [] ⟨rfl, rfl, rfl⟩ trivial
  · exact absurd h10 (by rw [decide_eq_true_eq]; exact g)
end Go.Proofs.Ytmnmhehddbemkaa
namespace Go.Proofs.Ytmnmhehddbemkaa
open Go Go.Eng

theorem tl_data (a : ByteArray) : a.toList = a.data.toList := by
  unfold ByteArray.toList
  rw [loop_eq a _ 0 [] rfl]
  simp
theorem sq_data (a b : ByteArray) : seq a b = (a.data.toList == b.data.toList) := by rw [seq, tl_data, tl_data]
theorem right_eq (t : Tm) : rightF t = ((((kidsF t.k == ((rowsT t.kids).length : Int)) && !(!(t.k == 1) && !(seq t.s .empty)) && !decide (1024 < (t.s.size : Int))) && !(!(t.k == 2) && !(t.n == 0))) && !decide (t.n < 0) && !decide (1073741824 < t.n)) := by
  have hs : seq t.s .empty = true → t.s.size = 0 := by
    intro h
    rw [sq_data] at h
    have : t.s.data = ByteArray.empty.data := by simpa using h
    show t.s.data.size = 0
    rw [this]
    rfl
  unfold rightF
  rw [rowsT_len]
  have e1 : ((t.kids.length : Int) == kidsF t.k) = (kidsF t.k == (t.kids.length : Int)) := by
    rw [Bool.eq_iff_iff, beq_iff_eq, beq_iff_eq]
    exact eq_comm
  have e2 : (seq t.s .empty || (t.k == 1 && decide ((t.s.size : Int) ≤ 1024))) = (!(!(t.k == 1) && !(seq t.s .empty)) && !decide (1024 < (t.s.size : Int))) := by
    cases hq : seq t.s .empty with
    | true =>
      have := hs hq
      simp [this]
    | false =>
      cases hk : (t.k == 1)
      · simp
      · simp only [Bool.false_or, Bool.true_and, Bool.not_true, Bool.false_and, Bool.not_false]
        rw [Bool.eq_iff_iff]
        simp
  have e3 : (t.n == 0 || (t.k == 2 && decide (0 < t.n) && decide (t.n ≤ 1073741824))) = (!(!(t.k == 2) && !(t.n == 0)) && !decide (t.n < 0) && !decide (1073741824 < t.n)) := by
    cases hk : (t.k == 2) with
    | false =>
      by_cases h : t.n = 0
      · simp [h]
      · have h : (t.n == 0) = false := by simpa using h
        simp [h]
    | true =>
      rw [Bool.eq_iff_iff]
      simp
      omega
  rw [e1, e2, e3]
  simp only [Bool.and_assoc]

/-- What is left. -/
def wk (r : Bool × Int) : Int := if r.1 then 64 - r.2 else -1
theorem wk_may {t : Tm} {d left : Int} (h0 : 0 ≤ left ∧ left ≤ 64) : -1 ≤ wk (mayT t d (64 - left)) ∧ wk (mayT t d (64 - left)) ≤ 64 := by
  have := mayT_le t d (64 - left) (by omega) (by omega)
  unfold wk
  split
  · rename_i h
    have := this.2.2 h
    omega
  · omega
theorem wk_cons {t : Tm} {l : List Tm} {d left : Int} (h0 : 0 ≤ left ∧ left ≤ 64) : wk (mayL (t :: l) d (64 - left)) = if wk (mayT t d (64 - left)) < 0 then -1 else wk (mayL l d (64 - wk (mayT t d (64 - left)))) := by
  have := mayT_le t d (64 - left) (by omega) (by omega)
  rw [mayL]
  rcases hm : mayT t d (64 - left) with ⟨b, c'⟩
  rw [hm] at this
  dsimp only at this
  cases b with
  | false => simp [wk]
  | true =>
    have h64 := this.2.2 rfl
    have e : wk (true, c') = 64 - c' := rfl
    rw [e, if_neg (by omega)]
    dsimp only
    rw [show (64 : Int) - (64 - c') = c' by omega]

set_option maxRecDepth 100000 in
theorem walk_g0 (k n : Int) (s : ByteArray) (l : List Tm) (d left : Int) (hd : 0 ≤ d) (hl : left ≤ 64) (ih : ∀ u ∈ l, ∀ d left : Int, 0 ≤ left → left ≤ 64 → 0 ≤ d → d ≤ 17 → Gives Try.prog 69 [u.sv, I d, I left] (I (wk (mayT u d (64 - left))))) (h1 : decide (left < 1) = false) (h2 : decide (16 < d) = false) (h3 : (!(kidsF (Tm.mk k n s l).k == ((rowsT (Tm.mk k n s l).kids).length : Int))) = false) (h4 : (!((Tm.mk k n s l).k == 1)) = true) (h5 : (!(seq (Tm.mk k n s l).s .empty)) = false) (h6 : decide (1024 < ((Tm.mk k n s l).s.size : Int)) = false) (h7 : (!((Tm.mk k n s l).k == 2)) = true) (h8 : (!((Tm.mk k n s l).n == 0)) = false) (h9 : decide ((Tm.mk k n s l).n < 0) = false) (h10 : decide (1073741824 < (Tm.mk k n s l).n) = false) : Gives Try.prog 69 [(Tm.mk k n s l).sv, I d, I left] (I (wk (mayL l (d + 1) (64 - left + 1)))) := by
  have hd16 : d ≤ 16 := by simpa using h2
  have hl1 : 1 ≤ left := by simp at h1; omega
  have hlen2 : l.length ≤ 2 := by
    have : kidsF k = ((rowsT l).length : Int) := by simpa using h3
    rw [rowsT_len] at this
    have := kidsF_le k
    omega
  have hlen0 : ((rowsT l).length : Int) = l.length := by rw [rowsT_len]
  refine contract_of ty_ok [0, 1, 2, 3, 4, 5, 6, 7] Try.func69 rfl (by decide) Try.ntmps69 rfl fun z => ?_
  refine run 400 rfl ?_
  refine at_drawn 51 rfl rfl [(2, .no), (6, .no), (9, .sv (I (kidsF k))), (15, .no), (19, .yes), (25, .no), (31, .no), (35, .yes), (41, .no), (46, .no)] [20, 21, 22] rfl ⟨h9, h8, h7, h6, h5, h4, h3, kids94_fn _, h2, h1⟩ ?_
  refine run 400 rfl ?_
  refine at_ifd rfl (fun g => ?_) (fun g => ?_)
  · exact absurd g (by simpa using h10)
  refine run 400 rfl ?_
  refine at_loop (fun x : Int × Int => 0 ≤ x.1 ∧ x.1 ≤ l.length ∧ -1 ≤ x.2 ∧ x.2 ≤ 64 ∧ wk (mayL l (d + 1) (64 - left + 1)) = if x.2 < 0 then -1 else wk (mayL (l.drop x.1.toNat) (d + 1) (64 - x.2)))
    (fun x => [(1, I d), (2, I x.2), (3, .ptr 0 0), (7, I x.1)]) (fun x => [(0, .cells 33 [I k, I n, .str s, .lst 4 (rowsT l)])]) (fun x => (l.length - x.1).toNat) [1, 2, 3, 4, 5, 6, 7]
    (0, left - 1) ⟨by omega, by dsimp only; omega, by dsimp only; omega, by dsimp only; omega, by dsimp only; rw [if_neg (by omega), show (64 : Int) - (left - 1) = 64 - left + 1 by omega]; rfl⟩ ⟨SVle.refl _, SVle.refl _, SVle.refl _, SVle.refl _, trivial⟩ ⟨rfl, trivial⟩ ?_
  rintro ⟨i, lf⟩ ⟨a1, a2, a3, a4, a5⟩
  dsimp only at a1 a2 a3 a4 a5
  refine run 400 rfl ?_
  refine at_split 66 rfl (fun q => ?_) (fun q => ?_)
  rotate_left
  · have q : ¬ i < ((rowsT l).length : Int) := by simpa using q
    rw [hlen0] at q
    refine run 400 rfl ?_
    have e : l.drop i.toNat = [] := List.drop_eq_nil_of_le (by omega)
    rw [e, mayL] at a5
    refine at_ret rfl rfl [] ⟨?_, rfl, rfl⟩ trivial
    rw [a5]
    show I lf = I _
    split
    · rw [show lf = -1 by omega]
    · rw [wk, if_pos rfl, show lf = 64 - (64 - lf) by omega]
      congr 1
      omega
  have q : i < ((rowsT l).length : Int) := by simpa using q
  rw [hlen0] at q
  refine run 400 rfl ?_
  refine at_ifd rfl (fun q2 => ?_) (fun q2 => ?_)
  rotate_left
  · refine run 400 rfl ?_
    refine at_ret rfl rfl [] ⟨?_, rfl, rfl⟩ trivial
    rw [a5, if_pos (by omega), show lf = -1 by omega]
  have hlt : i.toNat < l.length := by omega
  have hget := rowsT_get hlt
  have hmem := getD_mem hlt
  have hdrop := drop_getD hlt
  generalize l.getD i.toNat .zero = u at hget hmem hdrop
  rw [hdrop, if_neg (by omega), wk_cons (by omega)] at a5
  have hcall := ih u hmem (d + 1) lf (by omega) a4 (by omega) (by omega)
  have hw := wk_may (t := u) (d := d + 1) (left := lf) (by omega)
  generalize wk (mayT u (d + 1) (64 - lf)) = nl at hcall hw a5
  refine run 400 rfl ?_
  refine at_val (.rp (tr u) 0) (does_index ty_ok _ rfl rfl rfl (by omega) (show (rowsT l)[i.toNat]? = some (tr u) from hget) rfl) ?_
  refine run 400 rfl ?_
  refine at_fn hcall rfl ?_
  refine run 400 rfl ?_
  exact at_again (i + 1, nl) ⟨by dsimp only; omega, by dsimp only; omega, by dsimp only; omega, by dsimp only; omega, by dsimp only; rw [a5, show (i + 1).toNat = i.toNat + 1 by omega]⟩ (by dsimp only; omega) ⟨SVle.refl _, SVle.refl _, SVle.refl _, SVle.refl _, trivial⟩ ⟨rfl, trivial⟩

set_option maxRecDepth 100000 in
theorem walk_g1 (k n : Int) (s : ByteArray) (l : List Tm) (d left : Int) (hd : 0 ≤ d) (hl : left ≤ 64) (ih : ∀ u ∈ l, ∀ d left : Int, 0 ≤ left → left ≤ 64 → 0 ≤ d → d ≤ 17 → Gives Try.prog 69 [u.sv, I d, I left] (I (wk (mayT u d (64 - left))))) (h1 : decide (left < 1) = false) (h2 : decide (16 < d) = false) (h3 : (!(kidsF (Tm.mk k n s l).k == ((rowsT (Tm.mk k n s l).kids).length : Int))) = false) (h4 : (!((Tm.mk k n s l).k == 1)) = true) (h5 : (!(seq (Tm.mk k n s l).s .empty)) = false) (h6 : decide (1024 < ((Tm.mk k n s l).s.size : Int)) = false) (h7 : (!((Tm.mk k n s l).k == 2)) = false) (h9 : decide ((Tm.mk k n s l).n < 0) = false) (h10 : decide (1073741824 < (Tm.mk k n s l).n) = false) : Gives Try.prog 69 [(Tm.mk k n s l).sv, I d, I left] (I (wk (mayL l (d + 1) (64 - left + 1)))) := by
  have hd16 : d ≤ 16 := by simpa using h2
  have hl1 : 1 ≤ left := by simp at h1; omega
  have hlen2 : l.length ≤ 2 := by
    have : kidsF k = ((rowsT l).length : Int) := by simpa using h3
    rw [rowsT_len] at this
    have := kidsF_le k
    omega
  have hlen0 : ((rowsT l).length : Int) = l.length := by rw [rowsT_len]
  refine contract_of ty_ok [0, 1, 2, 3, 4, 5, 6, 7] Try.func69 rfl (by decide) Try.ntmps69 rfl fun z => ?_
  refine run 400 rfl ?_
  refine at_drawn 51 rfl rfl [(2, .no), (6, .no), (9, .sv (I (kidsF k))), (15, .no), (19, .yes), (25, .no), (31, .no), (35, .no), (46, .no)] [20, 21, 22] rfl ⟨h9, h7, h6, h5, h4, h3, kids94_fn _, h2, h1⟩ ?_
  refine run 400 rfl ?_
  refine at_ifd rfl (fun g => ?_) (fun g => ?_)
  · exact absurd g (by simpa using h10)
  refine run 400 rfl ?_
  refine at_loop (fun x : Int × Int => 0 ≤ x.1 ∧ x.1 ≤ l.length ∧ -1 ≤ x.2 ∧ x.2 ≤ 64 ∧ wk (mayL l (d + 1) (64 - left + 1)) = if x.2 < 0 then -1 else wk (mayL (l.drop x.1.toNat) (d + 1) (64 - x.2)))
    (fun x => [(1, I d), (2, I x.2), (3, .ptr 0 0), (7, I x.1)]) (fun x => [(0, .cells 33 [I k, I n, .str s, .lst 4 (rowsT l)])]) (fun x => (l.length - x.1).toNat) [1, 2, 3, 4, 5, 6, 7]
    (0, left - 1) ⟨by omega, by dsimp only; omega, by dsimp only; omega, by dsimp only; omega, by dsimp only; rw [if_neg (by omega), show (64 : Int) - (left - 1) = 64 - left + 1 by omega]; rfl⟩ ⟨SVle.refl _, SVle.refl _, SVle.refl _, SVle.refl _, trivial⟩ ⟨rfl, trivial⟩ ?_
  rintro ⟨i, lf⟩ ⟨a1, a2, a3, a4, a5⟩
  dsimp only at a1 a2 a3 a4 a5
  refine run 400 rfl ?_
  refine at_split 66 rfl (fun q => ?_) (fun q => ?_)
  rotate_left
  · have q : ¬ i < ((rowsT l).length : Int) := by simpa using q
    rw [hlen0] at q
    refine run 400 rfl ?_
    have e : l.drop i.toNat = [] := List.drop_eq_nil_of_le (by omega)
    rw [e, mayL] at a5
    refine at_ret rfl rfl [] ⟨?_, rfl, rfl⟩ trivial
    rw [a5]
    show I lf = I _
    split
    · rw [show lf = -1 by omega]
    · rw [wk, if_pos rfl, show lf = 64 - (64 - lf) by omega]
      congr 1
      omega
  have q : i < ((rowsT l).length : Int) := by simpa using q
  rw [hlen0] at q
  refine run 400 rfl ?_
  refine at_ifd rfl (fun q2 => ?_) (fun q2 => ?_)
  rotate_left
  · refine run 400 rfl ?_
    refine at_ret rfl rfl [] ⟨?_, rfl, rfl⟩ trivial
    rw [a5, if_pos (by omega), show lf = -1 by omega]
  have hlt : i.toNat < l.length := by omega
  have hget := rowsT_get hlt
  have hmem := getD_mem hlt
  have hdrop := drop_getD hlt
  generalize l.getD i.toNat .zero = u at hget hmem hdrop
  rw [hdrop, if_neg (by omega), wk_cons (by omega)] at a5
  have hcall := ih u hmem (d + 1) lf (by omega) a4 (by omega) (by omega)
  have hw := wk_may (t := u) (d := d + 1) (left := lf) (by omega)
  generalize wk (mayT u (d + 1) (64 - lf)) = nl at hcall hw a5
  refine run 400 rfl ?_
  refine at_val (.rp (tr u) 0) (does_index ty_ok _ rfl rfl rfl (by omega) (show (rowsT l)[i.toNat]? = some (tr u) from hget) rfl) ?_
  refine run 400 rfl ?_
  refine at_fn hcall rfl ?_
  refine run 400 rfl ?_
  exact at_again (i + 1, nl) ⟨by dsimp only; omega, by dsimp only; omega, by dsimp only; omega, by dsimp only; omega, by dsimp only; rw [a5, show (i + 1).toNat = i.toNat + 1 by omega]⟩ (by dsimp only; omega) ⟨SVle.refl _, SVle.refl _, SVle.refl _, SVle.refl _, trivial⟩ ⟨rfl, trivial⟩

set_option maxRecDepth 100000 in
theorem walk_g2 (k n : Int) (s : ByteArray) (l : List Tm) (d left : Int) (hd : 0 ≤ d) (hl : left ≤ 64) (ih : ∀ u ∈ l, ∀ d left : Int, 0 ≤ left → left ≤ 64 → 0 ≤ d → d ≤ 17 → Gives Try.prog 69 [u.sv, I d, I left] (I (wk (mayT u d (64 - left))))) (h1 : decide (left < 1) = false) (h2 : decide (16 < d) = false) (h3 : (!(kidsF (Tm.mk k n s l).k == ((rowsT (Tm.mk k n s l).kids).length : Int))) = false) (h4 : (!((Tm.mk k n s l).k == 1)) = false) (h6 : decide (1024 < ((Tm.mk k n s l).s.size : Int)) = false) (h7 : (!((Tm.mk k n s l).k == 2)) = true) (h8 : (!((Tm.mk k n s l).n == 0)) = false) (h9 : decide ((Tm.mk k n s l).n < 0) = false) (h10 : decide (1073741824 < (Tm.mk k n s l).n) = false) : Gives Try.prog 69 [(Tm.mk k n s l).sv, I d, I left] (I (wk (mayL l (d + 1) (64 - left + 1)))) := by
  have hd16 : d ≤ 16 := by simpa using h2
  have hl1 : 1 ≤ left := by simp at h1; omega
  have hlen2 : l.length ≤ 2 := by
    have : kidsF k = ((rowsT l).length : Int) := by simpa using h3
    rw [rowsT_len] at this
    have := kidsF_le k
    omega
  have hlen0 : ((rowsT l).length : Int) = l.length := by rw [rowsT_len]
  refine contract_of ty_ok [0, 1, 2, 3, 4, 5, 6, 7] Try.func69 rfl (by decide) Try.ntmps69 rfl fun z => ?_
  refine run 400 rfl ?_
  refine at_drawn 51 rfl rfl [(2, .no), (6, .no), (9, .sv (I (kidsF k))), (15, .no), (19, .no), (31, .no), (35, .yes), (41, .no), (46, .no)] [20, 21, 22] rfl ⟨h9, h8, h7, h6, h4, h3, kids94_fn _, h2, h1⟩ ?_
  refine run 400 rfl ?_
  refine at_ifd rfl (fun g => ?_) (fun g => ?_)
  · exact absurd g (by simpa using h10)
  refine run 400 rfl ?_
  refine at_loop (fun x : Int × Int => 0 ≤ x.1 ∧ x.1 ≤ l.length ∧ -1 ≤ x.2 ∧ x.2 ≤ 64 ∧ wk (mayL l (d + 1) (64 - left + 1)) = if x.2 < 0 then -1 else wk (mayL (l.drop x.1.toNat) (d + 1) (64 - x.2)))
    (fun x => [(1, I d), (2, I x.2), (3, .ptr 0 0), (7, I x.1)]) (fun x => [(0, .cells 33 [I k, I n, .str s, .lst 4 (rowsT l)])]) (fun x => (l.length - x.1).toNat) [1, 2, 3, 4, 5, 6, 7]
    (0, left - 1) ⟨by omega, by dsimp only; omega, by dsimp only; omega, by dsimp only; omega, by dsimp only; rw [if_neg (by omega), show (64 : Int) - (left - 1) = 64 - left + 1 by omega]; rfl⟩ ⟨SVle.refl _, SVle.refl _, SVle.refl _, SVle.refl _, trivial⟩ ⟨rfl, trivial⟩ ?_
  rintro ⟨i, lf⟩ ⟨a1, a2, a3, a4, a5⟩
  dsimp only at a1 a2 a3 a4 a5
  refine run 400 rfl ?_
  refine at_split 66 rfl (fun q => ?_) (fun q => ?_)
  rotate_left
  · have q : ¬ i < ((rowsT l).length : Int) := by simpa using q
    rw [hlen0] at q
    refine run 400 rfl ?_
    have e : l.drop i.toNat = [] := List.drop_eq_nil_of_le (by omega)
    rw [e, mayL] at a5
    refine at_ret rfl rfl [] ⟨?_, rfl, rfl⟩ trivial
    rw [a5]
    show I lf = I _
    split
    · rw [show lf = -1 by omega]
    · rw [wk, if_pos rfl, show lf = 64 - (64 - lf) by omega]
      congr 1
      omega
  have q : i < ((rowsT l).length : Int) := by simpa using q
  rw [hlen0] at q
  refine run 400 rfl ?_
  refine at_ifd rfl (fun q2 => ?_) (fun q2 => ?_)
  rotate_left
  · refine run 400 rfl ?_
    refine at_ret rfl rfl [] ⟨?_, rfl, rfl⟩ trivial
    rw [a5, if_pos (by omega), show lf = -1 by omega]
  have hlt : i.toNat < l.length := by omega
  have hget := rowsT_get hlt
  have hmem := getD_mem hlt
  have hdrop := drop_getD hlt
  generalize l.getD i.toNat .zero = u at hget hmem hdrop
  rw [hdrop, if_neg (by omega), wk_cons (by omega)] at a5
  have hcall := ih u hmem (d + 1) lf (by omega) a4 (by omega) (by omega)
  have hw := wk_may (t := u) (d := d + 1) (left := lf) (by omega)
  generalize wk (mayT u (d + 1) (64 - lf)) = nl at hcall hw a5
  refine run 400 rfl ?_
  refine at_val (.rp (tr u) 0) (does_index ty_ok _ rfl rfl rfl (by omega) (show (rowsT l)[i.toNat]? = some (tr u) from hget) rfl) ?_
  refine run 400 rfl ?_
  refine at_fn hcall rfl ?_
  refine run 400 rfl ?_
  exact at_again (i + 1, nl) ⟨by dsimp only; omega, by dsimp only; omega, by dsimp only; omega, by dsimp only; omega, by dsimp only; rw [a5, show (i + 1).toNat = i.toNat + 1 by omega]⟩ (by dsimp only; omega) ⟨SVle.refl _, SVle.refl _, SVle.refl _, SVle.refl _, trivial⟩ ⟨rfl, trivial⟩

theorem walk_fn : ∀ (t : Tm) (d left : Int), 0 ≤ left → left ≤ 64 → 0 ≤ d → d ≤ 17 → Gives Try.prog 69 [t.sv, I d, I left] (I (wk (mayT t d (64 - left)))) := by
  intro t
  induction t using Tm.ind with
  | h k n s l ih =>
    intro d left h0 h64 hd hd17
    have hr := right_eq (.mk k n s l)
    cases h1 : decide (left < 1) with
    | true => exact (walk_f0 (.mk k n s l) d left h1).le (SVle.of_eq (by simp at h1; rw [mayT, if_pos (by omega)]; rfl))
    | false => ?_
    have h1' : ¬ 64 < 64 - left + 1 := by simp at h1; omega
    cases h2 : decide (16 < d) with
    | true => exact (walk_f1 (.mk k n s l) d left h1 h2).le (SVle.of_eq (by simp at h2; rw [mayT, if_neg h1', if_pos (by omega)]; rfl))
    | false => ?_
    have h2' : ¬ 16 < d := by simpa using h2
    have no : rightF (.mk k n s l) = false → I (-1) = I (wk (mayT (.mk k n s l) d (64 - left))) := fun h => by rw [mayT, if_neg h1', if_neg h2', if_pos h]; rfl
    have yes : rightF (.mk k n s l) = true → I (wk (mayL l (d + 1) (64 - left + 1))) = I (wk (mayT (.mk k n s l) d (64 - left))) := fun h => by rw [mayT, if_neg h1', if_neg h2', if_neg (by simp [h])]
    cases h3 : (!(kidsF (Tm.mk k n s l).k == ((rowsT (Tm.mk k n s l).kids).length : Int))) with
    | true => exact (walk_f2 (.mk k n s l) d left h1 h2 h3).le (SVle.of_eq (no (by rw [hr]; simp only [Bool.not_eq_true'] at h3; simp [h3])))
    | false => ?_
    cases h4 : (!((Tm.mk k n s l).k == 1)) with
    | true =>
      cases h5 : (!(seq (Tm.mk k n s l).s .empty)) with
      | true =>
        exact (walk_f3 (.mk k n s l) d left h1 h2 h3 h4 h5).le (SVle.of_eq (no (by rw [hr]; simp only [Bool.not_eq_true', Bool.not_eq_false'] at h3 h4 h5; simp [*])))
      | false =>
        cases h6 : decide (1024 < ((Tm.mk k n s l).s.size : Int)) with
        | true =>
          exact (walk_f4 (.mk k n s l) d left h1 h2 h3 h4 h5 h6).le (SVle.of_eq (no (by rw [hr]; simp only [Bool.not_eq_true', Bool.not_eq_false'] at h3 h4 h5; simp [*])))
        | false =>
          cases h7 : (!((Tm.mk k n s l).k == 2)) with
          | true =>
            cases h8 : (!((Tm.mk k n s l).n == 0)) with
            | true =>
              exact (walk_f5 (.mk k n s l) d left h1 h2 h3 h4 h5 h6 h7 h8).le (SVle.of_eq (no (by rw [hr]; simp only [Bool.not_eq_true', Bool.not_eq_false'] at h3 h4 h5 h7 h8; simp [*])))
            | false =>
              cases h9 : decide ((Tm.mk k n s l).n < 0) with
              | true =>
                exact (walk_f6 (.mk k n s l) d left h1 h2 h3 h4 h5 h6 h7 h8 h9).le (SVle.of_eq (no (by rw [hr]; simp only [Bool.not_eq_true', Bool.not_eq_false'] at h3 h4 h5 h7 h8; simp [*])))
              | false =>
                cases h10 : decide (1073741824 < (Tm.mk k n s l).n) with
                | true =>
                  exact (walk_f7 (.mk k n s l) d left h1 h2 h3 h4 h5 h6 h7 h8 h9 h10).le (SVle.of_eq (no (by rw [hr]; simp only [Bool.not_eq_true', Bool.not_eq_false'] at h3 h4 h5 h7 h8; simp [*])))
                | false =>
                  exact (walk_g0 k n s l d left hd h64 ih h1 h2 h3 h4 h5 h6 h7 h8 h9 h10).le (SVle.of_eq (yes (by rw [hr]; simp only [Bool.not_eq_true', Bool.not_eq_false'] at h3 h4 h5 h7 h8; simp [*])))
          | false =>
            cases h9 : decide ((Tm.mk k n s l).n < 0) with
            | true =>
              exact (walk_f8 (.mk k n s l) d left h1 h2 h3 h4 h5 h6 h7 h9).le (SVle.of_eq (no (by rw [hr]; simp only [Bool.not_eq_true', Bool.not_eq_false'] at h3 h4 h5 h7; simp [*])))
            | false =>
              cases h10 : decide (1073741824 < (Tm.mk k n s l).n) with
              | true =>
                exact (walk_f9 (.mk k n s l) d left h1 h2 h3 h4 h5 h6 h7 h9 h10).le (SVle.of_eq (no (by rw [hr]; simp only [Bool.not_eq_true', Bool.not_eq_false'] at h3 h4 h5 h7; simp [*])))
              | false =>
                exact (walk_g1 k n s l d left hd h64 ih h1 h2 h3 h4 h5 h6 h7 h9 h10).le (SVle.of_eq (yes (by rw [hr]; simp only [Bool.not_eq_true', Bool.not_eq_false'] at h3 h4 h5 h7; simp [*])))
    | false =>
      cases h6 : decide (1024 < ((Tm.mk k n s l).s.size : Int)) with
      | true =>
        exact (walk_f10 (.mk k n s l) d left h1 h2 h3 h4 h6).le (SVle.of_eq (no (by rw [hr]; simp only [Bool.not_eq_false'] at h3 h4; simp [*])))
      | false =>
        cases h7 : (!((Tm.mk k n s l).k == 2)) with
        | true =>
          cases h8 : (!((Tm.mk k n s l).n == 0)) with
          | true =>
            exact (walk_f11 (.mk k n s l) d left h1 h2 h3 h4 h6 h7 h8).le (SVle.of_eq (no (by rw [hr]; simp only [Bool.not_eq_true', Bool.not_eq_false'] at h3 h4 h7 h8; simp [*])))
          | false =>
            cases h9 : decide ((Tm.mk k n s l).n < 0) with
            | true =>
              exact (walk_f12 (.mk k n s l) d left h1 h2 h3 h4 h6 h7 h8 h9).le (SVle.of_eq (no (by rw [hr]; simp only [Bool.not_eq_true', Bool.not_eq_false'] at h3 h4 h7 h8; simp [*])))
            | false =>
              cases h10 : decide (1073741824 < (Tm.mk k n s l).n) with
              | true =>
                exact (walk_f13 (.mk k n s l) d left h1 h2 h3 h4 h6 h7 h8 h9 h10).le (SVle.of_eq (no (by rw [hr]; simp only [Bool.not_eq_true', Bool.not_eq_false'] at h3 h4 h7 h8; simp [*])))
              | false =>
                exact (walk_g2 k n s l d left hd h64 ih h1 h2 h3 h4 h6 h7 h8 h9 h10).le (SVle.of_eq (yes (by rw [hr]; simp only [Bool.not_eq_true', Bool.not_eq_false'] at h3 h4 h7 h8; simp [*])))
        | false =>
          cases h9 : decide ((Tm.mk k n s l).n < 0) with
          | true =>
            exact (walk_f14 (.mk k n s l) d left h1 h2 h3 h4 h6 h7 h9).le (SVle.of_eq (no (by rw [hr]; simp only [Bool.not_eq_false'] at h3 h4 h7; simp [*])))
          | false =>
            cases h10 : decide (1073741824 < (Tm.mk k n s l).n) with
            | true =>
              exact (walk_f15 (.mk k n s l) d left h1 h2 h3 h4 h6 h7 h9 h10).le (SVle.of_eq (no (by rw [hr]; simp only [Bool.not_eq_false'] at h3 h4 h7; simp [*])))
            | false =>
              exfalso
              simp at h4 h7
              omega

theorem rmay_fn (t : Tm) : Gives Try.prog 40 [t.sv] (.bl (mayF t)) := by
  have hw := walk_fn t 1 64 (by omega) (by omega) (by omega) (by omega)
  have e : mayF t = decide (0 ≤ wk (mayT t 1 (64 - 64))) := by
    have := mayT_le t 1 0 (by omega) (by omega)
    unfold mayF wk
    rw [show (64 : Int) - 64 = 0 by omega]
    cases hm : (mayT t 1 0).1 with
    | false => rfl
    | true =>
      have := this.2.2 hm
      exact (decide_eq_true (by simp; omega)).symm
  rw [e]
  refine contract_of ty_ok [0, 1, 2, 3, 4, 5, 6, 7] Try.func40 rfl (by decide) Try.ntmps40 rfl fun z => ?_
  refine run 400 rfl ?_
  refine at_fn hw rfl ?_
  refine run 400 rfl ?_
  exact at_ret rfl rfl [] ⟨rfl, rfl, rfl⟩ trivial
end Go.Proofs.Ytmnmhehddbemkaa
namespace Go.Proofs.Ytmnmhehddbemkaa
open Go Go.Eng

theorem isnan_fn (n : Int) : Gives Try.prog 116 [I n] .ff := by
  refine Gives.le (a := .bl (!(n == n))) ?_ (fun _ _ x h => by
    have h : x = .bool (!(n == n)) := h
    rw [beq_self_eq_true] at h
    exact h)
  refine contract_of ty_ok [0, 1, 2, 3, 4, 5, 6, 7] Try.func116 rfl (by decide) Try.ntmps116 rfl fun z => ?_
  refine run 400 rfl ?_
  exact at_ret rfl rfl [] ⟨rfl, rfl, rfl⟩ trivial

theorem cmpI_fn (a b : Int) : Gives Try.prog 98 [I a, I b] (I (sgI a b)) := by
  refine contract_of ty_ok [0, 1, 2, 3, 4, 5, 6, 7] Try.func98 rfl (by decide) Try.ntmps98 rfl fun z => ?_
  refine run 400 rfl ?_
  refine at_fn (isnan_fn a) rfl ?_
  refine run 400 rfl ?_
  refine at_fn (isnan_fn b) rfl ?_
  refine run 400 rfl ?_
  refine at_ifd rfl (fun h => ?_) (fun h => ?_)
  · refine run 400 rfl ?_
    exact at_ret rfl rfl [] ⟨by rw [sgI, if_pos h], rfl, rfl⟩ trivial
  refine run 400 rfl ?_
  refine at_ifd rfl (fun h2 => ?_) (fun h2 => ?_)
  · refine run 400 rfl ?_
    exact at_ret rfl rfl [] ⟨by rw [sgI, if_neg h, if_pos h2], rfl, rfl⟩ trivial
  refine run 400 rfl ?_
  exact at_ret rfl rfl [] ⟨by rw [sgI, if_neg h, if_neg h2], rfl, rfl⟩ trivial

/-- The order of two strings. -/
theorem does_cmpstr {o : Oper} {env : List (Nat × SV)} {own : List (Nat × SO)} {x y : Operand} {c : Call} (a b : ByteArray) (ho : o.op = .call c) (hc : c.callee = .value (.func 132)) (ha : c.args = #[x, y]) (hx : ev env x = .str a) (hy : ev env y = .str b) :
    DoesV Try.prog o env own (I (Lib.compareBytes a.data.toList b.data.toList)) := by
  refine does_val fun cx g H n act w hd => ⟨.int .i64 (Lib.compareBytes a.data.toList b.data.toList), ?_, rfl⟩
  have e1 : act.eval x = .string a := by have := hd.ev x; rw [hx] at this; exact this
  have e2 : act.eval y = .string b := by have := hd.ev y; rw [hy] at this; exact this
  have e3 : act.eval (.func 132) = .func (.func 132) #[] #[] := rfl
  simp only [execOp, ho, hc, ha, resolve, e3, Deferred.ofValue]
  have hr := run_callFunc_extern Try.func132 (by kernel_rfl) (by kernel_rfl) (by kernel_rfl) (e := Extern.BytealgCompare.compare) (by kernel_rfl) #[.string a, .string b] w
  rw [Lib.run_compareString] at hr
  simpa [invoke, e1, e2] using hr
theorem bytesLess_cmp : ∀ a b : List UInt8, Lib.compareBytes a b = if Op.bytesLess a b then -1 else if !(Op.bytesLess a b || a == b) then 1 else 0
  | [], [] => rfl
  | [], _ :: _ => rfl
  | _ :: _, [] => rfl
  | x :: a, y :: b => by
    rw [Lib.compareBytes, Op.bytesLess, bytesLess_cmp a b]
    by_cases h1 : x < y
    · simp [h1]
    · by_cases h2 : y < x
      · have : x ≠ y := fun e => by rw [e] at h2; exact absurd h2 (UInt8.lt_irrefl y)
        simp [h1, h2, this]
      · have : x = y := UInt8.le_antisymm (UInt8.not_lt.1 h2) (UInt8.not_lt.1 h1)
        subst this
        simp [UInt8.lt_irrefl]
theorem cmpB_sgS (a b : ByteArray) : Lib.compareBytes a.data.toList b.data.toList = sgS a b := by
  rw [bytesLess_cmp, sgS, slt, seq, tl_data, tl_data]

theorem cmpS117_fn (a b : ByteArray) : Gives Try.prog 117 [.str a, .str b] (I (sgS a b)) := by
  rw [← cmpB_sgS]
  refine contract_of ty_ok [0, 1, 2, 3, 4, 5, 6, 7] Try.func117 rfl (by decide) Try.ntmps117 rfl fun z => ?_
  refine run 400 rfl ?_
  refine at_val (I (Lib.compareBytes a.data.toList b.data.toList)) (does_cmpstr a b rfl rfl rfl rfl rfl) ?_
  refine run 400 rfl ?_
  exact at_ret rfl rfl [] ⟨rfl, rfl, rfl⟩ trivial
theorem cmpS_fn (a b : ByteArray) : Gives Try.prog 99 [.str a, .str b] (I (sgS a b)) := by
  refine contract_of ty_ok [0, 1, 2, 3, 4, 5, 6, 7] Try.func99 rfl (by decide) Try.ntmps99 rfl fun z => ?_
  refine run 400 rfl ?_
  refine at_fn (cmpS117_fn a b) rfl ?_
  refine run 400 rfl ?_
  exact at_ret rfl rfl [] ⟨rfl, rfl, rfl⟩ trivial

theorem or4_fn (a b c d : Int) : Gives Try.prog 97 [.lst 1 (ints [a, b, c, d])] (I (orI a (orI b (orI c d)))) := by
  refine contract_of ty_ok [0, 1, 2, 3, 4, 5, 6, 7] Try.func97 rfl (by decide) Try.ntmps97 rfl fun z => ?_
  refine run 400 rfl ?_
  refine at_loop (fun i : Nat => i ≤ 4 ∧ ∀ j, j < i → [a, b, c, d].getD j 0 = 0) (fun i => [(3, I 0), (6, .lst 1 (ints [a, b, c, d])), (7, I 4), (8, I i)]) (fun _ => []) (fun i => 4 - i) [0, 1, 2, 3, 4, 5, 6, 7]
    0 ⟨by omega, fun j h => by omega⟩ ⟨SVle.refl _, SVle.refl _, SVle.refl _, SVle.refl _, trivial⟩ trivial ?_
  rintro i ⟨hi, hz⟩
  refine run 400 rfl ?_
  refine at_ifd rfl (fun g => ?_) (fun g => ?_)
  rotate_left
  · refine run 400 rfl ?_
    have e : i = 4 := by omega
    subst e
    have h0 : a = 0 := hz 0 (by omega)
    have h1 : b = 0 := hz 1 (by omega)
    have h2 : c = 0 := hz 2 (by omega)
    have h3 : d = 0 := hz 3 (by omega)
    exact at_ret rfl rfl [] ⟨by rw [h0, h1, h2, h3]; rfl, rfl, rfl⟩ trivial
  have hlt : i < 4 := by omega
  obtain ⟨v, hv⟩ : ∃ v, (ints [a, b, c, d])[i]? = some [.int .i64 v] ∧ [a, b, c, d].getD i 0 = v := by
    match i, hlt with
    | 0, _ => exact ⟨a, rfl, rfl⟩
    | 1, _ => exact ⟨b, rfl, rfl⟩
    | 2, _ => exact ⟨c, rfl, rfl⟩
    | 3, _ => exact ⟨d, rfl, rfl⟩
  refine run 400 rfl ?_
  refine at_val (.rp [.int .i64 v] 0) (does_index ty_ok _ rfl rfl rfl (by omega) (show (ints [a, b, c, d])[(i : Int).toNat]? = some [.int .i64 v] from hv.1) rfl) ?_
  refine run 400 rfl ?_
  refine at_if rfl (fun q => ?_) (fun q => ?_)
  · refine run 400 rfl ?_
    have q : v ≠ 0 := by simpa using q
    refine at_ret rfl rfl [] ⟨?_, rfl, rfl⟩ trivial
    have hz' := hz
    match i, hlt, hv.2, hz' with
    | 0, _, e, _ => simp at e; rw [e, orI_ne q]
    | 1, _, e, z => simp at e; rw [show a = 0 from z 0 (by omega), e, orI_00, orI_ne q]
    | 2, _, e, z => simp at e; rw [show a = 0 from z 0 (by omega), show b = 0 from z 1 (by omega), e, orI_00, orI_00, orI_ne q]
    | 3, _, e, z => simp at e; rw [show a = 0 from z 0 (by omega), show b = 0 from z 1 (by omega), show c = 0 from z 2 (by omega), e, orI_00, orI_00, orI_00]
  · have q : v = 0 := by simpa using q
    refine run 400 rfl ?_
    exact at_again (i + 1) ⟨by omega, fun j hj => by
      by_cases e : j = i
      · rw [e, hv.2, q]
      · exact hz j (by omega)⟩ (by omega) ⟨SVle.refl _, SVle.refl _, SVle.refl _, SVle.of_eq (by show I ((i : Int) + 1) = I ((i + 1 : Nat) : Int); rw [Int.natCast_add]; rfl), trivial⟩ trivial
end Go.Proofs.Ytmnmhehddbemkaa
namespace Go.Proofs.Ytmnmhehddbemkaa
open Go Go.Eng

theorem cmpL_fn (l l' : List Tm) (hl : l.length ≤ 1000000) (ih : ∀ t ∈ l, ∀ u : Tm, Gives Try.prog 77 [t.sv, u.sv] (I (ordT t u))) : Gives Try.prog 100 [.lst 4 (rowsT l), .lst 4 (rowsT l'), .clo 77 []] (I (orI (ordL l l') (sgI l.length l'.length))) := by
  have hl1 : ((rowsT l).length : Int) = l.length := by rw [rowsT_len]
  have hl2 : ((rowsT l').length : Int) = l'.length := by rw [rowsT_len]
  refine contract_of ty_ok [0, 1, 2, 3, 4, 5, 6, 7] Try.func100 rfl (by decide) Try.ntmps100 rfl fun z => ?_
  refine run 400 rfl ?_
  refine at_loop (fun i : Nat => i ≤ l.length ∧ i ≤ l'.length ∧ ordL (l.drop i) (l'.drop i) = ordL l l') (fun i => [(0, .lst 4 (rowsT l)), (1, .lst 4 (rowsT l')), (2, .clo 77 []), (11, .lst 4 (rowsT l)), (12, I (rowsT l).length), (13, I i)]) (fun _ => []) (fun i => l.length - i) [0, 1, 2, 3, 4, 5, 6, 7]
    0 ⟨by omega, by omega, rfl⟩ ⟨SVle.refl _, SVle.refl _, SVle.refl _, SVle.refl _, SVle.refl _, SVle.refl _, trivial⟩ trivial ?_
  rintro i ⟨hi, hi2, ho⟩
  refine run 400 rfl ?_
  refine at_ifd rfl (fun g => ?_) (fun g => ?_)
  rotate_left
  · rw [hl1] at g
    have hfin : ordL l l' = 0 := by
      rw [← ho, List.drop_eq_nil_of_le (by omega)]
      cases l'.drop i <;> simp [ordL]
    refine run 400 rfl ?_
    refine at_ifd rfl (fun q => ?_) (fun q => ?_)
    · rw [hl1, hl2] at q
      refine run 400 rfl ?_
      exact at_ret rfl rfl [] ⟨by rw [hfin, orI_00, sgI, if_pos q], rfl, rfl⟩ trivial
    · rw [hl1, hl2] at q
      refine run 400 rfl ?_
      exact at_ret rfl rfl [] ⟨by rw [hfin, orI_00, sgI, if_neg q, if_neg (by omega)], rfl, rfl⟩ trivial
  rw [hl1] at g
  have hlt : i < l.length := by omega
  have hget := rowsT_get hlt
  have hmem := getD_mem hlt
  rw [drop_getD hlt] at ho
  generalize l.getD i .zero = u at hget hmem ho
  refine run 400 rfl ?_
  refine at_val (.rp (tr u) 0) (does_index ty_ok _ rfl rfl rfl (by omega) (show (rowsT l)[(i : Int).toNat]? = some (tr u) from hget) rfl) ?_
  refine run 400 rfl ?_
  refine at_ifd rfl (fun q => ?_) (fun q => ?_)
  · rw [hl2] at q
    refine run 400 rfl ?_
    have e : l'.drop i = [] := List.drop_eq_nil_of_le (by omega)
    refine at_ret rfl rfl [] ⟨?_, rfl, rfl⟩ trivial
    rw [← ho, e]
    simp only [ordL]
    rw [orI_00, sgI, if_neg (by omega), if_pos (by omega)]
  rw [hl2] at q
  have hlt2 : i < l'.length := by omega
  have hget2 := rowsT_get hlt2
  rw [drop_getD hlt2] at ho
  generalize l'.getD i .zero = v at hget2 ho
  rw [ordL] at ho
  refine run 400 rfl ?_
  refine at_val (.rp (tr v) 0) (does_index ty_ok _ rfl rfl rfl (by omega) (show (rowsT l')[(i : Int).toNat]? = some (tr v) from hget2) rfl) ?_
  refine run 400 rfl ?_
  refine at_fn (ih u hmem v) rfl ?_
  refine run 400 rfl ?_
  refine at_if rfl (fun p => ?_) (fun p => ?_)
  · have p : ordT u v ≠ 0 := by simpa using p
    refine run 400 rfl ?_
    refine at_ret rfl rfl [] ⟨?_, rfl, rfl⟩ trivial
    rw [← ho, orI_ne p, orI_ne p]
  · have p : ordT u v = 0 := by simpa using p
    rw [p, orI_00] at ho
    refine run 400 rfl ?_
    exact at_again (i + 1) ⟨by omega, by omega, ho⟩ (by omega) ⟨SVle.refl _, SVle.refl _, SVle.refl _, SVle.refl _, SVle.refl _, SVle.of_eq (by show I ((i : Int) + 1) = I ((i + 1 : Nat) : Int); rw [Int.natCast_add]; rfl), trivial⟩ trivial

theorem orI_assoc (a b c : Int) : orI (orI a b) c = orI a (orI b c) := by
  unfold orI
  by_cases h : a = 0 <;> simp [h]

set_option maxRecDepth 100000 in
theorem tcmp_fn (a b : Tm) (h : Sm a) : Gives Try.prog 77 [a.sv, b.sv] (I (ordT a b)) := by
  induction a using Tm.ind generalizing b with
  | h k n s l ih =>
    obtain ⟨k', n', s', l'⟩ := b
    have hL : l.length ≤ 1000000 ∧ ∀ t ∈ l, Sm t := by
      cases h with
      | mk h1 h2 => exact ⟨h1, h2⟩
    have hc := cmpL_fn l l' hL.1 fun t ht u => ih t ht u (hL.2 t ht)
    have hT : ordT (.mk k n s l) (.mk k' n' s' l') = orI (sgI k k') (orI (sgI n n') (orI (sgS s s') (orI (ordL l l') (sgI l.length l'.length)))) := by
      rw [ordT, orI_assoc, orI_assoc, orI_assoc]
    have hor := or4_fn (sgI k k') (sgI n n') (sgS s s') (orI (ordL l l') (sgI l.length l'.length))
    rw [hT]
    generalize orI (ordL l l') (sgI l.length l'.length) = q at hc hor
    refine contract_of ty_ok [0, 1, 2, 3, 4, 5, 6, 7] Try.func77 rfl (by decide) Try.ntmps77 rfl fun z => ?_
    refine run 400 rfl ?_
    refine at_drawn 22 rfl rfl [(4, .sv (I (sgI k k'))), (9, .sv (I (sgI n n'))), (14, .sv (I (sgS s s'))), (19, .sv (I q)), (20, .gro (.tl 1 (ints [sgI k k', sgI n n', sgS s s', q]))), (21, .sv (I (orI (sgI k k') (orI (sgI n n') (orI (sgS s s') q)))))] [20, 21, 22] rfl
      ⟨hor.weak ⟨SVle.tl _ _, trivial⟩, doesG_build ty_ok _ rfl ⟨⟨rfl, rfl, _, rfl, SVles.refl _⟩, ⟨rfl, rfl, _, rfl, SVles.refl _⟩, ⟨rfl, rfl, _, rfl, SVles.refl _⟩, ⟨rfl, rfl, _, rfl, SVles.refl _⟩, trivial⟩ rfl rfl (by decide), hc, cmpS_fn s s', cmpI_fn n n', cmpI_fn k k'⟩ ?_
    refine run 400 rfl ?_
    exact at_ret rfl rfl [] ⟨rfl, rfl, rfl⟩ trivial

theorem tsame_fn (a b : Tm) (h : Sm a) : Gives Try.prog 45 [a.sv, b.sv] (.bl (same a b)) := by
  refine contract_of ty_ok [0, 1, 2, 3, 4, 5, 6, 7] Try.func45 rfl (by decide) Try.ntmps45 rfl fun z => ?_
  refine run 400 rfl ?_
  refine at_fn (tcmp_fn a b h) rfl ?_
  refine run 400 rfl ?_
  exact at_ret rfl rfl [] ⟨rfl, rfl, rfl⟩ trivial
theorem tless_fn (a b : Tm) (h : Sm a) : Gives Try.prog 47 [a.sv, b.sv] (.bl (decide (ordT a b < 0))) := by
  refine contract_of ty_ok [0, 1, 2, 3, 4, 5, 6, 7] Try.func47 rfl (by decide) Try.ntmps47 rfl fun z => ?_
  refine run 400 rfl ?_
  refine at_fn (tcmp_fn a b h) rfl ?_
  refine run 400 rfl ?_
  exact at_ret rfl rfl [] ⟨rfl, rfl, rfl⟩ trivial
end Go.Proofs.Ytmnmhehddbemkaa
/- The proof engine, part 14h: own cells that hold lists which may grow. -/
namespace Go.Eng

variable {E : Stc} {all rest : List Oper} {o : Oper} {s : List Fr} {env : List (Nat × SV)} {own own2 : List (Nat × SO)} {nx : List Nat}

/-- Own cells may be known less well. -/
def soLe : SO → SO → Prop
  | .cells t cs, .cells t' cs' => t = t' ∧ SVles cs cs'
  | .tok a, .tok b => a = b
  | .cells _ cs, .buf rw n => SVles cs (bufC rw n)
  | .buf rw n, .buf rw' n' => SVles (bufC rw n) (bufC rw' n')
  | .obj f, .obj f' => ∀ r H o, f r H o → f' r H o
  | _, _ => False
def ownLe : List (Nat × SO) → List (Nat × SO) → Prop
  | [], [] => True
  | (k, a) :: l, (j, b) :: r => k = j ∧ soLe a b ∧ ownLe l r
  | _, _ => False
theorem ownLe_q : ∀ {l r : List (Nat × SO)}, ownLe l r → ∀ k b, ownq r k = some b → ∃ a, ownq l k = some a ∧ soLe a b
  | [], [], _, _, _, h => by simp [ownq] at h
  | (j, a) :: l, (j', b') :: r, hl, k, b, h => by
    obtain ⟨rfl, h1, h2⟩ := hl
    simp only [ownq] at h ⊢
    cases hb : Nat.beq j k with
    | true =>
      rw [hb, cond_true] at h
      simp only [Option.some.injEq] at h
      subst h
      exact ⟨a, rfl, h1⟩
    | false =>
      rw [hb, cond_false] at h
      exact ownLe_q h2 k b h
theorem ownOk_le {mine : Nat → Prop} {g : Nat → Value} {H : Hp} {w : World} {k : Nat} {a b : SO} (h : OwnOk mine g H w k a) (hl : soLe a b) : OwnOk mine g H w k b := by
  cases a with
  | cells t cs =>
    cases b with
    | cells t' cs' =>
      obtain ⟨rfl, hc⟩ := hl
      obtain ⟨q, vs, h1, h2, h3⟩ := h
      exact ⟨q, vs, h1, hc.dens g H vs h2, h3⟩
    | buf rw n =>
      obtain ⟨q, vs, h1, h2, h3⟩ := h
      exact .inl ⟨t, q, vs, h1, SVles.dens hl g H vs h2, h3⟩
    | tok z => exact hl.elim
    | obj f => exact hl.elim
  | tok z =>
    cases b with
    | cells t' cs' => exact hl.elim
    | tok y =>
      have hl : z = y := hl
      subst hl
      exact h
    | obj f => exact hl.elim
    | buf c n => exact hl.elim
  | buf rw n =>
    cases b with
    | buf rw' n' =>
      rcases h with ⟨t, q, vs, h1, h2, h3⟩ | ⟨h1, e⟩
      · exact .inl ⟨t, q, vs, h1, SVles.dens hl g H vs h2, h3⟩
      · refine .inr ⟨h1, ?_⟩
        have hl : SVles (bufC rw n) (bufC rw' n') := hl
        rw [e] at hl
        cases hc : bufC rw' n' with
        | nil => rfl
        | cons _ _ => rw [hc] at hl; exact hl.elim
    | cells t' cs' => exact hl.elim
    | tok y => exact hl.elim
    | obj f => exact hl.elim
  | obj f =>
    cases b with
    | obj f' =>
      obtain ⟨r, o, e, h1, h2, h3⟩ := h
      exact ⟨r, o, e, h1, fun H' hh => hl r H' o (h2 H' hh), h3⟩
    | cells t' cs' => exact hl.elim
    | tok y => exact hl.elim
    | buf c n => exact hl.elim
theorem at_weakO {m : Md} (own' : List (Nat × SO)) (hl : ownLe own own') (kk : Sat E m s env own' nx) : Sat E m s env own nx := by
  refine sat_mono (fun a w hat => ?_) kk
  obtain ⟨hdf, g, H, hd⟩ := hat
  refine ⟨hdf, g, H, { hd with ok := fun k b hk => ?_, inj := fun i j hi hj => hd.inj i j ?_ ?_ }⟩
  · obtain ⟨a', h1, h2⟩ := ownLe_q hl k b hk
    exact ownOk_le (hd.ok k a' h1) h2
  · cases hq : ownq own' i with
    | none => rw [hq] at hi; cases hi
    | some b =>
      obtain ⟨a', h1, _⟩ := ownLe_q hl i b hq
      rw [h1]; rfl
  · cases hq : ownq own' j with
    | none => rw [hq] at hj; cases hj
    | some b =>
      obtain ⟨a', h1, _⟩ := ownLe_q hl j b hq
      rw [h1]; rfl

/-- A list in an own block of one cell gets a name. -/
theorem at_nameC {m : Md} (c k sz : Nat) {ty sz0 : Nat} {rows : List (List DV)} (hc : ownq own c = some (.cells ty [.tl sz0 rows])) (hs : sz0 = sz ∨ rows = []) (hso : setOwnK c (.cells ty [.gl k sz rows]) own some = some own2)
    (kk : Sat E m s env ((k, .tok sz) :: own2) nx) (hm : Nat.ble E.cx.m0 k = true := by rfl) (hE : freshE k env = true := by rfl) (hO : freshO k own = true := by rfl) (hne : Nat.beq k c = false := by rfl) : Sat E m s env own nx := by
  rw [setOwnK_eq] at hso
  simp only [Option.some.injEq] at hso
  subst hso
  have hkc : ¬ k = c := fun e => by rw [e, Nat.beq_refl] at hne; cases hne
  refine sat_mono (fun a w hat => ?_) kk
  obtain ⟨hdf, g, H, hdn⟩ := hat
  obtain ⟨b, vs, g1, g2, g3, g4, g5, g6⟩ := hdn.ok c _ hc
  obtain ⟨x, rfl⟩ : ∃ x, vs = [x] := by
    match vs, g2 with
    | [x], _ => exact ⟨x, rfl⟩
    | [], h => exact h.elim
    | _ :: _ :: _, h => exact h.2.elim
  obtain ⟨⟨ad, cp, e, h1, h2, h3⟩, ad', e'⟩ := g2.1
  have hx : DenD H (.lst sz rows) x := by
    refine ⟨ad, cp, e, h1, h2, fun p hp => ?_⟩
    rcases hs with rfl | rfl
    · exact h3 p hp
    · exact ⟨.inl rfl, trivial⟩
  have hcp : cp = rows.length := by
    rw [e] at e'
    simp only [Value.slice.injEq, true_and] at e'
    exact e'.2
  obtain ⟨hd3, hp⟩ := hdn.tok (k := k) (sz := sz) (rows := rows) (Nat.le_of_ble_eq_true hm) hE hO hx ⟨ad, rows.length, cp, e, fun h => ⟨by rw [(h2 h).1]; rfl, (h2 h).2⟩, h1, fun p hp hlt => absurd hlt (by omega)⟩
  have hiff : ∀ i, (ownq ((k, SO.tok sz) :: setOwn c (.cells ty [.gl k sz rows]) own) i).isSome = true → (ownq ((k, SO.tok sz) :: own) i).isSome = true := by
    intro i hi
    simp only [ownq] at hi ⊢
    cases hb : Nat.beq k i with
    | true => rfl
    | false =>
      rw [hb, cond_false] at hi
      rw [cond_false]
      rw [ownq_setOwn] at hi
      split at hi
      · rename_i e
        subst e
        rw [hc]; rfl
      · exact hi
  refine ⟨hdf, _, H, { hd3 with ok := fun j o' hj => ?_, inj := fun i j hi hj => hd3.inj i j (hiff i hi) (hiff j hj) }⟩
  simp only [ownq] at hj
  cases hb : Nat.beq k j with
  | true =>
    have hj' : ownq ((k, SO.tok sz) :: own) j = some o' := by simp only [ownq, hb, cond_true]; rw [hb, cond_true] at hj; exact hj
    exact hd3.ok j o' hj'
  | false =>
    rw [hb, cond_false, ownq_setOwn] at hj
    have hjk : j ≠ k := fun e => by rw [e, Nat.beq_refl] at hb; cases hb
    by_cases hjc : j = c
    · subst hjc
      rw [if_pos rfl, hc] at hj
      simp only [Option.map_some, Option.some.injEq] at hj
      subst hj
      exact ⟨b, [x], by rw [upd_ne _ _ _ j hjk]; exact g1, ⟨hp, trivial⟩, g3, g4, g5, g6⟩
    · rw [if_neg hjc] at hj
      exact hd3.ok j o' (by simp only [ownq, hb, cond_false]; exact hj)

theorem Dn.cons {cx : Cx} {g : Nat → Value} {H : Hp} {env : List (Nat × SV)} {own : List (Nat × SO)} {n : Nat} {tmps : Array Value} {w : World} {k : Nat} {so : SO}
    (h : Dn cx g H env own n tmps w) (hok : OwnOk cx.mine g H w k so) (hb : ∀ b, blkOf (g k) = some b → ∀ j o, ownq own j = some o → blkOf (g j) ≠ some b) : Dn cx g H env ((k, so) :: own) n tmps w := by
  refine { h with ok := fun j o hj => ?_, inj := fun i j hi hj b hbi hbj => ?_ }
  · simp only [ownq] at hj
    cases hb : Nat.beq k j with
    | true =>
      have := beq_true hb
      subst this
      simp only [hb, cond_true, Option.some.injEq] at hj
      subst hj
      exact hok
    | false =>
      simp only [hb, cond_false] at hj
      exact h.ok j o hj
  · have key : ∀ j, (ownq ((k, so) :: own) j).isSome = true → j = k ∨ (ownq own j).isSome = true := by
      intro j hj
      by_cases hjk : j = k
      · exact .inl hjk
      · have hbf : Nat.beq k j = false := by
          cases hb' : Nat.beq k j with
          | false => rfl
          | true => exact absurd (beq_true hb').symm hjk
        simp only [ownq, hbf, cond_false] at hj
        exact .inr hj
    rcases key i hi with rfl | oi <;> rcases key j hj with rfl | oj
    · rfl
    · cases ho : ownq own j with
      | none => rw [ho] at oj; cases oj
      | some o => exact absurd hbj (hb b hbi j o ho)
    · cases ho : ownq own i with
      | none => rw [ho] at oi; cases oi
      | some o => exact absurd hbi (hb b hbj i o ho)
    · exact h.inj i j oi oj b hbi hbj

def r3 (c k k' : Nat) : Nat → Nat := fun j => bif Nat.beq j 0 then c else bif Nat.beq j 1 then k else k'

/-- A call that may write an own block, in whose cells is a list with room of its own that may grow. -/
theorem at_growM (c k k' sz : Nat) {ty f : Nat} {cs cs' : List SV} {args : List SV} {sv : SV} (hC : Contract E.P f 2 [(0, .cells ty cs), (1, .tok sz)] args fun s post => s = sv ∧ post = [(0, .cells ty cs'), (2, .tok sz)])
    (hc : callK o.op env (fun f l => some (f, l)) none = some (f, rens (r2 c k) args)) (h0 : ownq own c = some (.cells ty (rens (r2 c k) cs))) (h1 : ownq own k = some (.tok sz)) (ho : lessK c own (fun o1 => lessK k o1 some) = some own2)
    (kk : Sat E (.ops all rest) s (put o.dst (ren (r3 c k k') sv) env) ((c, .cells ty (rens (r3 c k k') cs')) :: (k', .tok sz) :: own2) nx)
    (hne : Nat.beq c k = false := by rfl) (hck : Nat.beq c k' = false := by rfl) (hkk : Nat.beq k k' = false := by rfl) (hm : Nat.ble E.cx.m0 k' = true := by rfl) (hE : freshE k' env = true := by rfl) (hO : freshO k' own2 = true := by rfl)
    (l1 : sv.lt 3 = true := by rfl) (l2 : SV.lts 3 cs' = true := by rfl)
    (hg : guardK all o.guard env true false false = true := by rfl) (hd : dstLt o.dst E.n = true := by rfl) : Sat E (.ops all (o :: rest)) s env own nx := by
  intro a w hat
  have hwant := wanted_of (E := E) (own := own) hg a w hat
  simp only [lessK_eq, Option.some.injEq] at ho
  have nck := beq_false hne
  have nck' := beq_false hck
  have nkk' := beq_false hkk
  unfold wpList
  rw [if_pos hwant]
  refine .inl ?_
  obtain ⟨hdf, g, H, hdn⟩ := hat
  obtain ⟨vs, hv, hr⟩ := run_call (P := E.P) hdn hC.1 hc
  have hpre : pres (r2 c k) own [(0, .cells ty cs), (1, .tok sz)] := ⟨h0, h1, trivial⟩
  have hv' : Dens (fun j => g (r2 c k j)) H args vs := Dens.unren (g' := g) (r := r2 c k) (fun _ => rfl) args vs hv
  have key : ∀ i, (ownq [(0, SO.cells ty cs), (1, SO.tok sz)] i).isSome = true → i = 0 ∨ i = 1 := by
    intro i hi
    match i, hi with
    | 0, _ => exact .inl rfl
    | 1, _ => exact .inr rfl
    | i + 2, hi => exact absurd hi (by show ¬ (false = true); simp)
  have hok : ∀ j o, ownq [(0, SO.cells ty cs), (1, SO.tok sz)] j = some o → OwnOk (fun _ => True) (fun j => g (r2 c k j)) H w j o := by
    intro j o hj
    rcases key j (by rw [hj]; rfl) with rfl | rfl
    · have e : SO.cells ty cs = o := by simpa [ownq] using hj
      subst e
      obtain ⟨b, ws, e, q1, q2, q3, q4, _⟩ := hdn.ok c _ h0
      exact ⟨b, ws, e, Dens.unren (g' := g) (r := r2 c k) (fun _ => rfl) cs ws q1, q2, q3, q4, trivial⟩
    · have e : SO.tok sz = o := Option.some.inj hj
      subst e
      obtain ⟨ad, q, cp, e, q1, hle, q2⟩ := hdn.ok k _ h1
      refine ⟨ad, q, cp, e, q1, hle, fun p hpa hlt => ?_⟩
      obtain ⟨q3, _, q5⟩ := q2 p hpa hlt
      exact ⟨q3, trivial, q5⟩
  have hinj : InjOn (fun j => g (r2 c k j)) [(0, SO.cells ty cs), (1, SO.tok sz)] := by
    intro i j hi hj b hbi hbj
    have hi' : (ownq own (r2 c k i)).isSome = true := by
      rcases key i hi with rfl | rfl
      · show (ownq own c).isSome = true; rw [h0]; rfl
      · show (ownq own k).isSome = true; rw [h1]; rfl
    have hj' : (ownq own (r2 c k j)).isSome = true := by
      rcases key j hj with rfl | rfl
      · show (ownq own c).isSome = true; rw [h0]; rfl
      · show (ownq own k).isSome = true; rw [h1]; rfl
    have e := hdn.inj _ _ hi' hj' b hbi hbj
    rcases key i hi with rfl | rfl <;> rcases key j hj with rfl | rfl
    · rfl
    · exact absurd (show c = k from e) nck
    · exact absurd (show k = c from e).symm nck
    · rfl
  have hcall := hC.2 (fun j => g (r2 c k j)) H w vs hdn.hp hok hinj hv'
  unfold Oper.wp
  rw [hr]
  refine hcall.mono fun e w' he => ?_
  cases e with
  | panicked c => exact he.elim
  | outgrown => exact he.elim
  | returned x =>
    obtain ⟨g', H', sv', post, ⟨rfl, rfl⟩, hx, hok', hinj', hon, hb⟩ := he
    have hl2 : ∀ j o, ownq own2 j = some o → j ≠ c ∧ j ≠ k ∧ ownq own j = some o := by
      intro j o hj
      rw [← ho] at hj
      have e1 := rm1_less k (rm1 c own) j o hj
      have e2 := rm1_less c own j o e1.2
      exact ⟨e2.1, e1.1, e2.2⟩
    obtain ⟨hd2, hother⟩ := hdn.left (r := r2 c k) (own2 := own2) hpre hb hon (fun j o hj => ⟨(hl2 j o hj).2.2, fun i hi => by
      rcases key i hi with rfl | rfl
      · exact (hl2 j o hj).1
      · exact (hl2 j o hj).2.1⟩)
    obtain ⟨b, ws, e0, q1, q2, q3, q4, q5⟩ := hok' 0 (.cells ty cs') rfl
    obtain ⟨ad, q, cp, e2, p1, hle, p2⟩ := hok' 2 (.tok sz) rfl
    have hd3 := hd2.bind (k := k') (x := g' 2) (so := .tok sz) (Nat.le_of_ble_eq_true hm) hE hO ⟨ad, q, cp, by rw [upd_same, e2], p1, hle, fun p hpa hlt => by
      obtain ⟨q3, q4, q5⟩ := p2 p hpa hlt
      exact ⟨q3, (hother _ q4).1, q5⟩⟩ (fun b' hb' j o hj => by
      rw [e2] at hb'
      cases ad with
      | none => simp [blkOf] at hb'
      | some p =>
        simp only [blkOf] at hb'
        cases hlt : Nat.blt q cp with
        | false => rw [hlt] at hb'; cases hb'
        | true =>
          rw [hlt, cond_true, Option.some.injEq] at hb'
          subst hb'
          exact (hother _ (p2 p rfl (Nat.blt_eq.mp hlt)).2.1).2 j o hj)
    have f0 : g' 0 = g c := hb.fix 0 (show 0 < 2 by omega)
    have f1 : g' 1 = g k := hb.fix 1 (show 1 < 2 by omega)
    have hg3 : ∀ j, j < 3 → Eng.upd g k' (g' 2) (r3 c k k' j) = g' j := by
      intro j hj
      match j, hj with
      | 0, _ => show Eng.upd g k' (g' 2) c = _; rw [upd_ne _ _ _ c nck', f0]
      | 1, _ => show Eng.upd g k' (g' 2) k = _; rw [upd_ne _ _ _ k nkk', f1]
      | 2, _ => exact upd_same _ _ _
    have hd4 := hd3.cons (k := c) (so := .cells ty (rens (r3 c k k') cs')) ⟨b, ws, by rw [upd_ne _ _ _ c nck', ← f0, e0], Dens.ren hg3 cs' ws l2 q1, q2, q3, q4, (hother _ q5).1⟩ (fun b' hb' j o hj => by
      rw [upd_ne _ _ _ c nck', ← f0, e0] at hb'
      simp only [blkOf, Option.some.injEq] at hb'
      subst hb'
      simp only [ownq] at hj
      cases hjk : Nat.beq k' j with
      | true =>
        have := beq_true hjk
        subst this
        rw [upd_same]
        intro e3
        have := hinj' 0 2 rfl rfl b (by rw [e0]; rfl) e3
        cases this
      | false =>
        rw [hjk, cond_false] at hj
        rw [upd_ne _ _ _ j (fun e => by rw [e, Nat.beq_refl] at hjk; cases hjk)]
        exact (hother _ q5).2 j o hj)
    exact kk _ _ (At.put hdf hd4 (Den.ren hg3 sv' x l1 hx) fun d e => by rw [e] at hd; exact Nat.blt_eq.mp hd)

/-- A list with room of its own, in an own block, gets another name. -/
theorem at_renameC {m : Md} (c k k' sz i : Nat) {ty : Nat} {cs : List SV} {rows : List (List DV)} (hc : ownq own c = some (.cells ty cs)) (hi : cs[i]? = some (.gl k sz rows)) (hk : ownq own k = some (.tok sz)) (ho : lessK c own (fun o1 => lessK k o1 some) = some own2)
    (kk : Sat E m s (degE k' env) ((c, .cells ty (cs.set i (.gl k' sz rows))) :: (k', .tok sz) :: own2) nx) (hne : Nat.beq c k = false := by rfl) (hck : Nat.beq c k' = false := by rfl)
    (hm : Nat.ble E.cx.m0 k' = true := by rfl) (hE : freshE k' (degE k' env) = true := by rfl) (hO : freshO k' own2 = true := by rfl) (hcs : SV.noKs k' cs = true := by rfl) : Sat E m s env own nx := by
  simp only [lessK_eq, Option.some.injEq] at ho
  have nck := beq_false hne
  have nck' := beq_false hck
  refine sat_mono (fun a w hat => ?_) kk
  obtain ⟨hdf, g, H, hdn⟩ := hat
  have hl2 : ∀ j o, ownq own2 j = some o → j ≠ c ∧ j ≠ k ∧ ownq own j = some o := by
    intro j o hj
    rw [← ho] at hj
    have e1 := rm1_less k (rm1 c own) j o hj
    have e2 := rm1_less c own j o e1.2
    exact ⟨e2.1, e1.1, e2.2⟩
  obtain ⟨b, vs, e0, q1, q2, q3, q4, q5⟩ := hdn.ok c _ hc
  obtain ⟨x, hx, hd⟩ := Dens.get q1 hi
  obtain ⟨hx1, hx2⟩ := hd
  obtain ⟨ad, q, cp, e, p1, hle, p2⟩ := hdn.ok k _ hk
  have hd2 : Dn E.cx g H (degE k' env) own2 E.n a.tmps w := (hdn.le (degE_le k' env) (fun j o hj => (hl2 j o hj).2.2))
  have hdis : ∀ b', blkOf (g k) = some b' → ∀ j o, ownq own2 j = some o → blkOf (g j) ≠ some b' := fun b' hb' j o hj ej =>
    (hl2 j o hj).2.1 (hdn.inj j k (by rw [(hl2 j o hj).2.2]; rfl) (by rw [hk]; rfl) b' ej hb')
  obtain ⟨hd3, hp⟩ := hd2.tok (k := k') (sz := sz) (Nat.le_of_ble_eq_true hm) hE hO hx1 ⟨ad, q, cp, by rw [hx2, e], p1, hle, fun p hpa hlt => by
    obtain ⟨q3, q4, q5⟩ := p2 p hpa hlt
    exact ⟨q3, ⟨q4, hdis _ (by rw [e, hpa]; simp [blkOf, Nat.blt_eq.mpr hlt])⟩, q5⟩⟩
  have hset : ∀ (ds : List SV) (ws : List Value) (i : Nat), Dens (Eng.upd g k' x) H ds ws → ws[i]? = some x → Dens (Eng.upd g k' x) H (ds.set i (.gl k' sz rows)) ws := by
    intro ds
    induction ds with
    | nil =>
      intro ws i h1 h2
      cases ws with
      | nil => simp at h2
      | cons _ _ => exact h1.elim
    | cons d ds ih =>
      intro ws i h1 h2
      cases ws with
      | nil => exact h1.elim
      | cons v ws =>
        cases i with
        | zero =>
          simp only [List.getElem?_cons_zero, Option.some.injEq] at h2
          subst h2
          exact ⟨hp, h1.2⟩
        | succ i => exact ⟨h1.1, ih ws i h1.2 (by simpa using h2)⟩
  have q1' : Dens (Eng.upd g k' x) H cs vs := Dens.upd (k := k') (fun j hj => upd_ne _ _ _ j hj) cs vs hcs q1
  refine ⟨hdf, _, H, hd3.cons (k := c) ⟨b, vs, by rw [upd_ne _ _ _ c nck', e0], hset cs vs i q1' hx, q2, q3, q4, q5⟩ fun b' hb' j o hj => ?_⟩
  rw [upd_ne _ _ _ c nck', e0] at hb'
  simp only [blkOf, Option.some.injEq] at hb'
  subst hb'
  simp only [ownq] at hj
  cases hjk : Nat.beq k' j with
  | true =>
    have := beq_true hjk
    subst this
    rw [upd_same, hx2]
    intro e3
    exact nck (hdn.inj c k (by rw [hc]; rfl) (by rw [hk]; rfl) b (by rw [e0]; rfl) e3)
  | false =>
    rw [hjk, cond_false] at hj
    rw [upd_ne _ _ _ j (fun e => by rw [e, Nat.beq_refl] at hjk; cases hjk)]
    intro e3
    exact (hl2 j o hj).1 (hdn.inj j c (by rw [(hl2 j o hj).2.2]; rfl) (by rw [hc]; rfl) b e3 (by rw [e0]; rfl))
end Go.Eng
namespace Go.Proofs.Ytmnmhehddbemkaa
open Go Go.Eng

mutual
def nonT : Tm → List Int
  | .mk k n _ l => (if k = 2 then [n] else []) ++ nonL l
def nonL : List Tm → List Int
  | [] => []
  | t :: l => nonT t ++ nonL l
end
mutual
def hasT (x : Tm) : Tm → Bool
  | .mk k n s l => same (.mk k n s l) x || hasL x l
def hasL (x : Tm) : List Tm → Bool
  | [] => false
  | t :: l => hasT x t || hasL x l
end
theorem Sm.ks {k n : Int} {s : ByteArray} {l : List Tm} (h : Sm (.mk k n s l)) : l.length ≤ 1000000 ∧ ∀ t ∈ l, Sm t := by
  cases h with
  | mk h1 h2 => exact ⟨h1, h2⟩
mutual
theorem nonT_len : ∀ t : Tm, (nonT t).length ≤ szT t
  | .mk k n s l => by
    have := nonL_len l
    rw [nonT, szT, List.length_append]
    split <;> simp <;> omega
theorem nonL_len : ∀ l : List Tm, (nonL l).length ≤ szL l
  | [] => by simp [nonL, szL]
  | t :: l => by
    have := nonT_len t
    have := nonL_len l
    rw [nonL, szL, List.length_append]
    omega
end

abbrev szO (c : Nat) : List (Nat × SO) := [(0, .cells 3 [I c])]
theorem size1_fn (t : Tm) (c : Nat) (hc : c ≤ 1000000) : Contract Try.prog 76 1 (szO c) [t.sv, .ptr 0 0] fun s post => s = .tt ∧ post = szO (c + 1) := by
  refine contract_of ty_ok [1, 2, 3, 4, 5, 6, 7] Try.func76 rfl (by decide) Try.ntmps76 rfl fun z => ?_
  refine run 400 rfl ?_
  exact at_ret rfl rfl (szO (c + 1)) ⟨rfl, rfl⟩ ⟨rfl, trivial⟩

abbrev nnO (l : List Int) : List (Nat × SO) := [(0, .cells 22 [.gl 1 1 (ints l)]), (1, .tok 1)]
abbrev nnP (l : List Int) : List (Nat × SO) := [(0, .cells 22 [.gl 2 1 (ints l)]), (2, .tok 1)]
theorem non1_fn (t : Tm) (l : List Int) (hl : l.length ≤ 1000000) : Contract Try.prog 71 2 (nnO l) [t.sv, .ptr 0 0] fun s post => s = .tt ∧ post = nnP (l ++ if t.k = 2 then [t.n] else []) := by
  refine contract_of ty_ok [3, 4, 5, 6, 7] Try.func71 rfl (by decide) Try.ntmps71 rfl fun z => ?_
  refine run 400 rfl ?_
  refine at_if rfl (fun g => ?_) (fun g => ?_)
  · have g : t.k = 2 := by simpa using g
    rw [if_pos g]
    refine run 400 rfl ?_
    refine at_gro (.tl 1 (ints [t.n])) (doesG_build ty_ok _ rfl ⟨⟨rfl, rfl, _, rfl, SVles.refl _⟩, trivial⟩ rfl rfl (by decide)) ?_
    refine run 400 rfl ?_
    refine at_weakO [(3, .cells 33 [I t.k, I t.n, .str t.s, .lst 4 (rowsT t.kids)]), (0, .cells 22 [.lst 1 (ints l)]), (1, .tok 1)] ⟨rfl, ⟨rfl, SVles.refl _⟩, rfl, ⟨rfl, SVle.gl _ _ _, trivial⟩, rfl, rfl, trivial⟩ ?_
    refine at_grow 1 2 1 (ints l ++ ints [t.n]) rfl (doesU_append ty_ok rfl rfl rfl rfl rfl rfl rfl (by simp; omega) (by show _ * 8 ≤ _; simp; omega)) rfl ?_
    refine run 400 rfl ?_
    exact at_ret rfl rfl (nnP (l ++ [t.n])) ⟨rfl, rfl⟩ ⟨by show some (SO.cells 22 [.gl 2 1 (ints l ++ ints [t.n])]) = some (SO.cells 22 [.gl 2 1 (ints (l ++ [t.n]))]); simp, rfl, trivial⟩
  · have g : ¬ t.k = 2 := by simpa using g
    rw [if_neg g, List.append_nil]
    refine at_renameC 0 1 2 1 0 rfl rfl rfl rfl ?_
    refine run 400 rfl ?_
    exact at_ret rfl rfl (nnP l) ⟨rfl, rfl⟩ ⟨rfl, rfl, trivial⟩

abbrev hsO (x : Tm) : List (Nat × SO) := [(0, .cells 33 [I x.k, I x.n, .str x.s, .lst 4 (rowsT x.kids)])]
theorem has1_fn (t x : Tm) (h : Sm t) : Contract Try.prog 79 1 (hsO x) [t.sv, .ptr 0 0] fun s post => s = .bl (!same t x) ∧ post = hsO x := by
  refine contract_of ty_ok [1, 2, 3, 4, 5, 6, 7] Try.func79 rfl (by decide) Try.ntmps79 rfl fun z => ?_
  refine run 400 rfl ?_
  refine at_fn (tsame_fn t x h) rfl ?_
  refine run 400 rfl ?_
  exact at_ret rfl rfl (hsO x) ⟨rfl, rfl⟩ ⟨rfl, trivial⟩

set_option maxRecDepth 100000 in
theorem eachZ_fn : ∀ (t : Tm) (c : Nat), Sm t → c + szT t ≤ 1000000 → Contract Try.prog 70 1 (szO c) [t.sv, .clo 76 [.ptr 0 0]] fun s post => s = .tt ∧ post = szO (c + szT t) := by
  intro t
  induction t using Tm.ind with
  | h k n s l ih =>
    intro c hsm hc
    have hL := hsm.ks
    have hlen0 : ((rowsT l).length : Int) = l.length := by rw [rowsT_len]
    refine contract_of ty_ok [1, 2, 3, 4, 5, 6, 7] Try.func70 rfl (by decide) Try.ntmps70 rfl fun z => ?_
    refine run 400 rfl ?_
    rw [szT] at hc ⊢
    refine at_metF 0 (size1_fn (.mk k n s l) c (by omega)) rfl rfl rfl ?_
    refine run 400 rfl ?_
    refine at_loop (fun p : Nat × Nat => p.1 ≤ l.length ∧ p.2 + szL (l.drop p.1) = c + (1 + szL l)) (fun p => [(1, .clo 76 [.ptr 0 0]), (2, .ptr 1 0), (12, .lst 4 (rowsT l)), (13, I (rowsT l).length), (14, I p.1)]) (fun p => (1, .cells 33 [I k, I n, .str s, .lst 4 (rowsT l)]) :: szO p.2) (fun p => l.length - p.1) [2, 3, 4, 5, 6, 7]
      (0, c + 1) ⟨by dsimp only; omega, by dsimp only; rw [List.drop_zero]; omega⟩ ⟨SVle.refl _, SVle.refl _, SVle.refl _, SVle.refl _, SVle.refl _, trivial⟩ ⟨rfl, rfl, trivial⟩ ?_
    rintro ⟨i, q⟩ ⟨a1, a2⟩
    dsimp only at a1 a2
    refine run 400 rfl ?_
    refine at_ifd rfl (fun g => ?_) (fun g => ?_)
    rotate_left
    · dsimp only at g
      rw [hlen0] at g
      have e : i = l.length := by omega
      subst e
      rw [List.drop_length] at a2
      rw [szL] at a2
      refine run 400 rfl ?_
      exact at_ret rfl rfl (szO q) ⟨rfl, by rw [show q = c + (1 + szL l) by omega]⟩ ⟨rfl, trivial⟩
    dsimp only at g
    rw [hlen0] at g
    have hlt : i < l.length := by omega
    have hget := rowsT_get hlt
    have hmem := getD_mem hlt
    rw [drop_getD hlt] at a2
    generalize l.getD i .zero = u at hget hmem a2
    refine run 400 rfl ?_
    refine at_val (.rp (tr u) 0) (does_index ty_ok _ rfl rfl rfl (by omega) (show (rowsT l)[(i : Int).toNat]? = some (tr u) from hget) rfl) ?_
    refine run 400 rfl ?_
    rw [szL] at a2
    refine at_metF 0 (ih u hmem q (hL.2 u hmem) (by omega)) rfl rfl rfl ?_
    refine run 400 rfl ?_
    exact at_again (i + 1, q + szT u) ⟨by dsimp only; omega, by dsimp only; omega⟩ (by dsimp only; omega) ⟨SVle.refl _, SVle.refl _, SVle.refl _, SVle.refl _, SVle.of_eq (by show I ((i : Int) + 1) = I ((i + 1 : Nat) : Int); rw [Int.natCast_add]; rfl), trivial⟩ ⟨rfl, rfl, trivial⟩


set_option maxRecDepth 100000 in
theorem eachN_fn : ∀ (t : Tm) (c : List Int), Sm t → c.length + szT t ≤ 1000000 → Contract Try.prog 70 2 (nnO c) [t.sv, .clo 71 [.ptr 0 0]] fun s post => s = .tt ∧ post = nnP (c ++ nonT t) := by
  intro t
  induction t using Tm.ind with
  | h k n s l ih =>
    intro c hsm hc
    have hL := hsm.ks
    have hlen0 : ((rowsT l).length : Int) = l.length := by rw [rowsT_len]
    refine contract_of ty_ok [3, 4, 5, 6, 7] Try.func70 rfl (by decide) Try.ntmps70 rfl fun z => ?_
    refine run 400 rfl ?_
    rw [szT] at hc
    rw [nonT]
    refine at_growM 0 1 2 1 (non1_fn (.mk k n s l) c (by omega)) rfl rfl rfl rfl ?_
    refine run 400 rfl ?_
    refine at_loop (fun p : Nat × List Int => p.1 ≤ l.length ∧ p.2 ++ nonL (l.drop p.1) = c ++ ((if k = 2 then [n] else []) ++ nonL l) ∧ p.2.length + szL (l.drop p.1) ≤ 1000000) (fun p => [(1, .clo 71 [.ptr 0 0]), (2, .ptr 3 0), (12, .lst 4 (rowsT l)), (13, I (rowsT l).length), (14, I p.1)]) (fun p => (3, .cells 33 [I k, I n, .str s, .lst 4 (rowsT l)]) :: nnP p.2) (fun p => l.length - p.1) [4, 5, 6, 7]
      (0, c ++ (if k = 2 then [n] else [])) ⟨by dsimp only; omega, by dsimp only; rw [List.drop_zero, List.append_assoc], by dsimp only; rw [List.drop_zero, List.length_append]; split <;> simp <;> omega⟩ ⟨SVle.refl _, SVle.refl _, SVle.refl _, SVle.refl _, SVle.refl _, trivial⟩ ⟨rfl, rfl, rfl, trivial⟩ ?_
    rintro ⟨i, q⟩ ⟨a1, a2⟩
    dsimp only at a1 a2
    refine run 400 rfl ?_
    refine at_ifd rfl (fun g => ?_) (fun g => ?_)
    rotate_left
    · dsimp only at g
      rw [hlen0] at g
      have e : i = l.length := by omega
      subst e
      rw [List.drop_length] at a2
      rw [nonL, List.append_nil] at a2
      refine run 400 rfl ?_
      exact at_ret rfl rfl (nnP q) ⟨rfl, by rw [a2.1]⟩ ⟨rfl, rfl, trivial⟩
    dsimp only at g
    rw [hlen0] at g
    have hlt : i < l.length := by omega
    have hget := rowsT_get hlt
    have hmem := getD_mem hlt
    rw [drop_getD hlt] at a2
    generalize l.getD i .zero = u at hget hmem a2
    refine run 400 rfl ?_
    refine at_val (.rp (tr u) 0) (does_index ty_ok _ rfl rfl rfl (by omega) (show (rowsT l)[(i : Int).toNat]? = some (tr u) from hget) rfl) ?_
    refine run 400 rfl ?_
    rw [nonL, szL] at a2
    have hnl := nonT_len u
    refine at_growM 0 2 8 1 (ih u hmem q (hL.2 u hmem) (by omega)) rfl rfl rfl rfl ?_
    refine at_renameC 0 8 2 1 0 rfl rfl rfl rfl ?_
    refine run 400 rfl ?_
    exact at_again (i + 1, q ++ nonT u) ⟨by dsimp only; omega, by dsimp only; rw [← a2.1, List.append_assoc], by dsimp only; rw [List.length_append]; omega⟩ (by dsimp only; omega) ⟨SVle.refl _, SVle.refl _, SVle.refl _, SVle.refl _, SVle.of_eq (by show I ((i : Int) + 1) = I ((i + 1 : Nat) : Int); rw [Int.natCast_add]; rfl), trivial⟩ ⟨rfl, rfl, rfl, trivial⟩


set_option maxRecDepth 100000 in
theorem eachH_fn : ∀ (t : Tm) (x : Tm), Sm t →  Contract Try.prog 70 1 (hsO x) [t.sv, .clo 79 [.ptr 0 0]] fun s post => ∃ b : Bool, b = hasT x t ∧ s = cond b .ff .tt ∧ post = hsO x := by
  intro t
  induction t using Tm.ind with
  | h k n s l ih =>
    intro x hsm
    have hL := hsm.ks
    have hlen0 : ((rowsT l).length : Int) = l.length := by rw [rowsT_len]
    refine contract_of ty_ok [1, 2, 3, 4, 5, 6, 7] Try.func70 rfl (by decide) Try.ntmps70 rfl fun z => ?_
    refine run 400 rfl ?_
    rw [hasT]
    refine at_metF 0 (has1_fn (.mk k n s l) x hsm) rfl rfl rfl ?_
    refine run 400 rfl ?_
    refine at_if rfl (fun h => ?_) (fun h => ?_)
    · have h : same (.mk k n s l) x = true := by simpa using h
      refine run 400 rfl ?_
      exact at_ret rfl rfl (hsO x) ⟨true, by rw [h]; rfl, rfl, rfl⟩ ⟨rfl, trivial⟩
    have h : same (.mk k n s l) x = false := by simpa using h
    rw [h, Bool.false_or]
    refine run 400 rfl ?_
    refine at_loop (fun p : Nat × Unit => p.1 ≤ l.length ∧ hasL x (l.drop p.1) = hasL x l) (fun p => [(1, .clo 79 [.ptr 0 0]), (2, .ptr 1 0), (12, .lst 4 (rowsT l)), (13, I (rowsT l).length), (14, I p.1)]) (fun p => (1, .cells 33 [I k, I n, .str s, .lst 4 (rowsT l)]) :: hsO x) (fun p => l.length - p.1) [2, 3, 4, 5, 6, 7]
      (0, ()) ⟨by dsimp only; omega, rfl⟩ ⟨SVle.refl _, SVle.refl _, SVle.refl _, SVle.refl _, SVle.refl _, trivial⟩ ⟨rfl, rfl, trivial⟩ ?_
    rintro ⟨i, q⟩ ⟨a1, a2⟩
    dsimp only at a1 a2
    refine run 400 rfl ?_
    refine at_ifd rfl (fun g => ?_) (fun g => ?_)
    rotate_left
    · dsimp only at g
      rw [hlen0] at g
      have e : i = l.length := by omega
      subst e
      rw [List.drop_length] at a2
      rw [hasL] at a2
      refine run 400 rfl ?_
      exact at_ret rfl rfl (hsO x) ⟨false, a2, rfl, rfl⟩ ⟨rfl, trivial⟩
    dsimp only at g
    rw [hlen0] at g
    have hlt : i < l.length := by omega
    have hget := rowsT_get hlt
    have hmem := getD_mem hlt
    rw [drop_getD hlt] at a2
    generalize l.getD i .zero = u at hget hmem a2
    refine run 400 rfl ?_
    refine at_val (.rp (tr u) 0) (does_index ty_ok _ rfl rfl rfl (by omega) (show (rowsT l)[(i : Int).toNat]? = some (tr u) from hget) rfl) ?_
    refine run 400 rfl ?_
    rw [hasL] at a2
    refine at_met 0 (ih u hmem x (hL.2 u hmem)) rfl rfl (fun _ => rfl) ?_
    intro b hb
    cases b with
    | true =>
      refine run 400 rfl ?_
      exact at_ret rfl rfl (hsO x) ⟨true, by rw [← a2, ← hb]; rfl, rfl, rfl⟩ ⟨rfl, trivial⟩
    | false =>
      rw [← hb, Bool.false_or] at a2
      refine run 400 rfl ?_
      exact at_again (i + 1, ()) ⟨by dsimp only; omega, a2⟩ (by dsimp only; omega) ⟨SVle.refl _, SVle.refl _, SVle.refl _, SVle.refl _, SVle.of_eq (by show I ((i : Int) + 1) = I ((i + 1 : Nat) : Int); rw [Int.natCast_add]; rfl), trivial⟩ ⟨rfl, rfl, trivial⟩

end Go.Proofs.Ytmnmhehddbemkaa
namespace Go.Proofs.Ytmnmhehddbemkaa
open Go Go.Eng

/-- Whatever is compared with a. -/
def Anti {α : Type} (c : α → α → Int) (a : α) : Prop := ∀ b, c b a = - c a b
def Tr3 {α : Type} (c : α → α → Int) (a : α) : Prop := ∀ b d, c a b ≤ 0 → c b d ≤ 0 → c a d ≤ 0 ∧ (c a b < 0 ∨ c b d < 0 → c a d < 0)

theorem orI_neg (x y : Int) : orI (-x) (-y) = - orI x y := by
  unfold orI
  by_cases h : x = 0
  · simp [h]
  · rw [if_neg h, if_neg (by omega)]
theorem anti_or {α : Type} {c1 c2 : α → α → Int} {a : α} (h1 : Anti c1 a) (h2 : Anti c2 a) : Anti (fun x y => orI (c1 x y) (c2 x y)) a := by
  intro b
  show orI (c1 b a) (c2 b a) = - orI (c1 a b) (c2 a b)
  rw [h1 b, h2 b, orI_neg]
theorem orI_cases (x y : Int) : (x ≠ 0 ∧ orI x y = x) ∨ (x = 0 ∧ orI x y = y) := by
  by_cases h : x = 0
  · exact .inr ⟨h, if_pos h⟩
  · exact .inl ⟨h, if_neg h⟩
theorem tr_or {α : Type} {c1 c2 : α → α → Int} {a : α} (h1 : Tr3 c1 a) (h2 : Tr3 c2 a) : Tr3 (fun x y => orI (c1 x y) (c2 x y)) a := by
  intro b d
  show orI (c1 a b) (c2 a b) ≤ 0 → orI (c1 b d) (c2 b d) ≤ 0 → orI (c1 a d) (c2 a d) ≤ 0 ∧ (orI (c1 a b) (c2 a b) < 0 ∨ orI (c1 b d) (c2 b d) < 0 → orI (c1 a d) (c2 a d) < 0)
  intro g1 g2
  have k1 := h1 b d
  have k2 := h2 b d
  rcases orI_cases (c1 a b) (c2 a b) with ⟨e1, e2⟩ | ⟨e1, e2⟩ <;> rcases orI_cases (c1 b d) (c2 b d) with ⟨e3, e4⟩ | ⟨e3, e4⟩ <;> rcases orI_cases (c1 a d) (c2 a d) with ⟨e5, e6⟩ | ⟨e5, e6⟩ <;> rw [e2] at g1 <;> rw [e4] at g2 <;> rw [e2, e4, e6]
  · have := k1 g1 g2; omega
  · have := k1 g1 g2; omega
  · have := k1 g1 (by omega); omega
  · have := k1 g1 (by omega); omega
  · have := k1 (by omega) g2; omega
  · have := k1 (by omega) g2; omega
  · have := k1 (by omega) (by omega); omega
  · exact k2 g1 g2

theorem anti_sgI (a : Int) : Anti sgI a := by
  intro b
  unfold sgI
  repeat' split
  all_goals omega
theorem tr_sgI (a : Int) : Tr3 sgI a := by
  intro b d
  unfold sgI
  repeat' split
  all_goals omega
theorem anti_by {α β : Type} {c : β → β → Int} (f : α → β) {a : α} (h : Anti c (f a)) : Anti (fun x y => c (f x) (f y)) a := fun b => h (f b)
theorem tr_by {α β : Type} {c : β → β → Int} (f : α → β) {a : α} (h : Tr3 c (f a)) : Tr3 (fun x y => c (f x) (f y)) a := fun b d => h (f b) (f d)

/-- Lists, by their first difference; a front stands ahead. -/
def cLst {α : Type} (c : α → α → Int) : List α → List α → Int
  | [], [] => 0
  | [], _ :: _ => -1
  | _ :: _, [] => 1
  | x :: l, y :: m => orI (c x y) (cLst c l m)
theorem anti_lst {α : Type} {c : α → α → Int} : ∀ l : List α, (∀ x ∈ l, Anti c x) → Anti (cLst c) l
  | [], _, [] => rfl
  | [], _, _ :: _ => rfl
  | _ :: _, _, [] => rfl
  | x :: l, h, y :: m => by
    rw [cLst, cLst, h x (by simp) y, anti_lst l (fun z hz => h z (by simp [hz])) m, orI_neg]
theorem tr_lst {α : Type} {c : α → α → Int} : ∀ l : List α, (∀ x ∈ l, Tr3 c x) → Tr3 (cLst c) l
  | [], _, [], [] => by simp [cLst]
  | [], _, [], _ :: _ => by simp [cLst]
  | [], _, _ :: _, [] => by simp [cLst]
  | [], _, _ :: _, _ :: _ => by simp [cLst]
  | x :: l, _, [], d => by simp [cLst]
  | x :: l, _, y :: m, [] => by simp [cLst]
  | x :: l, h, y :: m, z :: d => by
    have h1 : Tr3 c x := h x (by simp)
    have h2 := tr_lst l fun z hz => h z (by simp [hz])
    have key : Tr3 (fun (p q : α × List α) => orI (c p.1 q.1) (cLst c p.2 q.2)) (x, l) := tr_or (c1 := fun (p q : α × List α) => c p.1 q.1) (c2 := fun (p q : α × List α) => cLst c p.2 q.2) (tr_by Prod.fst h1) (tr_by Prod.snd h2)
    exact key (y, m) (z, d)

theorem cmpB_lst : ∀ a b : List UInt8, Lib.compareBytes a b = cLst (fun x y => sgI (x.toNat : Int) y.toNat) a b
  | [], [] => rfl
  | [], _ :: _ => rfl
  | _ :: _, [] => rfl
  | x :: a, y :: b => by
    rw [Lib.compareBytes, cLst, cmpB_lst a b]
    show _ = orI (sgI _ _) _
    unfold sgI
    have e1 : (x < y) = ((x.toNat : Int) < y.toNat) := by rw [UInt8.lt_iff_toNat_lt]; simp
    have e2 : (y < x) = ((y.toNat : Int) < x.toNat) := by rw [UInt8.lt_iff_toNat_lt]; simp
    simp only [e1, e2]
    split
    · rfl
    · split
      · rfl
      · rfl
theorem sgS_lst (a b : ByteArray) : sgS a b = cLst (fun x y => sgI (x.toNat : Int) y.toNat) a.data.toList b.data.toList := by rw [← cmpB_sgS, cmpB_lst]
theorem anti_sgS (a : ByteArray) : Anti sgS a := by
  intro b
  rw [sgS_lst, sgS_lst]
  exact anti_lst _ (fun x _ => anti_by (fun x : UInt8 => (x.toNat : Int)) (anti_sgI _)) _
theorem tr_sgS (a : ByteArray) : Tr3 sgS a := by
  intro b d
  rw [sgS_lst, sgS_lst, sgS_lst]
  exact tr_lst _ (fun x _ => tr_by (fun x : UInt8 => (x.toNat : Int)) (tr_sgI _)) _ _

theorem sgI_succ (a b : Nat) : sgI ((a + 1 : Nat) : Int) ((b + 1 : Nat) : Int) = sgI a b := by
  unfold sgI
  repeat' split
  all_goals omega
theorem ordL_lst : ∀ l m : List Tm, orI (ordL l m) (sgI l.length m.length) = cLst ordT l m
  | [], [] => rfl
  | [], _ :: _ => by simp [ordL, cLst, orI, sgI] <;> omega
  | _ :: _, [] => by simp [ordL, cLst, orI, sgI] <;> omega
  | x :: l, y :: m => by
    rw [ordL, cLst, ← ordL_lst l m, orI_assoc]
    simp only [List.length_cons]
    rw [sgI_succ]
theorem ordT_lex (a b : Tm) : ordT a b = orI (sgI a.k b.k) (orI (sgI a.n b.n) (orI (sgS a.s b.s) (cLst ordT a.kids b.kids))) := by
  cases a; cases b
  rw [ordT, orI_assoc, orI_assoc, orI_assoc, ordL_lst]
theorem anti_ord (a : Tm) : Anti ordT a := by
  induction a using Tm.ind with
  | h k n s l ih =>
    intro b
    have h4 := anti_lst l ih
    have key := anti_or (c1 := fun x y : Tm => sgI x.k y.k) (anti_by (a := Tm.mk k n s l) Tm.k (anti_sgI k)) (anti_or (c1 := fun x y : Tm => sgI x.n y.n) (anti_by (a := Tm.mk k n s l) Tm.n (anti_sgI n)) (anti_or (c1 := fun x y : Tm => sgS x.s y.s) (anti_by (a := Tm.mk k n s l) Tm.s (anti_sgS s)) (anti_by (a := Tm.mk k n s l) Tm.kids h4))) b
    rw [ordT_lex, ordT_lex (.mk k n s l)]
    exact key
theorem tr_ord (a : Tm) : Tr3 ordT a := by
  induction a using Tm.ind with
  | h k n s l ih =>
    intro b d
    have h4 := tr_lst l ih
    have key := tr_or (c1 := fun x y : Tm => sgI x.k y.k) (tr_by (a := Tm.mk k n s l) Tm.k (tr_sgI k)) (tr_or (c1 := fun x y : Tm => sgI x.n y.n) (tr_by (a := Tm.mk k n s l) Tm.n (tr_sgI n)) (tr_or (c1 := fun x y : Tm => sgS x.s y.s) (tr_by (a := Tm.mk k n s l) Tm.s (tr_sgS s)) (tr_by (a := Tm.mk k n s l) Tm.kids h4))) b d
    rw [ordT_lex (.mk k n s l) b, ordT_lex b d, ordT_lex (.mk k n s l) d]
    exact key

theorem ord_anti (a b : Tm) : ordT b a = - ordT a b := anti_ord a b
theorem ord_trans {a b c : Tm} (h1 : ordT a b < 0) (h2 : ordT b c < 0) : ordT a c < 0 := (tr_ord a b c (by omega) (by omega)).2 (.inl h1)
theorem ord_irr (a : Tm) : ordT a a = 0 := ordT_self a
end Go.Proofs.Ytmnmhehddbemkaa
