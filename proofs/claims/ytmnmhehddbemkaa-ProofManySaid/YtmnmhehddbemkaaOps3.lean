/- The proof engine, part 8: comparing, adding, building. -/
import Derived.Test.YtmnmhehddbemkaaOps2
namespace Go.Eng

section
variable {P : Program} {m0 : Nat} {env : List (Nat × SV)} {own : List (Nat × SO)}

theorem does_bin {o : Oper} {op : BinOp} {t : Nat} {x y : Operand} {ty : Nat} {s : SV} (ho : o.op = .binOp op t x y ty)
    (h : ∀ (g : Nat → Value) (H : Hp) (u v : Value) (w : World), Den g H (ev env x) u → Den g H (ev env y) v →
      ∃ r, (eqGuard op t x y u v).run P w = .ok () w ∧ (binOp op t u v).run P w = .ok r w ∧ Den g H s r) : DoesV P o env own s := by
  refine does_val fun cx g H n a w hd => ?_
  obtain ⟨r, h1, h2, h3⟩ := h g H _ _ w (hd.ev x) (hd.ev y)
  exact ⟨r, by simp [execOp, ho, h1, h2], h3⟩

theorem does_binInt {o : Oper} {op : BinOp} {t : Nat} {x y : Operand} {ty : Nat} {s : SV} {k : IntKind} {m n : Int} (ho : o.op = .binOp op t x y ty) (hx : ev env x = .int k m) (hy : ev env y = .int k n)
    (h : ∀ (w : World), ∃ r, (binOp op t (.int k m) (.int k n)).run P w = .ok r w ∧ ∀ g H, Den g H s r) : DoesV P o env own s := by
  refine does_bin ho fun g H u v w hu hv => ?_
  rw [hx] at hu
  rw [hy] at hv
  have hu : u = .int k m := hu
  have hv : v = .int k n := hv
  subst hu; subst hv
  obtain ⟨r, h1, h2⟩ := h w
  exact ⟨r, by rw [eqGuard_at_int]; rfl, h1, h2 g H⟩

theorem does_binStr {o : Oper} {op : BinOp} {t : Nat} {x y : Operand} {ty : Nat} {s : SV} {a b : ByteArray} (ho : o.op = .binOp op t x y ty) (hx : ev env x = .str a) (hy : ev env y = .str b)
    (h : ∀ (w : World), ∃ r, (binOp op t (.string a) (.string b)).run P w = .ok r w ∧ ∀ g H, Den g H s r) : DoesV P o env own s := by
  refine does_bin ho fun g H u v w hu hv => ?_
  rw [hx] at hu
  rw [hy] at hv
  have hu : u = .string a := hu
  have hv : v = .string b := hv
  subst hu; subst hv
  obtain ⟨r, h1, h2⟩ := h w
  exact ⟨r, by rw [eqGuard_at_string]; rfl, h1, h2 g H⟩

theorem run_int (op : BinOp) (t : Nat) (k : IntKind) (m n : Int) (w : World) :
    (op = .add → inR k (m + n) → (binOp op t (.int k m) (.int k n)).run P w = .ok (.int k (m + n)) w) ∧
    (op = .sub → inR k (m - n) → (binOp op t (.int k m) (.int k n)).run P w = .ok (.int k (m - n)) w) ∧
    (op = .mul → inR k (m * n) → (binOp op t (.int k m) (.int k n)).run P w = .ok (.int k (m * n)) w) ∧
    (op = .quo → n ≠ 0 → inR k (m.tdiv n) → (binOp op t (.int k m) (.int k n)).run P w = .ok (.int k (m.tdiv n)) w) ∧
    (op = .rem → n ≠ 0 → (binOp op t (.int k m) (.int k n)).run P w = .ok (.int k (m.tmod n)) w) ∧
    (op = .eql → (binOp op t (.int k m) (.int k n)).run P w = .ok (.bool (m == n)) w) ∧
    (op = .neq → (binOp op t (.int k m) (.int k n)).run P w = .ok (.bool (m != n)) w) ∧
    (op = .lss → (binOp op t (.int k m) (.int k n)).run P w = .ok (.bool (decide (m < n))) w) ∧
    (op = .leq → (binOp op t (.int k m) (.int k n)).run P w = .ok (.bool (decide (m ≤ n))) w) ∧
    (op = .gtr → (binOp op t (.int k m) (.int k n)).run P w = .ok (.bool (decide (n < m))) w) ∧
    (op = .geq → (binOp op t (.int k m) (.int k n)).run P w = .ok (.bool (decide (n ≤ m))) w) := by
  refine ⟨?_, ?_, ?_, ?_, ?_, ?_, ?_, ?_, ?_, ?_, ?_⟩
  · rintro rfl h; simp [binOp, Op.intArith, inR_wrap h]
  · rintro rfl h; simp [binOp, Op.intArith, inR_wrap h]
  · rintro rfl h; simp [binOp, Op.intArith, inR_wrap h]
  · rintro rfl h0 h; simp [binOp, Op.intDiv, h0, inR_wrap h]
  · rintro rfl h0; simp [binOp, Op.intDiv, h0]
  · rintro rfl; simp [binOp, Op.intCmp]
  · rintro rfl; simp [binOp, Op.intCmp]
  · rintro rfl; simp [binOp, Op.intCmp]
  · rintro rfl; simp [binOp, Op.intCmp]
  · rintro rfl; simp [binOp, Op.intCmp]
  · rintro rfl; simp [binOp, Op.intCmp]

theorem run_str (op : BinOp) (t : Nat) (a b : ByteArray) (w : World) :
    (op = .eql → (binOp op t (.string a) (.string b)).run P w = .ok (.bool (seq a b)) w) ∧
    (op = .neq → (binOp op t (.string a) (.string b)).run P w = .ok (.bool (!seq a b)) w) ∧
    (op = .lss → (binOp op t (.string a) (.string b)).run P w = .ok (.bool (slt a b)) w) ∧
    (op = .leq → (binOp op t (.string a) (.string b)).run P w = .ok (.bool (slt a b || seq a b)) w) ∧
    (op = .gtr → (binOp op t (.string a) (.string b)).run P w = .ok (.bool (!(slt a b || seq a b))) w) ∧
    (op = .geq → (binOp op t (.string a) (.string b)).run P w = .ok (.bool (!slt a b)) w) ∧
    (op = .add → ((a.size + b.size : Nat) : Int) ≤ 9223372036854775807 → (binOp op t (.string a) (.string b)).run P w = .ok (.string (a ++ b)) w) := by
  refine ⟨?_, ?_, ?_, ?_, ?_, ?_, ?_⟩
  · rintro rfl; simp only [binOp, Op.stringOp, seq]; rfl
  · rintro rfl; simp only [binOp, Op.stringOp, seq]; rfl
  · rintro rfl; simp only [binOp, Op.stringOp, slt]; rfl
  · rintro rfl; simp only [binOp, Op.stringOp, slt, seq]; rfl
  · rintro rfl; simp only [binOp, Op.stringOp, slt, seq]; rfl
  · rintro rfl; simp only [binOp, Op.stringOp, slt]; rfl
  · rintro rfl h
    have : ¬ ((a.size + b.size : Nat) : Int) > IntKind.i64.max := by rw [IntKind.max_i64]; omega
    simp only [binOp, Op.stringOp, if_neg this]
    rfl

theorem run_boolEqIn (t : Nat) (hk : (tiOf P t).kd = .bool) (a b : Bool) (d : Nat) (w : World) : (Op.equalIn (d + 1) t (.bool a) (.bool b)).run P w = .ok (a == b) w := by
  obtain ⟨i, dd, hs, e⟩ := und_kd (P := P) hk (by simp)
  have e' : dd = .bool := by cases dd <;> simp [kdOf] at e; rfl
  subst e'
  simp [Op.equalIn, run_underlying hs.und]

theorem run_boolEq (op : BinOp) (t : Nat) (hk : (tiOf P t).kd = .bool) (a b : Bool) (w : World) :
    (op = .eql → (binOp op t (.bool a) (.bool b)).run P w = .ok (.bool (a == b)) w) ∧ (op = .neq → (binOp op t (.bool a) (.bool b)).run P w = .ok (.bool (a != b)) w) := by
  have h := run_boolEqIn (P := P) t hk a b 9999 w
  refine ⟨?_, ?_⟩
  · rintro rfl
    show ((Op.equalIn (9999 + 1) t (.bool a) (.bool b)) >>= fun r => pure (Value.bool r)).run P w = _
    rw [Sem.run_bind, h]
    rfl
  · rintro rfl
    show ((Op.equalIn (9999 + 1) t (.bool a) (.bool b)) >>= fun r => pure (Value.bool (!r))).run P w = _
    rw [Sem.run_bind, h]
    rfl

theorem does_binBool {o : Oper} {op : BinOp} {t : Nat} {x y : Operand} {ty : Nat} {a b : Bool} (ho : o.op = .binOp op t x y ty) (hx : boolS (ev env x) = some a) (hy : boolS (ev env y) = some b) (hk : (tiOf P t).kd = .bool) :
    (op = .eql → DoesV P o env own (.bl (a == b))) ∧ (op = .neq → DoesV P o env own (.bl (a != b))) := by
  refine ⟨fun he => does_bin ho fun g H u v w hu hv => ?_, fun he => does_bin ho fun g H u v w hu hv => ?_⟩
  · rw [boolS_den hx hu, boolS_den hy hv]
    exact ⟨_, by rw [eqGuard_at_bool]; rfl, (run_boolEq op t hk a b w).1 he, rfl⟩
  · rw [boolS_den hx hu, boolS_den hy hv]
    exact ⟨_, by rw [eqGuard_at_bool]; rfl, (run_boolEq op t hk a b w).2 he, rfl⟩

/-- Comparing two plain values. -/
theorem run_same1 {g : Nat → Value} {H : Hp} {t : Nat} {x y : SV} {b : Bool} {u v : Value} (h : same1S (tiOf P t).kd x y = some b) (hu : Den g H x u) (hv : Den g H y v) (d : Nat) (w : World) :
    (Op.equalIn (d + 1) t u v).run P w = .ok b w := by
  unfold same1S same1K at h
  split at h
  · rename_i k j a i b' hk
    cases hki : kbeq j i with
    | false => simp [hki] at h
    | true =>
      simp only [hki, cond_true, Option.some.injEq] at h
      have := kbeq_eq hki
      subst this
      obtain ⟨ti, dd, hs, e⟩ := und_kd (P := P) hk (by simp)
      have e' : dd = .int k := by cases dd <;> simp [kdOf] at e; exact congrArg _ e
      subst e'
      have hu : u = .int j a := hu
      have hv : v = .int j b' := hv
      subst hu; subst hv; subst h
      simp [Op.equalIn, run_underlying hs.und]
  · rename_i a b' hk
    simp only [Option.some.injEq] at h
    obtain ⟨ti, dd, hs, e⟩ := und_kd (P := P) hk (by simp)
    have e' : dd = .string := by cases dd <;> simp [kdOf] at e; rfl
    subst e'
    have hu : u = .string a := hu
    have hv : v = .string b' := hv
    subst hu; subst hv; subst h
    simp [Op.equalIn, run_underlying hs.und, seq, beq_toListBytes]
  · rename_i x y k0 x' y' hk
    simp only [boolK_eq] at h
    cases hx : boolS x with
    | none => simp [hx] at h
    | some a =>
      cases hy : boolS y with
      | none => simp [hx, hy] at h
      | some b' =>
        simp only [hx, hy, Option.some.injEq] at h
        rw [boolS_den hx hu, boolS_den hy hv]
        obtain ⟨ti, dd, hs, e⟩ := und_kd (P := P) hk (by simp)
        have e' : dd = .bool := by cases dd <;> simp [kdOf] at e; rfl
        subst e'; subst h
        simp [Op.equalIn, run_underlying hs.und]
  · cases h

theorem run_part {t off : Nat} {d : TypeDesc} {cs : Array Value} {v : Value} (hu : P.underlying t = some d) (ha : isAggB P t = false) (hc : cs[off]? = some v) (w : World) : (part t cs off).run P w = .ok v w := by
  simp [part, run_isAgg' hu, ha, hc]

theorem run_eqFields {g : Nat → Value} {H : Hp} (d : Nat) (us vs : List Value) : ∀ (fs : List Field) (i : Nat) (xs ys : List SV) (b : Bool), sameS (tiOf P) i (fisOf P fs) xs ys = some b →
    Dens g H xs (us.drop i) → Dens g H ys (vs.drop i) → ∀ w, (Op.eqFields (d + 1) us.toArray vs.toArray fs).run P w = .ok b w
  | [], i, xs, ys, b, h, _, _, w => by
    cases xs <;> cases ys <;> simp [fisOf, sameS] at h
    subst h
    simp [Op.eqFields]
  | fl :: fs, i, [], ys, b, h, _, _, _ => by simp [fisOf, sameS] at h
  | fl :: fs, i, x :: xs, [], b, h, _, _, _ => by simp [fisOf, sameS] at h
  | fl :: fs, i, x :: xs, y :: ys, b, h, hx, hy, w => by
    simp only [fisOf, List.map_cons, sameS] at h
    split at h
    · rename_i hc
      obtain ⟨hok, hnm, hag, hoff⟩ := hc
      cases h1 : same1S (tiOf P fl.type).kd x y with
      | none => simp [h1] at h
      | some b1 =>
        simp only [h1] at h
        cases h2 : sameS (tiOf P) (i + 1) (fs.map fun f => { off := f.offset, size := P.cellsOf f.type, ag := isAggB P f.type, ty := f.type, nm := f.name != "_", ok := (P.info? f.type).isSome && (P.underlying f.type).isSome }) xs ys with
        | none => simp [h2] at h
        | some b2 =>
          simp only [h2, Option.map_some, Option.some.injEq] at h
          have hu : ∃ u, us[i]? = some u ∧ Den g H x u ∧ Dens g H xs (us.drop (i + 1)) := by
            cases hd : us.drop i with
            | nil => rw [hd] at hx; exact hx.elim
            | cons u r =>
              rw [hd] at hx
              have e1 : us[i]? = some u := by
                have := List.getElem?_drop (xs := us) (i := i) (j := 0)
                rw [hd] at this
                simpa using this.symm
              have e2 : us.drop (i + 1) = r := by rw [← List.drop_drop, hd]; rfl
              exact ⟨u, e1, hx.1, by rw [e2]; exact hx.2⟩
          have hv : ∃ u, vs[i]? = some u ∧ Den g H y u ∧ Dens g H ys (vs.drop (i + 1)) := by
            cases hd : vs.drop i with
            | nil => rw [hd] at hy; exact hy.elim
            | cons u r =>
              rw [hd] at hy
              have e1 : vs[i]? = some u := by
                have := List.getElem?_drop (xs := vs) (i := i) (j := 0)
                rw [hd] at this
                simpa using this.symm
              have e2 : vs.drop (i + 1) = r := by rw [← List.drop_drop, hd]; rfl
              exact ⟨u, e1, hy.1, by rw [e2]; exact hy.2⟩
          obtain ⟨u, eu, du, ru⟩ := hu
          obtain ⟨v, ev, dv, rv⟩ := hv
          rw [Bool.and_eq_true] at hok
          obtain ⟨dd, hund⟩ := Option.isSome_iff_exists.1 hok.2
          have hne : fl.name ≠ "_" := by simpa using hnm
          have p1 := run_part (P := P) (cs := us.toArray) (v := u) hund hag (off := fl.offset) (by rw [hoff]; simpa using eu) w
          have p2 := run_part (P := P) (cs := vs.toArray) (v := v) hund hag (off := fl.offset) (by rw [hoff]; simpa using ev) w
          have ih := run_eqFields d us vs fs (i + 1) xs ys b2 h2 ru rv w
          simp only [Op.eqFields, if_pos hne, Sem.run_bind, p1, p2, Result.andThen_ok, run_same1 h1 du dv]
          subst h
          cases b1 with
          | true => simpa using ih
          | false => simp
    · cases h

theorem does_binStruct {o : Oper} {op : BinOp} {t : Nat} {x y : Operand} {ty : Nat} {xs ys : List SV} {b : Bool} (ho : o.op = .binOp op t x y ty) (hx : ev env x = .agg xs) (hy : ev env y = .agg ys) (hf : (tiOf P t).flat = true)
    (h : sameS (tiOf P) 0 (tiOf P t).flds xs ys = some b) : (op = .eql → DoesV P o env own (.bl b)) ∧ (op = .neq → DoesV P o env own (.bl (!b))) := by
  have hk : (tiOf P t).kd ≠ .other := by
    intro hk
    unfold tiOf at hf hk
    revert hf hk
    cases Nat.blt t P.types.size with
    | false => simp [TI.bad]
    | true =>
      cases P.info? t with
      | none => simp [TI.bad]
      | some i =>
        cases P.underlying t with
        | none => simp [TI.bad]
        | some d =>
          simp only [cond_true, tiOf1]
          cases hd : (kdOf d).isOther with
          | true => simp [TI.bad]
          | false =>
            simp only [cond_false]
            intro _ hk
            rw [hk] at hd
            simp [KI.isOther] at hd
  obtain ⟨i, d, hs⟩ := ti_spec (P := P) hk
  have hfl := hs.flat
  rw [hf] at hfl
  have hst : ∃ fs, d = .struct fs ∧ P.stoodInHeld t = false ∧ P.eqGuardType P.depth t = false := by
    unfold flatB at hfl
    rw [hs.und] at hfl
    cases d <;> simp at hfl
    exact ⟨_, rfl, hfl.1, hfl.2⟩
  obtain ⟨fs, e, hst, hg⟩ := hst
  subst e
  rw [hs.flds] at h
  have hfo : P.fieldsOf t = fs := by unfold Program.fieldsOf; rw [hs.und]
  have key : ∀ (g : Nat → Value) (H : Hp) (u v : Value) (w : World), Den g H (ev env x) u → Den g H (ev env y) v → (eqGuard op t x y u v).run P w = .ok () w ∧ (Op.equal t u v).run P w = .ok b w ∧ ∃ us vs, u = .agg us ∧ v = .agg vs := by
    intro g H u v w hu hv
    rw [hx] at hu
    rw [hy] at hv
    obtain ⟨us, eu, du⟩ := hu
    obtain ⟨vs, ev, dv⟩ := hv
    subst eu; subst ev
    refine ⟨?_, ?_, us.toArray, vs.toArray, rfl, rfl⟩
    · unfold eqGuard
      cases op <;> simp [hg]
    · have := run_equalIn_struct (P := P) w 9999 t us.toArray vs.toArray (by rw [hfo]; exact hs.und) hst
      unfold Op.equal Op.maxDepth
      rw [this, hfo]
      exact run_eqFields 9998 us vs fs.toList 0 xs ys b h (by simpa using du) (by simpa using dv) w
  refine ⟨fun he => does_bin ho fun g H u v w hu hv => ?_, fun he => does_bin ho fun g H u v w hu hv => ?_⟩
  · obtain ⟨h1, h2, us, vs, e1, e2⟩ := key g H u v w hu hv
    subst he; subst e1; subst e2
    exact ⟨_, h1, by simp [binOp, h2], rfl⟩
  · obtain ⟨h1, h2, us, vs, e1, e2⟩ := key g H u v w hu hv
    subst he; subst e1; subst e2
    exact ⟨_, h1, by simp [binOp, h2], rfl⟩

end

end Go.Eng
