/- The proof engine, part 9: building; lengths; one operation as a whole. -/
import Derived.Test.YtmnmhehddbemkaaOps3
namespace Go.Eng

section
variable {P : Program} {m0 : Nat} {env : List (Nat × SV)} {own : List (Nat × SO)}

theorem fold_splice (vs : List Value) : ∀ (i off : Nat) (cs : Array Value), off + i + vs.length ≤ cs.size →
    ((vs.zipIdx i).foldl (fun (cs : Array Value) (p : Value × Nat) => cs.setIfInBounds (off + p.2) p.1) cs).toList = splice vs (off + i) cs.toList := by
  induction vs with
  | nil => intro i off cs _; simp [splice]
  | cons v vs ih =>
    intro i off cs h
    simp only [List.length_cons] at h
    simp only [List.zipIdx_cons, List.foldl_cons]
    rw [ih (i + 1) off (cs.setIfInBounds (off + i) v) (by simp; omega)]
    simp only [splice, Array.toList_setIfInBounds, List.length_cons]
    apply List.ext_getElem?
    intro j
    have hz : cs.toList.length = cs.size := by simp
    simp only [List.getElem?_append, List.getElem?_take, List.getElem?_drop, List.length_append, List.length_take, List.length_set, List.length_cons, List.getElem?_set, hz]
    by_cases h1 : j < off + i
    · have e1 : min (off + (i + 1)) cs.size = off + i + 1 := by omega
      have e2 : min (off + i) cs.size = off + i := by omega
      simp only [e1, e2]
      rw [if_pos (by omega), if_pos (by omega), if_pos (by omega), if_neg (by omega), if_pos (by omega), if_pos (by omega), if_pos (by omega)]
    · by_cases h2 : j = off + i
      · have e1 : min (off + (i + 1)) cs.size = off + i + 1 := by omega
        have e2 : min (off + i) cs.size = off + i := by omega
        simp only [e1, e2]
        rw [if_pos (by omega), if_pos (by omega), if_pos (by omega), if_pos (by omega), if_pos (by omega), if_pos (by omega), if_neg (by omega)]
        have : j - (off + i) = 0 := by omega
        rw [this]
        rfl
      · have e1 : min (off + (i + 1)) cs.size = off + i + 1 := by omega
        have e2 : min (off + i) cs.size = off + i := by omega
        simp only [e1, e2]
        obtain ⟨m, hm⟩ : ∃ m, j = off + i + 1 + m := ⟨j - (off + i + 1), by omega⟩
        subst hm
        by_cases h3 : m < vs.length
        · rw [if_pos (by omega), if_neg (by omega), if_pos (by omega), if_neg (by omega)]
          have a1 : off + i + 1 + m - (off + i + 1) = m := by omega
          have a2 : off + i + 1 + m - (off + i) = m + 1 := by omega
          rw [a1, a2]
          rfl
        · rw [if_neg (by omega), if_neg (by omega)]
          have a1 : off + (i + 1) + vs.length + (off + i + 1 + m - (off + i + 1 + vs.length)) = off + i + 1 + m := by omega
          have a2 : off + i + (vs.length + 1) + (off + i + 1 + m - (off + i + (vs.length + 1))) = off + i + 1 + m := by omega
          rw [if_neg (by omega), a1, a2]

theorem splice_length {β : Type} {new old : List β} {off : Nat} (h : off + new.length ≤ old.length) : (splice new off old).length = old.length := by
  unfold splice
  simp only [List.length_append, List.length_take, List.length_drop]
  omega

theorem fill_ok {fs : List Field} {g : Nat → Value} {H : Hp} {n : Nat} {a : Act} {w : World} {cx : Cx} (hd : Dn cx g H env own n a.tmps w) (place : Nat → Option (Nat × Nat))
    (hp : ∀ i fl, fs[i]? = some fl → place i = some (fl.offset, P.cellsOf fl.type)) :
    ∀ (ps : List (Nat × Operand)) (cs r : List SV) (zs : Array Value), fillS (fisOf P fs) env ps cs = some r → Dens g H cs zs.toList →
      ∃ zs', Instr.fill place zs (ps.map fun (i, x) => (i, a.eval x)) = some zs' ∧ Dens g H r zs'.toList := by
  intro ps
  induction ps with
  | nil =>
    intro cs r zs h hz
    simp only [fillS, Option.some.injEq] at h
    subst h
    exact ⟨zs, rfl, hz⟩
  | cons p ps ih =>
    obtain ⟨i, x⟩ := p
    intro cs r zs h hz
    simp only [fillS] at h
    cases hfi : (fisOf P fs)[i]? with
    | none => simp [hfi] at h
    | some fi =>
      simp only [hfi] at h
      obtain ⟨fl, h1, h2, h3, _⟩ := fis_get hfi
      split at h
      · cases hc : cellsOf (ev env x) with
        | none => simp [hc] at h
        | some l =>
          simp only [hc] at h
          split at h
          · rename_i hl
            have hdx := cellsOf_den hc (hd.ev x)
            have hlen := hdx.length
            have hlen2 := hz.length
            have hsz : (a.eval x).cells.size = l.length := by simpa using hlen
            have hzs : zs.size = cs.length := by simpa using hlen2
            simp only [List.map_cons, Instr.fill, hp i fl h1]
            have hcond : ((a.eval x).cells.size ≠ P.cellsOf fl.type || fl.offset + (a.eval x).cells.size > zs.size) = false := by
              rw [hsz, hzs, ← h2, ← h3]
              simp [hl.1]
              omega
            simp only [hcond, Bool.false_eq_true, if_false]
            refine ih _ r _ h ?_
            have hf := fold_splice (a.eval x).cells.toList 0 fl.offset zs (by simp only [Nat.add_zero, Array.length_toList]; rw [hsz, hzs, ← h2]; omega)
            simp only [Nat.add_zero] at hf
            have hfo : (Array.foldl (fun (cs : Array Value) (x : Value × Nat) => cs.setIfInBounds (fl.offset + x.2) x.1) zs (a.eval x).cells.zipIdx).toList = splice (a.eval x).cells.toList fl.offset zs.toList := by
              rw [← hf, ← Array.foldl_toList, Array.toList_zipIdx]
            show Dens g H _ (Array.foldl (fun (cs : Array Value) (x : Value × Nat) => cs.setIfInBounds (fl.offset + x.2) x.1) zs (a.eval x).cells.zipIdx).toList
            rw [hfo, ← h2]
            exact hdx.splice hz
          · cases h
      · cases h

theorem run_places (w : World) : ∀ (fs : List Field), (∀ f ∈ fs, (P.info? f.type).isSome = true) →
    (fs.mapM (m := Sem) fun f => do pure (f.offset, ← sizeOf f.type)).run P w = .ok (fs.map fun f => (f.offset, P.cellsOf f.type)) w
  | [], _ => by simp
  | f :: fs, h => by
    obtain ⟨i, hi⟩ := Option.isSome_iff_exists.1 (h f (by simp))
    have ih := run_places w fs (fun x hx => h x (by simp [hx]))
    have hc : P.cellsOf f.type = i.size := by unfold Program.cellsOf; simp [hi]
    simp only [List.mapM_cons, Sem.run_bind, run_sizeOf' hi, Result.andThen_ok, Sem.run_pure, ih, List.map_cons, hc]

theorem does_build {o : Oper} {t : Nat} {ps : Array (Nat × Operand)} {r : List SV} (ho : o.op = .build t ps) (hk : (tiOf P t).kd = .struct) (hz : (tiOf P t).zok = true)
    (hok : ∀ fi ∈ (tiOf P t).flds, fi.ok = true) (h : fillS (tiOf P t).flds env ps.toList (constsS (tiOf P t).zero) = some r) : DoesV P o env own (.agg r) := by
  obtain ⟨ti, fs, hs, hf⟩ := struct_spec hk
  obtain ⟨z, hz1, hz2⟩ := zero_spec hs hz
  rw [hf] at h hok
  refine does_val fun cx g H n a w hd => ?_
  have hinfo : ∀ f ∈ fs.toList, (P.info? f.type).isSome = true := by
    intro f hfm
    have := hok _ (List.mem_map.2 ⟨f, hfm, rfl⟩)
    rw [Bool.and_eq_true] at this
    exact this.1
  obtain ⟨zs', hfill, hden⟩ := fill_ok (P := P) (fs := fs.toList) hd (fun i => (fs.map fun f => (f.offset, P.cellsOf f.type))[i]?) (fun i fl hfl => by
    have : fs[i]? = some fl := by simpa using hfl
    simp [this]) ps.toList _ r z.cells h (by rw [hz2]; exact constsS_den g H _)
  refine ⟨.agg zs', ?_, zs'.toList, by simp, hden⟩
  have hpl : (fs.mapM (m := Sem) fun f => do pure (f.offset, ← sizeOf f.type)).run P w = .ok (fs.map fun f => (f.offset, P.cellsOf f.type)) w := by
    rw [← Array.toArray_toList (xs := fs), List.mapM_toArray, Sem.run_map, run_places w fs.toList hinfo]
    simp only [Result.andThen_ok]
    congr 1
    apply Array.ext'
    simp
  have hps : (ps.map fun (i, x) => (i, a.eval x)).toList = ps.toList.map fun (i, x) => (i, a.eval x) := by simp
  simp only [execOp, ho, Instr.build, Sem.run_bind, run_zero' hs.info hz1, run_underlying hs.und, Result.andThen_ok, hpl, hps]
  rw [hfill]
  simp

theorem does_len {o : Oper} {t : Nat} {x : Operand} {c : Call} (ho : o.op = .call c) (hc : c.callee = .builtin .len) (ha : c.args.toList = [x]) (hat : c.argTypes.toList = [t]) :
    ((tiOf P t).kd = .slice → ∀ sz r, ev env x = .lst sz r → DoesV P o env own (.int .i64 r.length)) ∧
    ((tiOf P t).kd = .slice → ∀ k sz r, ev env x = .gl k sz r → DoesV P o env own (.int .i64 r.length)) ∧
    ((tiOf P t).kd = .slice → ∀ sz r, ev env x = .tl sz r → DoesV P o env own (.int .i64 r.length)) ∧
    ((tiOf P t).kd = .slice → ∀ k n, ev env x = .arr k n → DoesV P o env own (.int .i64 n)) ∧
    ((tiOf P t).kd = .str → ∀ b, ev env x = .str b → DoesV P o env own (.int .i64 b.size)) := by
  have ea : c.args = #[x] := by rw [← Array.toArray_toList (xs := c.args), ha]
  have eat : c.argTypes = #[t] := by rw [← Array.toArray_toList (xs := c.argTypes), hat]
  have hrun : ∀ (a : Act) (w : World) (v : Value), (Builtin.len_ #[t] o.type #[a.eval x]).run P w = .ok v w → (execOp a.eval o).run P w = .ok (.value v) w := by
    intro a w v h
    simp only [execOp, ho, resolve, hc, ea, eat]
    simp [invoke, builtin, h]
  have slice : (tiOf P t).kd = .slice → ∀ (a : Act) (w : World) (ad : Option Addr) (n c : Nat), a.eval x = .slice ad n c → (execOp a.eval o).run P w = .ok (.value (.int .i64 n)) w := by
    intro hk a w ad n c he
    obtain ⟨i, d, hs, e⟩ := und_kd (P := P) hk (by simp)
    cases d <;> simp [kdOf] at e
    exact hrun a w _ (by simp [Builtin.len_, he, run_underlying hs.und, goInt])
  refine ⟨fun hk sz r hx => does_val fun cx g H n a w hd => ?_, fun hk k sz r hx => does_val fun cx g H n a w hd => ?_, fun hk sz r hx => does_val fun cx g H n a w hd => ?_, fun hk k m hx => does_val fun cx g H n a w hd => ?_, fun hk b hx => does_val fun cx g H n a w hd => ?_⟩
  · have h := hd.ev x
    rw [hx] at h
    obtain ⟨ad, c, he, _⟩ := h
    exact ⟨_, slice hk a w ad _ c he, rfl⟩
  · have h := hd.ev x
    rw [hx] at h
    obtain ⟨ad, c, he, _⟩ := h.1
    exact ⟨_, slice hk a w ad _ c he, rfl⟩
  · have h := hd.ev x
    rw [hx] at h
    obtain ⟨ad, c, he, _⟩ := h.1
    exact ⟨_, slice hk a w ad _ c he, rfl⟩
  · have h := hd.ev x
    rw [hx] at h
    obtain ⟨b, _, he⟩ := h
    exact ⟨_, slice hk a w _ _ _ he, rfl⟩
  · have h := hd.ev x
    rw [hx] at h
    have h : a.eval x = .string b := h
    obtain ⟨i, d, hs, e⟩ := und_kd (P := P) hk (by simp)
    have e' : d = .string := by cases d <;> simp [kdOf] at e; rfl
    subst e'
    exact ⟨_, hrun a w _ (by simp [Builtin.len_, h, run_underlying hs.und, goInt]), rfl⟩

theorem does_max {o : Oper} {x y : Operand} {c : Call} {j : IntKind} {m n : Int} (ho : o.op = .call c) (hc : c.callee = .builtin .max) (ha : c.args.toList = [x, y]) (hx : ev env x = .int j m) (hy : ev env y = .int j n) :
    DoesV P o env own (.int j (if n > m then n else m)) := by
  have ea : c.args = #[x, y] := by rw [← Array.toArray_toList (xs := c.args), ha]
  refine does_val fun cx g H q a w hd => ?_
  have h1 := hd.ev x
  have h2 := hd.ev y
  rw [hx] at h1
  rw [hy] at h2
  have h1 : a.eval x = .int j m := h1
  have h2 : a.eval y = .int j n := h2
  refine ⟨.int j (if n > m then n else m), ?_, rfl⟩
  simp only [execOp, ho, resolve, hc, ea]
  simp [invoke, builtin, Builtin.max_, Builtin.max2, h1, h2]

end

end Go.Eng
