/- The proof engine, part 12: contracts, entering, calling, returning. -/
import Derived.Test.YtmnmhehddbemkaaSat
namespace Go.Eng

/-- The function is one that is entered. -/
def Enter (P : Program) (f : FuncId) : Prop := ∀ args w, (callFunc f args).run P w = .ok (.enter f args) w

def preX (g : Nat → Value) (pre : List (Nat × SO)) (b : Nat) : Prop := ∃ k, (ownq pre k).isSome = true ∧ blkOf (g k) = some b

/-- A contract: handed what args stand for, with own blocks as pre says, the function returns what Post says. -/
def Contract (P : Program) (f : FuncId) (m0 : Nat) (pre : List (Nat × SO)) (args : List SV) (Post : SV → List (Nat × SO) → Prop) : Prop :=
  Enter P f ∧ ∀ (g : Nat → Value) (H : Hp) (w : World) (vs : List Value), H.on w → (∀ k o, ownq pre k = some o → OwnOk (fun _ => True) g H w k o) → InjOn g pre → Dens g H args vs →
    Calls P f vs.toArray w (FinE ⟨w, H, g, m0, preX g pre⟩ Post)

structure Z where
  w0 : World
  H0 : Hp
  g0 : Nat → Value
  X : Nat → Prop

def mkE (P : Program) (T : Nat → TI) (hT : ∀ t, T t = tiOf P t) (fn : Func) (n m0 : Nat) (Post : SV → List (Nat × SO) → Prop) (z : Z) : Stc :=
  { P, T, hT, fn, cx := { w0 := z.w0, H0 := z.H0, g0 := z.g0, m0 := m0, X := z.X }, n, Post }

def num : Nat → List SV → List (Nat × SV)
  | _, [] => []
  | i, s :: l => (i, s) :: num (i + 1) l

theorem nth_num {g : Nat → Value} {H : Hp} : ∀ (args : List SV) (vs : List Value) (i : Nat) (t : Nat), Dens g H args vs →
    Den g H (nth (num i args) t) (if i ≤ t then vs.getD (t - i) undef else undef)
  | [], [], _, _, _ => trivial
  | a :: args, v :: vs, i, t, h => by
    simp only [num, nth]
    cases hb : Nat.beq i t with
    | true =>
      have := beq_true hb
      subst this
      simpa using h.1
    | false =>
      have hne := beq_false hb
      have ih := nth_num args vs (i + 1) t h.2
      simp only [cond_false]
      by_cases hle : i ≤ t
      · have e : t - i = (t - (i + 1)) + 1 := by omega
        rw [if_pos hle, e]
        rw [if_pos (by omega)] at ih
        simpa using ih
      · rw [if_neg hle]
        rw [if_neg (by omega)] at ih
        exact ih
  | [], _ :: _, _, _, h => h.elim
  | _ :: _, [], _, _, h => h.elim

theorem enter_of {P : Program} {f : FuncId} {fn : Func} {c : Code} (hf : P.funcs[f]? = some fn) (hb : fn.body = some c) (hn : (fn.name == "runtime.NumGoroutine") = false) : Enter P f := by
  intro args w
  simp [callFunc, hf, hb]
  simpa using hn

/-- A contract, from the body. -/
theorem contract_of {P : Program} {T : Nat → TI} (hT : ∀ t, T t = tiOf P t) {f : FuncId} {fn : Func} {c : Code} {m0 n : Nat} {pre : List (Nat × SO)} {args : List SV} {Post : SV → List (Nat × SO) → Prop} (nx : List Nat)
    (hf : P.funcs[f]? = some fn) (hb : fn.body = some c) (hn : (fn.name == "runtime.NumGoroutine") = false) (hnt : fn.ntmps = n) (hla : Nat.ble args.length n = true)
    (h : ∀ z : Z, Sat (mkE P T hT fn n m0 Post z) (.code c) [] (num 0 args) pre nx) : Contract P f m0 pre args Post := by
  refine ⟨enter_of hf hb hn, fun g H w vs hH hp hi hd => calls_of_wp hf hb ?_⟩
  have hlen := hd.length
  have hle := Nat.le_of_ble_eq_true hla
  refine h ⟨w, H, g, preX g pre⟩ _ w ⟨rfl, g, H, ?_⟩
  refine { size := ?_, den := fun t => ?_, ok := fun k o hk => ?_, inj := hi, hp := hH, base := ?_ }
  · show (vs.toArray ++ Array.replicate (fn.ntmps - vs.toArray.size) undef).size = n
    simp only [Array.size_append, List.size_toArray, Array.size_replicate]
    omega
  · have := nth_num args vs 0 t hd
    simp only [Nat.zero_le, if_true, Nat.sub_zero] at this
    have e : (vs.toArray ++ Array.replicate (fn.ntmps - vs.toArray.size) undef).getD t undef = vs.getD t undef := by
      by_cases h1 : t < vs.length
      · simp [Array.getElem?_append, h1]
      · simp only [Array.getD_eq_getD_getElem?, Array.getElem?_append, List.size_toArray, h1, if_false, List.getD_eq_getElem?_getD]
        rw [List.getElem?_eq_none (by omega)]
        cases hr : (Array.replicate (fn.ntmps - vs.length) undef)[t - vs.length]? with
        | none => rfl
        | some v =>
          have := Array.getElem?_eq_some_iff.1 hr
          obtain ⟨h2, h3⟩ := this
          rw [Array.getElem_replicate] at h3
          simp [← h3]
    show Den g H (nth (num 0 args) t) ((vs.toArray ++ Array.replicate (fn.ntmps - vs.toArray.size) undef).getD t undef)
    rw [e]
    exact this
  · have hk' := hp k o hk
    have hm : ∀ b, blkOf (g k) = some b → preX g pre b := fun b hb => ⟨k, by rw [hk]; rfl, hb⟩
    cases o with
    | cells ty cs =>
      obtain ⟨b, ws, e, h1, h2, h3, h4, _⟩ := hk'
      exact ⟨b, ws, e, h1, h2, h3, h4, .inr (hm b (by rw [e]; rfl))⟩
    | tok sz =>
      obtain ⟨a, q, r, e, h1, hle, h2⟩ := hk'
      refine ⟨a, q, r, e, h1, hle, fun p hpa hlt => ?_⟩
      obtain ⟨h3, _, h5⟩ := h2 p hpa hlt
      exact ⟨h3, .inr (hm p.block (by rw [e, hpa]; simp [blkOf, Nat.blt_eq.mpr hlt])), h5⟩
    | obj q =>
      obtain ⟨r, o, e, h1, h2, h3, _⟩ := hk'
      exact ⟨r, o, e, h1, h2, h3, .inr (hm r (by rw [e]; rfl))⟩
  · exact { os := rfl, tape := rfl, output := rfl, size := Nat.le_refl _, block := fun _ _ _ => rfl, hold := fun _ _ _ _ => rfl, le := Hp.le_refl _, fix := fun _ _ => rfl, froz := fun _ => rfl }

/-- The results that a function hands back. -/
def retK (T : Nat → TI) (env : List (Nat × SV)) (own : List (Nat × SO)) : List ResultVar → (List SV → Option SV) → Option SV
  | [], k => k []
  | .tmp t :: rs, k => nthK t (fun s => retK T env own rs fun l => k (s :: l)) env
  | .cell t ty :: rs, k => nthK t (fun s => match s with
    | .ptr j off => ownK j (fun so => match so with
      | .cells _ cs => match (T ty).kd with
        | .struct => dropK off cs fun l => takeK (T ty).size l (fun r => retK T env own rs fun l => k (.agg r :: l)) none
        | .other => none
        | _ => getK off cs (fun s => retK T env own rs fun l => k (s :: l)) none
      | _ => none) none own
    | _ => none) env

def retS (l : List SV) : Option SV :=
  match l with
  | [] => some (.tup [])
  | [s] => some s
  | l => some (.tup l)

def resOf (tmps : Array Value) : ResultVar → Sem Value
  | .tmp t => pure (tmps.getD t undef)
  | .cell x t => do loadVar t (← asAddr (tmps.getD x undef))

theorem results_eq (fn : Func) (tmps : Array Value) : results fn tmps = fn.results.mapM (m := Sem) (resOf tmps) >>= fun vs => pure (if h : vs.size = 1 then vs[0] else .tuple vs) := by
  have e : resOf tmps = fun r => match r with
        | .tmp t => pure (tmps.getD t undef)
        | .cell x t => (asAddr (tmps.getD x undef) >>= fun a => loadVar t a : Sem Value) := by
    funext r
    cases r <;> rfl
  rw [e]
  rfl

theorem run_results {P : Program} {T : Nat → TI} (hT : ∀ t, T t = tiOf P t) {env : List (Nat × SV)} {own : List (Nat × SO)} {cx : Cx} {g : Nat → Value} {H : Hp} {n : Nat} {a : Act} {w : World}
    (hd : Dn cx g H env own n a.tmps w) : ∀ (rs : List ResultVar) (k : List SV → Option SV) (sv : SV), retK T env own rs k = some sv →
    ∃ l vs, k l = some sv ∧ l.length = rs.length ∧ Dens g H l vs ∧
 (rs.mapM (m := Sem) (resOf a.tmps)).run P w = .ok vs w := by
  have hT' : T = tiOf P := funext hT
  subst hT'
  intro rs
  induction rs with
  | nil => intro k sv h; exact ⟨[], [], h, rfl, trivial, by simp⟩
  | cons r rs ih =>
    intro k sv h
    cases r with
    | tmp t =>
      simp only [retK, nthK_eq] at h
      obtain ⟨l, vs, h1, hl, h2, h3⟩ := ih _ sv h
      exact ⟨nth env t :: l, a.tmps.getD t undef :: vs, h1, by simp [hl], ⟨hd.den t, h2⟩, by rw [List.mapM_cons, Sem.run_bind, show (resOf a.tmps (.tmp t)).run P w = .ok (a.tmps.getD t undef) w from rfl, Result.andThen_ok, Sem.run_bind, h3]; rfl⟩
    | cell t ty =>
      simp only [retK, nthK_eq, ownK_eq, dropK_eq, takeK_eq, getK_eq] at h
      cases ht : nth env t with
      | ptr j off =>
        simp only [ht] at h
        cases hj : ownq own j with
        | none => simp [hj] at h
        | some so =>
          simp only [hj] at h
          cases so with
          | cells ty' cs =>
            simp only at h
            obtain ⟨b, ws, hg, hv, hw, _⟩ := hd.cells hj
            have hp := hd.den t
            rw [ht] at hp
            obtain ⟨b', hg', he⟩ := hp
            have : b' = b := by rw [hg] at hg'; simpa using hg'.symm
            subst this
            split at h
            · rename_i hs
              split at h
              · rename_i hl
                obtain ⟨l, vs, h1, hl', h2, h3⟩ := ih _ sv h
                obtain ⟨i, d, hsp, _⟩ := und_kd (P := P) hs (by simp)
                have hlen := hv.length
                have hn : ((ws.drop off).take (tiOf P ty).size).length = (tiOf P ty).size := by
                  simp only [List.length_take, List.length_drop] at hl ⊢
                  omega
                have hrun := run_load_struct hsp hs (b := b') (off := off) (w := w) hn (fun j v hj => by
                  rw [ok_cell hw]
                  rw [List.getElem?_take] at hj
                  split at hj
                  · rw [List.getElem?_drop] at hj; exact hj
                  · cases hj)
                refine ⟨_, .agg ((ws.drop off).take (tiOf P ty).size).toArray :: vs, h1, by simp [hl'], ⟨⟨_, rfl, (hv.drop off).take _⟩, h2⟩, ?_⟩
                have hh : (resOf a.tmps (.cell t ty)).run P w = .ok (.agg ((ws.drop off).take (tiOf P ty).size).toArray) w := by
                  show (asAddr (a.tmps.getD t undef) >>= fun x => loadVar ty x : Sem Value).run P w = _
                  rw [he, Sem.run_bind]
                  exact hrun
                rw [List.mapM_cons, Sem.run_bind, hh, Result.andThen_ok, Sem.run_bind, h3]
                rfl
              · cases h
            · cases h
            · rename_i hs1 hs2
              cases hg2 : cs[off]? with
              | none => simp [hg2] at h
              | some s =>
                simp only [hg2] at h
                obtain ⟨l, vs, h1, hl', h2, h3⟩ := ih _ sv h
                obtain ⟨i, d, hsp⟩ := ti_spec (P := P) (t := ty) (fun e => hs2 e)
                obtain ⟨v, hv1, hv2⟩ := hv.get hg2
                have hrun := run_load_plain hsp (fun e => hs1 e) (fun e => hs2 e) (b := b') (off := off) (w := w) (v := v) (by rw [ok_cell hw]; exact hv1)
                refine ⟨_, v :: vs, h1, by simp [hl'], ⟨hv2, h2⟩, ?_⟩
                have hh : (resOf a.tmps (.cell t ty)).run P w = .ok v w := by
                  show (asAddr (a.tmps.getD t undef) >>= fun x => loadVar ty x : Sem Value).run P w = _
                  rw [he, Sem.run_bind]
                  exact hrun
                rw [List.mapM_cons, Sem.run_bind, hh, Result.andThen_ok, Sem.run_bind, h3]
                rfl
          | tok sz => simp at h
          | obj q => simp at h
      | _ => simp [ht] at h

def subO (own : List (Nat × SO)) : List (Nat × SO) → Prop
  | [] => True
  | (k, o) :: l => ownq own k = some o ∧ subO own l

theorem subO_spec {own : List (Nat × SO)} : ∀ {l : List (Nat × SO)}, subO own l → ∀ k o, ownq l k = some o → ownq own k = some o
  | [], _, k, o, h => by simp [ownq] at h
  | (i, x) :: l, hs, k, o, h => by
    simp only [ownq] at h
    cases hb : Nat.beq i k with
    | true =>
      simp only [hb, cond_true, Option.some.injEq] at h
      subst h
      rw [← beq_true hb]
      exact hs.1
    | false =>
      simp only [hb, cond_false] at h
      exact subO_spec hs.2 k o h

/-- The function returns. -/
theorem at_ret' {E : Stc} {env : List (Nat × SV)} {own : List (Nat × SO)} {nx : List Nat} {sv : SV} (own' : List (Nat × SO)) (h : retK E.T env own E.fn.results.toList retS = some sv)
    (hs : subO own own') (hP : E.Post sv own') : Sat E .ret [] env own nx := by
  intro a w hat
  obtain ⟨hdf, g, H, hd⟩ := hat
  obtain ⟨l, vs, h1, hl, h2, h3⟩ := run_results (P := E.P) E.hT hd _ _ sv h
  have hlen := h2.length
  refine ⟨hdf, (if h : vs.toArray.size = 1 then vs.toArray[0] else .tuple vs.toArray), ?_, ?_⟩
  · rw [results_eq, Sem.run_bind]
    have : (E.fn.results.mapM (m := Sem) (resOf a.tmps)).run E.P w = .ok vs.toArray w := by
      have h4 := List.mapM_toArray (m := Sem) (l := E.fn.results.toList) (f := resOf a.tmps)
      rw [Array.toArray_toList] at h4
      rw [h4, Sem.run_map, h3]
      rfl
    rw [this]
    rfl
  · refine ⟨g, H, sv, own', hP, ?_, fun k o hk => hd.ok k o (subO_spec hs k o hk), fun k j hk hj => hd.inj k j ?_ ?_, hd.hp, hd.base⟩
    · match l, vs, h1, h2, hlen with
      | [], [], h1, _, _ =>
        simp only [retS, Option.some.injEq] at h1
        subst h1
        exact ⟨[], by simp, trivial⟩
      | [s], [v], h1, h2, _ =>
        simp only [retS, Option.some.injEq] at h1
        subst h1
        simpa using h2.1
      | s :: s' :: l, v :: v' :: vs, h1, h2, _ =>
        simp only [retS, Option.some.injEq] at h1
        subst h1
        exact ⟨v :: v' :: vs, by simp, h2⟩
    · cases hk' : ownq own' k with
      | none => rw [hk'] at hk; cases hk
      | some o => rw [subO_spec hs k o hk']; rfl
    · cases hj' : ownq own' j with
      | none => rw [hj'] at hj; cases hj
      | some o => rw [subO_spec hs j o hj']; rfl

theorem at_end {E : Stc} {env : List (Nat × SV)} {own : List (Nat × SO)} {nx : List Nat} (h : Sat E .ret [] env own nx) : Sat E .norm [] env own nx := h

end Go.Eng
