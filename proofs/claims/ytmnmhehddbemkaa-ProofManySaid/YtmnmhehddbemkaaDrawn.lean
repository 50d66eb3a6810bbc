/- The proof engine, part 17: the rule for a region whose order is drawn. -/
import Derived.Test.YtmnmhehddbemkaaPlan
namespace Go.Eng

theorem envOf_take {sel : Nat → Bool} : ∀ (pre : List Oper) (plan : List PE) (i0 m : Nat) (env : List (Nat × SV)), (∀ j, i0 + m ≤ j → sel j = false) → envOf sel i0 pre (plan.take m) env = envOf sel i0 pre plan env
  | [], plan, _, m, _, _ => by cases plan <;> cases m <;> simp [envOf]
  | o :: os, [], _, m, _, _ => by simp
  | o :: os, p :: ps, i0, 0, env, h => by
    simp only [List.take_zero, envOf]
    rw [h i0 (by omega), ← envOf_take os ps (i0 + 1) 0 env (fun j hj => h j (by omega)), List.take_zero]
    rfl
  | o :: os, p :: ps, i0, m + 1, env, h => by
    simp only [List.take_succ_cons, envOf]
    rw [envOf_take os ps (i0 + 1) m env (fun j hj => h j (by omega))]

theorem envOf_mono {sel sel' : Nat → Bool} (hs : ∀ j, sel' j = true → sel j = true) : ∀ (pre : List Oper) (plan : List PE) (i0 : Nat) (env : List (Nat × SV)), leE (envOf sel i0 pre plan env) (envOf sel' i0 pre plan env)
  | [], _, _, _ => by intro t; simp only [envOf]; exact SVle.refl _
  | o :: os, [], i0, env => by
    intro t
    simp only [envOf, nth_put]
    split
    · exact SVle.refl _
    · exact envOf_mono hs os [] (i0 + 1) env t
  | o :: os, p :: ps, i0, env => by
    intro t
    simp only [envOf, nth_put]
    split
    · cases h : sel' i0 with
      | true => rw [hs i0 h]; exact SVle.refl _
      | false => exact SVle.any _
    · exact envOf_mono hs os ps (i0 + 1) env t

/-- No part has a name of these. -/
def disO (own : List (Nat × SO)) (plan : List PE) : Bool := plan.all fun p => (p.new.all fun x => (ownq own x.1).isNone) && match p.eats with
  | none => true
  | some k => (ownq own k).isNone

theorem ownOf_old {sel : Nat → Bool} {own0 ownR : List (Nat × SO)} {plan : List PE} (hsub : ∀ k o, ownq ownR k = some o → ownq own0 k = some o) (hdis : disO ownR plan = true) (hn : newOk own0 plan = true) : leO (ownOf sel 0 plan own0) ownR := by
  intro k o h0
  refine (ownOf_iff plan 0 hn).2 (.inl ⟨hsub k o h0, fun i p hp _ => ?_⟩)
  have hd := List.all_eq_true.1 hdis p (List.mem_of_getElem? hp)
  rw [Bool.and_eq_true] at hd
  refine ⟨fun _ => ?_, fun he => ?_⟩
  · cases hx : ownq p.new k with
    | none => rfl
    | some x =>
      obtain ⟨y, hy, e⟩ := ownq_mem hx
      have := List.all_eq_true.1 hd.1 y hy
      rw [e, h0] at this
      cases this
  · have := hd.2
    rw [he] at this
    simp [h0] at this

def noKO (b : Nat) : List (Nat × SO) → Bool
  | [] => true
  | (i, .cells _ cs) :: l => bif Nat.beq i b then false else bif SV.noKs b cs then noKO b l else false
  | (i, .tok _) :: l => bif Nat.beq i b then false else noKO b l
  | (i, .obj _) :: l => bif Nat.beq i b then false else noKO b l

theorem freshO_eq (b : Nat) : ∀ l, freshO b l = noKO b l
  | [] => rfl
  | (i, .cells _ cs) :: l => by simp only [freshO, noKO, freshO_eq b l]
  | (i, .tok _) :: l => by simp only [freshO, noKO, freshO_eq b l]
  | (i, .obj _) :: l => by simp only [freshO, noKO, freshO_eq b l]

theorem noKO_append {b : Nat} : ∀ {l m : List (Nat × SO)}, noKO b l = true → noKO b m = true → noKO b (l ++ m) = true
  | [], _, _, h => h
  | (i, .cells _ cs) :: l, m, h, hm => by
    simp only [noKO, List.cons_append] at h ⊢
    cases hi : Nat.beq i b with
    | true => simp [hi] at h
    | false =>
      cases hc : SV.noKs b cs with
      | false => simp [hi, hc] at h
      | true => simp only [hi, hc, cond_true, cond_false] at h ⊢; exact noKO_append h hm
  | (i, .tok _) :: l, m, h, hm => by
    simp only [noKO, List.cons_append] at h ⊢
    cases hi : Nat.beq i b with
    | true => simp [hi] at h
    | false => simp only [hi, cond_false] at h ⊢; exact noKO_append h hm
  | (i, .obj _) :: l, m, h, hm => by
    simp only [noKO, List.cons_append] at h ⊢
    cases hi : Nat.beq i b with
    | true => simp [hi] at h
    | false => simp only [hi, cond_false] at h ⊢; exact noKO_append h hm

theorem noKO_rm1 {b k : Nat} : ∀ {l : List (Nat × SO)}, noKO b l = true → noKO b (rm1 k l) = true
  | [], h => h
  | (i, .cells t cs) :: l, h => by
    simp only [noKO] at h
    cases hi : Nat.beq i b with
    | true => simp [hi] at h
    | false =>
      cases hc : SV.noKs b cs with
      | false => simp [hi, hc] at h
      | true =>
        simp only [hi, hc, cond_true, cond_false] at h
        simp only [rm1]
        cases Nat.beq i k with
        | true => exact noKO_rm1 h
        | false => simp only [cond_false, noKO, hi, hc, cond_true]; exact noKO_rm1 h
  | (i, .tok c) :: l, h => by
    simp only [noKO] at h
    cases hi : Nat.beq i b with
    | true => simp [hi] at h
    | false =>
      simp only [hi, cond_false] at h
      simp only [rm1]
      cases Nat.beq i k with
      | true => exact noKO_rm1 h
      | false => simp only [cond_false, noKO, hi]; exact noKO_rm1 h
  | (i, .obj c) :: l, h => by
    simp only [noKO] at h
    cases hi : Nat.beq i b with
    | true => simp [hi] at h
    | false =>
      simp only [hi, cond_false] at h
      simp only [rm1]
      cases Nat.beq i k with
      | true => exact noKO_rm1 h
      | false => simp only [cond_false, noKO, hi]; exact noKO_rm1 h
theorem noKO_eatO {b : Nat} {e : Option Nat} {l : List (Nat × SO)} (h : noKO b l = true) : noKO b (eatO e l) = true := by
  cases e with
  | none => exact h
  | some k => exact noKO_rm1 h

/-- For the block b of part j: no other part names it but those behind. -/
def freshJ (b j : Nat) : Nat → List Oper → List PE → Bool
  | i, o :: os, p :: ps => bif (Nat.beq i j || behind o j || (p.sv.noK b && noKO b p.new)) then freshJ b j (i + 1) os ps else false
  | _, _, _ => true

def freshOne (m0 : Nat) (pre : List Oper) (plan : List PE) (env0 : List (Nat × SV)) (own0 : List (Nat × SO)) (j : Nat) (p : PE) : Bool :=
  match p.wr, p.new with
  | true, _ => true
  | _, [] => true
  | _, (b, .cells _ cs) :: _ => Nat.ble m0 b && SV.noKs b cs && freshE b env0 && freshO b own0 && freshJ b j 0 pre plan
  | _, (b, .tok _) :: _ => Nat.ble m0 b && freshE b env0 && freshO b own0 && freshJ b j 0 pre plan
  | _, _ => false

def freshP (m0 : Nat) (pre : List Oper) (plan : List PE) (env0 : List (Nat × SV)) (own0 : List (Nat × SO)) : Nat → List PE → Bool
  | _, [] => true
  | j, p :: ps => bif freshOne m0 pre plan env0 own0 j p then freshP m0 pre plan env0 own0 (j + 1) ps else false

theorem freshP_spec {m0 : Nat} {pre : List Oper} {plan : List PE} {env0 : List (Nat × SV)} {own0 : List (Nat × SO)} : ∀ (l : List PE) (j0 j b t : Nat) (cs : List SV), freshP m0 pre plan env0 own0 j0 l = true →
    l[j]? = some ⟨.ptr b 0, [(b, .cells t cs)], none, none, false⟩ → m0 ≤ b ∧ SV.noKs b cs = true ∧ freshE b env0 = true ∧ freshO b own0 = true ∧ freshJ b (j0 + j) 0 pre plan = true
  | [], _, _, _, _, _, _, h => by simp at h
  | p :: ps, j0, j, b, t, cs, hf, h => by
    simp only [freshP] at hf
    cases h0 : freshOne m0 pre plan env0 own0 j0 p with
    | false => simp [h0] at hf
    | true =>
      simp only [h0, cond_true] at hf
      cases j with
      | zero =>
        simp only [List.getElem?_cons_zero, Option.some.injEq] at h
        subst h
        simp only [freshOne, Bool.and_eq_true] at h0
        obtain ⟨⟨⟨⟨h1, h2⟩, h3⟩, h4⟩, h5⟩ := h0
        exact ⟨Nat.le_of_ble_eq_true h1, h2, h3, h4, h5⟩
      | succ j =>
        have := freshP_spec ps (j0 + 1) j b t cs hf (by simpa using h)
        rw [show j0 + 1 + j = j0 + (j + 1) from by omega] at this
        exact this

theorem freshP_tok {m0 : Nat} {pre : List Oper} {plan : List PE} {env0 : List (Nat × SV)} {own0 : List (Nat × SO)} : ∀ (l : List PE) (j0 j b sz : Nat) (rows : List (List DV)) (til eats : Option Nat), freshP m0 pre plan env0 own0 j0 l = true →
    l[j]? = some ⟨.gl b sz rows, [(b, .tok sz)], til, eats, false⟩ → m0 ≤ b ∧ freshE b env0 = true ∧ freshO b own0 = true ∧ freshJ b (j0 + j) 0 pre plan = true
  | [], _, _, _, _, _, _, _, _, h => by simp at h
  | p :: ps, j0, j, b, sz, s, til, eats, hf, h => by
    simp only [freshP] at hf
    cases h0 : freshOne m0 pre plan env0 own0 j0 p with
    | false => simp [h0] at hf
    | true =>
      simp only [h0, cond_true] at hf
      cases j with
      | zero =>
        simp only [List.getElem?_cons_zero, Option.some.injEq] at h
        subst h
        simp only [freshOne, Bool.and_eq_true] at h0
        obtain ⟨⟨⟨h1, h3⟩, h4⟩, h5⟩ := h0
        exact ⟨Nat.le_of_ble_eq_true h1, h3, h4, h5⟩
      | succ j =>
        have := freshP_tok ps (j0 + 1) j b sz s til eats hf (by simpa using h)
        rw [show j0 + 1 + j = j0 + (j + 1) from by omega] at this
        exact this

theorem freshE_put {b : Nat} {dst : Option Nat} {s : SV} {env : List (Nat × SV)} (hs : s.noK b = true) (he : freshE b env = true) : freshE b (put dst s env) = true := by
  cases dst with
  | none => exact he
  | some d => simp [put, freshE, hs, he]

theorem fresh_env {sel : Nat → Bool} {b j : Nat} (hj : sel j = false) {env0 : List (Nat × SV)} (h0 : freshE b env0 = true) : ∀ (pre : List Oper) (plan : List PE) (i0 : Nat), freshJ b j i0 pre plan = true →
    (∀ i o, pre[i]? = some o → sel (i0 + i) = true → behind o j = true → sel j = true) → freshE b (envOf sel i0 pre plan env0) = true
  | [], _, _, _, _ => by simpa [envOf] using h0
  | o :: os, [], i0, _, hc => by
    simp only [envOf]
    refine freshE_put rfl ?_
    refine fresh_env hj h0 os [] (i0 + 1) (by simp [freshJ]) fun i o' ho hs hb => hc (i + 1) o' (by simpa using ho) (by rw [← hs]; congr 1; omega) hb
  | o :: os, p :: ps, i0, hf, hc => by
    simp only [freshJ] at hf
    cases hcond : (Nat.beq i0 j || behind o j || (p.sv.noK b && noKO b p.new)) with
    | false => simp [hcond] at hf
    | true =>
      simp only [hcond, cond_true] at hf
      simp only [envOf]
      have ih := fresh_env hj h0 os ps (i0 + 1) hf fun i o' ho hs hb => hc (i + 1) o' (by simpa using ho) (by rw [← hs]; congr 1; omega) hb
      refine freshE_put ?_ ih
      cases hs : sel i0 with
      | false => rfl
      | true =>
        simp only [cond_true]
        rw [Bool.or_eq_true, Bool.or_eq_true, Bool.and_eq_true] at hcond
        rcases hcond with (h1 | h1) | h1
        · rw [beq_true h1] at hs; rw [hs] at hj; cases hj
        · have := hc 0 o (by simp) (by simpa using hs) h1
          rw [hj] at this; cases this
        · exact h1.1

theorem fresh_own' {sel : Nat → Bool} {b j : Nat} (hj : sel j = false) : ∀ (pre : List Oper) (plan : List PE) (i0 : Nat) (own0 : List (Nat × SO)), noKO b own0 = true → plan.length ≤ pre.length → freshJ b j i0 pre plan = true →
    (∀ i o, pre[i]? = some o → sel (i0 + i) = true → behind o j = true → sel j = true) → noKO b (ownOf sel i0 plan own0) = true
  | _, [], _, _, h0, _, _, _ => h0
  | [], p :: ps, _, _, _, hl, _, _ => by simp at hl
  | o :: os, p :: ps, i0, own0, h0, hl, hf, hc => by
    simp only [freshJ] at hf
    cases hcond : (Nat.beq i0 j || behind o j || (p.sv.noK b && noKO b p.new)) with
    | false => simp [hcond] at hf
    | true =>
      simp only [hcond, cond_true] at hf
      simp only [ownOf]
      have ih := fresh_own' hj os ps (i0 + 1) (bif sel i0 then eatO p.eats own0 else own0) (by cases sel i0 <;> first | exact h0 | exact noKO_eatO h0) (by simpa using hl) hf fun i o' ho hs hb => hc (i + 1) o' (by simpa using ho) (by rw [← hs]; congr 1; omega) hb
      refine noKO_append ?_ ih
      cases hs : sel i0 with
      | false => rfl
      | true =>
        simp only [cond_true]
        cases tilOk sel p.til with
        | false => rfl
        | true =>
        simp only [cond_true]
        rw [Bool.or_eq_true, Bool.or_eq_true, Bool.and_eq_true] at hcond
        rcases hcond with (h1 | h1) | h1
        · rw [beq_true h1] at hs; rw [hs] at hj; cases hj
        · have := hc 0 o (by simp) (by simpa using hs) h1
          rw [hj] at this; cases this
        · exact h1.2

theorem fresh_own {sel : Nat → Bool} {b j : Nat} (hj : sel j = false) {own0 : List (Nat × SO)} (h0 : freshO b own0 = true) (pre : List Oper) (plan : List PE) (i0 : Nat) (hl : plan.length ≤ pre.length) (hf : freshJ b j i0 pre plan = true)
    (hc : ∀ i o, pre[i]? = some o → sel (i0 + i) = true → behind o j = true → sel j = true) : noKO b (ownOf sel i0 plan own0) = true :=
  fresh_own' hj pre plan i0 own0 (by rw [freshO_eq] at h0; exact h0) hl hf hc

theorem Dn.le {cx : Cx} {g : Nat → Value} {H : Hp} {env env' : List (Nat × SV)} {own own' : List (Nat × SO)} {n : Nat} {tmps : Array Value} {w : World} (hd : Dn cx g H env own n tmps w) (he : leE env env') (ho : leO own own') :
    Dn cx g H env' own' n tmps w :=
  { size := hd.size, den := fun t => he t g H _ (hd.den t), ok := fun k o hk => hd.ok k o (ho k o hk), hp := hd.hp, base := hd.base
    inj := fun k j hk hj => hd.inj k j (by
      cases hq : ownq own' k with
      | none => rw [hq] at hk; cases hk
      | some o => rw [ho k o hq]; rfl) (by
      cases hq : ownq own' j with
      | none => rw [hq] at hj; cases hj
      | some o => rw [ho j o hq]; rfl) }

theorem cert_of_loc {E : Stc} {ops : Array Oper} {pre suf : List Oper} {plan : List PE} {env0 : List (Nat × SV)} {own0 ownR : List (Nat × SO)} {s : List Fr} (hops : ops.toList = pre ++ suf) (hlen : plan.length = pre.length)
    (hsub : ∀ k o, ownq ownR k = some o → ownq own0 k = some o) (hdis : disO ownR plan = true) (hnew : newOk own0 plan = true) (heat : eatOk own0 plan = true) (hu : eatU plan = true) (hah : aheadOk 0 (pre ++ suf) = true) (hfr : freshP E.cx.m0 pre plan env0 own0 0 plan = true) {i : Nat} {o : Oper} {p : PE} (hio : pre[i]? = some o) (hip : plan[i]? = some p)
    (hd : dstLt o.dst E.n = true) (hl : Loc E ops.toList plan i (envOf (behind o) 0 pre (plan.take i) env0) ownR own0 o p) : Cert E ops pre plan env0 own0 s i o p := by
  intro sel hi hbeh hcl a w hat
  have hopi : ops[i]? = some o := by
    have : ops.toList[i]? = some o := by rw [hops, List.getElem?_append_left (List.getElem?_eq_some_iff.1 hio).1]; exact hio
    simpa using this
  have hbi : ∀ j, i ≤ j → behind o j = false := by
    intro j hj
    cases hb : behind o j with
    | false => rfl
    | true =>
      have := aheadOk_spec (pre ++ suf) 0 i o hah (by rw [List.getElem?_append_left (List.getElem?_eq_some_iff.1 hio).1]; exact hio) j hb
      omega
  rw [envOf_take pre plan 0 i env0 (fun j hj => hbi j (by omega))] at hl
  have hle : leE (envOf sel 0 pre plan env0) (envOf (behind o) 0 pre plan env0) := envOf_mono hbeh pre plan 0 env0
  have hlo : leO (ownOf sel 0 plan own0) ownR := ownOf_old hsub hdis hnew
  have hat1 := at_le hat hle hlo
  have hlt : ∀ d, o.dst = some d → d < E.n := fun d e => by rw [e] at hd; exact Nat.blt_eq.mp hd
  obtain ⟨hdf, g, H, hdn⟩ := hat
  have hdn1 := hdn.le hle hlo
  have hfin : ∀ a' w', At E (put o.dst p.sv (envOf sel 0 pre plan env0)) (p.new ++ eatO p.eats (ownOf sel 0 plan own0)) a' w' → At E (put o.dst p.sv (envOf sel 0 pre plan env0)) (ownOf (add sel i) 0 plan own0) a' w' :=
    fun a' w' h => at_le h (fun _ => SVle.refl _) (ownOf_add plan i p hnew heat hip)
  unfold wpOp
  rw [hopi]
  simp only
  cases hl with
  | skip h =>
    have := h a w hat1
    rw [Array.toArray_toList] at this
    rw [if_neg (by rw [this]; simp)]
    refine hfin _ _ ?_
    show At E (put o.dst (.tup []) (envOf sel 0 pre plan env0)) (ownOf sel 0 plan own0) (a.put o.dst undef) w
    cases o.dst with
    | none => exact ⟨hdf, g, H, hdn⟩
    | some d => exact ⟨hdf, g, H, hdn.put_un⟩
  | val v sv h hD hl =>
    have := h a w hat1
    rw [Array.toArray_toList] at this
    rw [if_pos this]
    refine .inl ?_
    obtain ⟨x, hr, hx⟩ := hD E.cx g H E.n a w hdn1
    unfold Oper.wp
    rw [hr]
    exact hfin _ _ (At.put hdf hdn (hl g H x hx) hlt)
  | gro v h hG =>
    have := h a w hat1
    rw [Array.toArray_toList] at this
    rw [if_pos this]
    refine .inl ?_
    obtain ⟨x, w', H', hr, hx, hd'⟩ := hG.2 E.cx g H E.n _ _ a w hdn1 hdn
    unfold Oper.wp
    rw [hr]
    exact hfin _ _ (At.put hdf hd' hx hlt)
  | tok b sz rows til h hT =>
    have := h a w hat1
    rw [Array.toArray_toList] at this
    rw [if_pos this]
    refine .inl ?_
    obtain ⟨x, w', H', hr, hx, hd', hsp⟩ := hT E.cx g H E.n _ _ a w hdn1 hdn
    obtain ⟨hm, hE, hO, hJ⟩ := freshP_tok plan 0 i b sz _ til none hfr hip
    rw [Nat.zero_add] at hJ
    have hclo : ∀ k o', pre[k]? = some o' → sel (0 + k) = true → behind o' i = true → sel i = true := fun k o' ho' hk hb => hcl k o' i ho' (by simpa using hk) hb
    obtain ⟨hd2, hp⟩ := hd'.tok hm (fresh_env hi hE pre plan 0 hJ hclo) (by rw [freshO_eq]; exact fresh_own hi hO pre plan 0 (by omega) hJ hclo) hx (hsp.mono fun b hb => hdn.new_ok hb)
    unfold Oper.wp
    rw [hr]
    exact hfin _ _ (At.put hdf hd2 hp hlt)
  | use k sz j rows p' h hU hp' hn' ht' hb' =>
    have := h a w hat1
    rw [Array.toArray_toList] at this
    rw [if_pos this]
    refine .inl ?_
    have hk : ownq p'.new k = some (.tok sz) := by rw [hn']; simp [ownq]
    have htok : ownq (ownOf sel 0 plan own0) k = some (.tok sz) := (ownOf_iff plan 0 hnew).2 (.inr ⟨j, p', hp', by rw [Nat.zero_add]; exact hbeh j hb', by rw [ht']; simp [tilOk, hi], hk⟩)
    have hless : lessO k (ownOf sel 0 plan own0) (ownOf (add sel i) 0 plan own0) := by
      intro j' o' hj'
      have h2 := ownOf_add (sel := sel) plan i _ hnew heat hip j' o' hj'
      refine ⟨fun e => ?_, by simpa [eatO] using h2⟩
      subst e
      rcases (ownOf_iff plan 0 hnew).1 hj' with ⟨h3, _⟩ | ⟨i2, p2, q1, q2, q3, q4⟩
      · rcases newOk_own hnew hp' hk with e | ⟨e, _⟩
        · rw [h3] at e
          cases e
        · rw [ht'] at e
          cases e
      · have e := newOk_ne hnew hp' q1 hk q4
        subst e
        rw [hp'] at q1
        cases q1
        rw [ht'] at q3
        simp [tilOk, add] at q3
    obtain ⟨x, w', H', hr, hx, hd', _⟩ := hU E.cx g H E.n _ _ _ a w hdn1 hdn htok hless
    unfold Oper.wp
    rw [hr]
    exact At.put hdf hd' hx hlt
  | eat k sz b rows til h hU hk =>
    have := h a w hat1
    rw [Array.toArray_toList] at this
    rw [if_pos this]
    refine .inl ?_
    have htok : ownq (ownOf sel 0 plan own0) k = some (.tok sz) := by
      refine (ownOf_iff plan 0 hnew).2 (.inl ⟨hk, fun j q hq hs => ⟨fun _ => ?_, fun he => ?_⟩⟩)
      · exact (eatOk_spec heat (List.mem_of_getElem? hip) rfl).2 q (List.mem_of_getElem? hq)
      · have e := eatU_spec hu hq hip he rfl
        subst e
        rw [Nat.zero_add, hi] at hs
        cases hs
    have hless : lessO k (ownOf sel 0 plan own0) (rm1 k (ownOf sel 0 plan own0)) := fun j o' hj => ⟨fun e => (by subst e; rw [rm1_none] at hj; cases hj), rm1_own hj⟩
    obtain ⟨x, w', H', hr, hx, hd', hsp⟩ := hU E.cx g H E.n _ _ _ a w hdn1 hdn htok hless
    obtain ⟨hm, hE, hO, hJ⟩ := freshP_tok plan 0 i b sz _ til (some k) hfr hip
    rw [Nat.zero_add] at hJ
    have hclo : ∀ k o', pre[k]? = some o' → sel (0 + k) = true → behind o' i = true → sel i = true := fun k o' ho' hk hb => hcl k o' i ho' (by simpa using hk) hb
    obtain ⟨hd2, hp⟩ := hd'.tok hm (fresh_env hi hE pre plan 0 hJ hclo) (by rw [freshO_eq]; exact noKO_rm1 (fresh_own hi hO pre plan 0 (by omega) hJ hclo)) hx hsp
    unfold Oper.wp
    rw [hr]
    exact hfin _ _ (At.put hdf hd2 hp hlt)
  | newAny b t cs h hN h1 =>
    have := h a w hat1
    rw [Array.toArray_toList] at this
    rw [if_pos this]
    refine .inl ?_
    obtain ⟨vs, hv, hr⟩ := hN E.cx g H E.n a w hdn1
    obtain ⟨hm, hcs, hE, hO, hJ⟩ := freshP_spec plan 0 i b t _ hfr hip
    rw [Nat.zero_add] at hJ
    have hclo : ∀ k o', pre[k]? = some o' → sel (0 + k) = true → behind o' i = true → sel i = true := fun k o' ho' hk hb => hcl k o' i ho' (by simpa using hk) hb
    have hd2 := hdn.new' (t := t) hm hcs (fresh_env hi hE pre plan 0 hJ hclo) (by rw [freshO_eq]; exact fresh_own hi hO pre plan 0 (by omega) hJ hclo) (by have := Dens.anys (g := g) (H := H) vs; rw [hv.length] at this; exact this) (hv.oneCells h1)
    unfold Oper.wp
    rw [hr]
    exact hfin _ _ (At.put hdf hd2 ⟨w.heap.size, upd_same _ _ _, rfl⟩ hlt)
  | stAny b ty m j h hW hp hb hdst =>
    have := h a w hat1
    rw [Array.toArray_toList] at this
    rw [if_pos this]
    refine .inl ?_
    have hk : ownq [(b, SO.cells ty (anys m))] b = some (.cells ty (anys m)) := by simp [ownq]
    have hold : ownq (ownOf sel 0 plan own0) b = some (.cells ty (anys m)) := (ownOf_iff plan 0 hnew).2 (.inr ⟨j, _, hp, by rw [Nat.zero_add]; exact hbeh j hb, rfl, hk⟩)
    obtain ⟨w', hr, hd'⟩ := hW E.cx g H E.n _ _ a w hdn1 hdn hold
    unfold Oper.wp
    rw [hr]
    show At E (put o.dst .any (envOf sel 0 pre plan env0)) (ownOf (add sel i) 0 plan own0) (a.put o.dst undef) w'
    rw [hdst]
    refine at_le (E := E) (env := envOf sel 0 pre plan env0) (a := a) ⟨hdf, g, H, hd'⟩ (fun _ => SVle.refl _) fun j' o' hj => ?_
    have h2 := ownOf_add (sel := sel) plan i _ hnew heat hip j' o' hj
    simp only [List.nil_append, eatO] at h2
    rw [ownq_setOwn]
    by_cases e : j' = b
    · subst e
      rw [hold] at h2
      rw [if_pos rfl, hold]
      exact h2
    · rw [if_neg e]
      exact h2
  | met b so so' v h hM hk =>
    have := h a w hat1
    rw [Array.toArray_toList] at this
    rw [if_pos this]
    refine .inl ?_
    have hold : ownq (ownOf sel 0 plan own0) b = some so := by
      refine (ownOf_iff plan 0 hnew).2 (.inl ⟨hk, fun j q hq hs => ⟨fun _ => ?_, fun he => ?_⟩⟩)
      rotate_left
      · have := (eatOk_spec heat (List.mem_of_getElem? hq) he).2 _ (List.mem_of_getElem? hip)
        simp [ownq] at this
      cases hx : ownq q.new b with
      | none => rfl
      | some x =>
        have e := newOk_ne hnew hip hq (k := b) (o := so') (by simp [ownq]) hx
        subst e
        rw [Nat.zero_add, hi] at hs
        cases hs
    obtain ⟨f, vs, hr, hcall⟩ := hM E.cx g H E.n _ _ a w hdn1 hdn hold
    unfold Oper.wp
    rw [hr]
    refine hcall.mono fun e w' he => ?_
    cases e with
    | panicked c => exact he.elim
    | outgrown => exact he.elim
    | returned x =>
      obtain ⟨H', hv, hd'⟩ := he
      refine at_le (At.put hdf hd' hv hlt) (fun _ => SVle.refl _) fun j o' hj => ?_
      have h2 := ownOf_add (sel := sel) plan i _ hnew heat hip j o' hj
      rw [ownq_setOwn]
      simp only [List.cons_append, List.nil_append, ownq, eatO] at h2
      by_cases e : j = b
      · subst e
        rw [Nat.beq_refl, cond_true] at h2
        rw [if_pos rfl, hold]
        exact h2
      · rw [if_neg e]
        cases hb : Nat.beq b j with
        | true => exact absurd (beq_true hb).symm e
        | false => rw [hb] at h2; exact h2
  | sto b ty old new h hW hk hdst =>
    have := h a w hat1
    rw [Array.toArray_toList] at this
    rw [if_pos this]
    refine .inl ?_
    have hold : ownq (ownOf sel 0 plan own0) b = some (.cells ty old) := by
      refine (ownOf_iff plan 0 hnew).2 (.inl ⟨hk, fun j q hq hs => ⟨fun _ => ?_, fun he => ?_⟩⟩)
      rotate_left
      · obtain ⟨⟨sz, e⟩, _⟩ := eatOk_spec heat (List.mem_of_getElem? hq) he
        rw [hk] at e
        cases e
      cases hx : ownq q.new b with
      | none => rfl
      | some x =>
        have e := newOk_ne hnew hip hq (k := b) (o := .cells ty new) (by simp [ownq]) hx
        subst e
        rw [Nat.zero_add, hi] at hs
        cases hs
    obtain ⟨w', hr, hd'⟩ := hW E.cx g H E.n _ _ a w hdn1 hdn hold
    unfold Oper.wp
    rw [hr]
    show At E (put o.dst .any (envOf sel 0 pre plan env0)) (ownOf (add sel i) 0 plan own0) (a.put o.dst undef) w'
    rw [hdst]
    refine at_le (E := E) (env := envOf sel 0 pre plan env0) (a := a) ⟨hdf, g, H, hd'⟩ (fun _ => SVle.refl _) fun j o' hj => ?_
    have h2 := ownOf_add (sel := sel) plan i _ hnew heat hip j o' hj
    rw [ownq_setOwn]
    simp only [List.cons_append, List.nil_append, ownq] at h2
    by_cases e : j = b
    · subst e
      rw [Nat.beq_refl, cond_true] at h2
      rw [if_pos rfl, hold]
      exact h2
    · rw [if_neg e]
      cases hb : Nat.beq b j with
      | true => exact absurd (beq_true hb).symm e
      | false => rw [hb] at h2; exact h2
  | new b t cs h hN h1 =>
    have := h a w hat1
    rw [Array.toArray_toList] at this
    rw [if_pos this]
    refine .inl ?_
    obtain ⟨vs, hv, hr⟩ := hN E.cx g H E.n a w hdn1
    obtain ⟨hm, hcs, hE, hO, hJ⟩ := freshP_spec plan 0 i b t cs hfr hip
    rw [Nat.zero_add] at hJ
    have hclo : ∀ k o', pre[k]? = some o' → sel (0 + k) = true → behind o' i = true → sel i = true := fun k o' ho' hk hb => hcl k o' i ho' (by simpa using hk) hb
    obtain ⟨hd2, hp⟩ := hdn.new (t := t) hm hcs (fresh_env hi hE pre plan 0 hJ hclo) (by rw [freshO_eq]; exact fresh_own hi hO pre plan 0 (by omega) hJ hclo) hv h1
    unfold Oper.wp
    rw [hr]
    exact hfin _ _ (At.put hdf hd2 hp hlt)
  | call f args sv h hc hf =>
    have := h a w hat1
    rw [Array.toArray_toList] at this
    rw [if_pos this]
    refine .inl ?_
    obtain ⟨vs, hv, hr⟩ := run_call (P := E.P) hdn1 hf.1 hc
    have hcall := hf.2 g H w vs hdn.hp (fun k o hk => by simp [ownq] at hk) (fun i j hi => by simp [ownq] at hi) hv
    unfold Oper.wp
    rw [hr]
    refine hcall.mono fun e w' he => ?_
    cases e with
    | panicked c => exact he.elim
    | outgrown => exact he.elim
    | returned v =>
      obtain ⟨sv', post, ⟨h1, h2, h3⟩, hb⟩ := hdn.called (r := fun k => k) (pre := []) (m := 0) trivial (fun k hk => absurd hk (Nat.not_lt_zero k)) he
      subst h1; subst h3
      obtain ⟨H', hv2, hd2⟩ := hb h2 rfl rfl
      rw [ren_id] at hv2
      exact hfin _ _ (At.put hdf hd2 hv2 hlt)

theorem locs_get {E : Stc} {all pre : List Oper} {env0 : List (Nat × SV)} {own0 ownS : List (Nat × SO)} {plan : List PE} : ∀ (l : List Oper) (i0 i : Nat) (o : Oper), Locs E all pre env0 own0 ownS plan i0 l → l[i]? = some o →
    dstLt o.dst E.n = true ∧ ∃ p, plan[i0 + i]? = some p ∧ Loc E all plan (i0 + i) (envOf (behind o) 0 pre (plan.take (i0 + i)) env0) own0 ownS o p
  | [], _, _, _, _, h => by simp at h
  | x :: xs, i0, 0, o, hl, h => by
    simp only [List.getElem?_cons_zero, Option.some.injEq] at h
    subst h
    exact hl.1
  | x :: xs, i0, i + 1, o, hl, h => by
    have := locs_get xs (i0 + 1) i o hl.2 (by simpa using h)
    rw [show i0 + 1 + i = i0 + (i + 1) from by omega] at this
    exact this

/-- Whoever uses a token up stands behind the one that made it. -/
def tilsB (pre : List Oper) (plan : List PE) : Nat → List PE → Bool
  | _, [] => true
  | i, p :: ps => bif (match p.til with
      | none => true
      | some j => Nat.blt j pre.length && (match pre[j]? with | some o => behind o i | none => false)) then tilsB pre plan (i + 1) ps else false

theorem tilsB_spec {pre : List Oper} {plan : List PE} : ∀ (l : List PE) (i0 i : Nat) (p : PE) (j : Nat), tilsB pre plan i0 l = true → l[i]? = some p → p.til = some j → j < pre.length ∧ ∃ o, pre[j]? = some o ∧ behind o (i0 + i) = true
  | [], _, _, _, _, _, h, _ => by simp at h
  | q :: ps, i0, i, p, j, hb, h, ht => by
    cases hc : (match q.til with
      | none => true
      | some j => Nat.blt j pre.length && (match pre[j]? with | some o => behind o i0 | none => false)) with
    | false => simp only [tilsB, hc, cond_false] at hb; cases hb
    | true =>
      simp only [tilsB, hc, cond_true] at hb
      cases i with
      | zero =>
        simp only [List.getElem?_cons_zero, Option.some.injEq] at h
        subst h
        rw [ht] at hc
        simp only [Bool.and_eq_true] at hc
        refine ⟨Nat.blt_eq.mp hc.1, ?_⟩
        cases hj : pre[j]? with
        | none => rw [hj] at hc; simp at hc
        | some o => rw [hj] at hc; exact ⟨o, rfl, hc.2⟩
      | succ i =>
        have := tilsB_spec ps (i0 + 1) i p j hb (by simpa using h) ht
        rw [show i0 + 1 + i = i0 + (i + 1) from by omega] at this
        exact this

/-- The plan as a whole, with what stands behind it. -/
def plan (P : Program) (T : Nat → TI) (m0 n : Nat) (all pre _suf : List Oper) (ans : List (Nat × Ans)) (env0 : List (Nat × SV)) (own0 : List (Nat × SO)) (nx st : List Nat) : PlanR :=
  bif dstsOk pre then
    bif sufOk pre.length all then
      bif aheadOk 0 all then
        rmOK st own0 fun ownR => planK P T m0 n all pre ans env0 ownR own0 0 pre [] nx [] fun ps ob =>
          bif newOk own0 ps && (disO ownR ps && (eatOk own0 ps && eatU ps)) then
            bif freshP m0 pre ps env0 own0 0 ps then
              bif tilsB pre ps 0 ps then
                envOfK (fun _ => true) 0 pre ps env0 fun env => ownOfK ps own0 fun own => .ok ps env own ob
              else .stuck 105
            else .stuck 104
          else .stuck 103
      else .stuck 102
    else .stuck 101
  else .stuck 100

/-- A region whose order is drawn: the first m operations in whatever order, the others behind them. -/
theorem at_draw {E : Stc} {id : Nat} {ops : Array Oper} {s : List Fr} {env : List (Nat × SV)} {own : List (Nat × SO)} {nx : List Nat} {all pre suf : List Oper} {ps : List PE} {env' : List (Nat × SV)} {own' : List (Nat × SO)} {ob : List Prop}
    (hall : ops.toList = all) (hsplit : all = pre ++ suf) (ans : List (Nat × Ans)) (nx0 : List Nat) {st : List Nat} (h : plan E.P E.T E.cx.m0 E.n all pre suf ans env own nx0 st = .ok ps env' own' ob) (ho : All ob) (hS : Sat E (.ops all suf) s env' own' nx)
    (hm : E.P.follows .mixedOrders = true := by rfl) : Sat E (.code (.region id ops true)) s env own nx := by
  subst hall
  unfold plan at h
  cases h1 : dstsOk pre with
  | false => simp [h1] at h
  | true =>
    cases h2 : sufOk pre.length ops.toList with
    | false => simp [h1, h2] at h
    | true =>
      cases h3 : aheadOk 0 ops.toList with
      | false => simp [h1, h2, h3] at h
      | true =>
        simp only [h1, h2, h3, cond_true, envOfK_eq, ownOfK_eq 0, rmOK_eq] at h
        have key := planK_sound E ops.toList pre ans env (rmO st own) own _ ps env' own' ob ((newOk own ps && (disO (rmO st own) ps && (eatOk own ps && eatU ps))) = true ∧ freshP E.cx.m0 pre ps env own 0 ps = true ∧ tilsB pre ps 0 ps = true ∧ env' = envOf (fun _ => true) 0 pre ps env ∧ own' = ownOf (fun _ => true) 0 ps own) (fun qs ob1 hq ha => by
          cases h4 : (newOk own qs && (disO (rmO st own) qs && (eatOk own qs && eatU qs))) with
          | false => simp [h4] at hq
          | true =>
            cases h5 : freshP E.cx.m0 pre qs env own 0 qs with
            | false => simp [h4, h5] at hq
            | true =>
              cases h6 : tilsB pre qs 0 qs with
              | false => simp [h4, h5, h6] at hq
              | true =>
                simp only [h4, h5, h6, cond_true, PlanR.ok.injEq] at hq
                obtain ⟨e1, e2, e3, e4⟩ := hq
                subst e1; subst e4
                exact ⟨rfl, ha, h4, h5, h6, e2.symm, e3.symm⟩) pre 0 [] nx0 [] rfl h ho
        obtain ⟨_, _, hlen, hlocs, hn, hf, htl, e1, e2⟩ := key
        rw [Nat.zero_add] at hlen
        rw [Bool.and_eq_true, Bool.and_eq_true, Bool.and_eq_true] at hn
        obtain ⟨hn, hdis, heat, hu⟩ := hn
        subst e1; subst e2
        intro a w hat
        refine wp_region_any hm ?_
        have hat' : At E env own a w.drew := by
          obtain ⟨hdf, g, H, hd⟩ := hat
          exact ⟨hdf, g, H, hd.drew⟩
        have cert : ∀ i o p, pre[i]? = some o → ps[i]? = some p → Cert E ops pre ps env own s i o p := by
          intro i o p hio hip
          obtain ⟨hd, p', hp', hl⟩ := locs_get pre 0 i o hlocs hio
          rw [Nat.zero_add] at hp' hl
          rw [hip] at hp'
          cases hp'
          exact cert_of_loc hsplit hlen (fun k o h => rmO_own h) hdis hn heat hu (by rw [← hsplit]; exact h3) hf hio hip hd hl
        have htl' : tilsLt pre.length ps := fun p hp j hj => by
          obtain ⟨i, hi⟩ := List.getElem?_of_mem hp
          exact (tilsB_spec ps 0 i p j htl hi hj).1
        have hz : ∀ i, (Array.replicate ops.size false).getD i false = false := by
          intro i
          rw [Array.getD_eq_getD_getElem?, Array.getElem?_replicate]
          split <;> rfl
        refine wpAny_plan E ops pre suf ps env own s nx hsplit hlen h1 htl' (by rw [← hsplit]; exact h2) (by rw [← hsplit]; exact h3) cert hS ops.size _ a w.drew (by simp) ?_
        have e0 : envOf (fun i => (Array.replicate ops.size false).getD i false) 0 pre ps env = envOf (fun _ => false) 0 pre ps env := envOf_congr pre ps 0 env fun i _ _ => hz i
        have o0 : ownOf (fun i => (Array.replicate ops.size false).getD i false) 0 ps own = ownOf (fun _ => false) 0 ps own := ownOf_congr (N := pre.length) (fun i _ => hz i) ps 0 own htl' (by omega)
        have hsz : ops.size = pre.length + suf.length := by rw [← Array.length_toList, hsplit, List.length_append]
        by_cases hp : pre.length = 0
        · have hpn : pre = [] := List.eq_nil_of_length_eq_zero hp
          subst hpn
          have hps : ps = [] := List.eq_nil_of_length_eq_zero hlen
          subst hps
          exact .inr ⟨0, Nat.zero_le _, fun i hi => by simp at hi, fun i _ => hz i, by omega, hS a _ hat'⟩
        · refine .inl ⟨⟨0, by omega, hz 0⟩, fun i _ => hz i, fun j oj k hj hs => (by rw [hz j] at hs; cases hs), ?_, ?_⟩
          · exact Nat.le_trans (List.length_filter_le _ _) (by simp)
          · rw [e0, o0]
            refine at_le hat' ?_ ?_
            · have : ∀ (l : List Oper) (q : List PE) (i : Nat), leE env (envOf (fun _ => false) i l q env) := by
                intro l
                induction l with
                | nil => intro q i t; simp only [envOf]; exact SVle.refl _
                | cons o os ih =>
                  intro q i t
                  cases q with
                  | nil => simp only [envOf, nth_put]; split; exact SVle.any _; exact ih [] (i + 1) t
                  | cons p q => simp only [envOf, nth_put]; split; exact SVle.any _; exact ih q (i + 1) t
              exact this pre ps 0
            · have : ∀ (q : List PE) (i : Nat), ownOf (fun _ => false) i q own = own := by
                intro q
                induction q with
                | nil => intro i; rfl
                | cons p q ih => intro i; simp [ownOf, ih]
              rw [this]
              exact fun k o h => h

def splitK {α β : Type} : Nat → List β → (List β → List β → α) → α
  | 0, l, k => k [] l
  | _ + 1, [], k => k [] []
  | n + 1, x :: l, k => splitK n l fun a b => k (x :: a) b

theorem splitK_pair {β : Type} {n : Nat} {l a b : List β} (h : splitK n l Prod.mk = (a, b)) : l = a ++ b := by
  have key : ∀ (α : Type) (n : Nat) (l : List β) (k : List β → List β → α), splitK n l k = k (l.take n) (l.drop n) := by
    intro α n
    induction n with
    | zero => intro l k; simp [splitK]
    | succ n ih =>
      intro l k
      cases l with
      | nil => simp [splitK]
      | cons x l => simp [splitK, ih]
  rw [key] at h
  simp only [Prod.mk.injEq] at h
  rw [← h.1, ← h.2, List.take_append_drop]

/-- The same, the first m told by their number. -/
theorem at_drawn {E : Stc} {id : Nat} {ops : Array Oper} {s : List Fr} {env : List (Nat × SV)} {own : List (Nat × SO)} {nx : List Nat} {all pre suf : List Oper} {ps : List PE} {env' : List (Nat × SV)} {own' : List (Nat × SO)} {ob : List Prop}
    (m : Nat) (hall : ops.toList = all) (hsplit : splitK m all Prod.mk = (pre, suf)) (ans : List (Nat × Ans)) (nx0 : List Nat) (h : plan E.P E.T E.cx.m0 E.n all pre suf ans env own nx0 [] = .ok ps env' own' ob) (ho : All ob) (hS : Sat E (.ops all suf) s env' own' nx)
    (hm : E.P.follows .mixedOrders = true := by rfl) : Sat E (.code (.region id ops true)) s env own nx :=
  at_draw hall (splitK_pair hsplit) ans nx0 h ho hS hm

/-- The same, where among them are writings: into which blocks. -/
theorem at_drawn_st {E : Stc} {id : Nat} {ops : Array Oper} {s : List Fr} {env : List (Nat × SV)} {own : List (Nat × SO)} {nx : List Nat} {all pre suf : List Oper} {ps : List PE} {env' : List (Nat × SV)} {own' : List (Nat × SO)} {ob : List Prop}
    (m : Nat) (st : List Nat) (hall : ops.toList = all) (hsplit : splitK m all Prod.mk = (pre, suf)) (ans : List (Nat × Ans)) (nx0 : List Nat) (h : plan E.P E.T E.cx.m0 E.n all pre suf ans env own nx0 st = .ok ps env' own' ob) (ho : All ob) (hS : Sat E (.ops all suf) s env' own' nx)
    (hm : E.P.follows .mixedOrders = true := by rfl) : Sat E (.code (.region id ops true)) s env own nx :=
  at_draw hall (splitK_pair hsplit) ans nx0 h ho hS hm

end Go.Eng
