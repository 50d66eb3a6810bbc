/- The texts Drawn, Bridge, See, Mk, Gro, Ifc, T2, W4a, W4b, one behind the other: an executor over the translated code, contracts of functions, and their laws. -/
import Derived.RowKit3
import Derived.ChangeSlices
import Derived.Carry
import Derived.WideLaws
import Derived.Test.YtmnmhehddbemkaaProg
import Derived.Test.YtmnmhehddbemkaaTermC3
/- The proof engine, part 17: the rule for a region whose order is drawn. -/
namespace Go.Eng

theorem envOf_take {sel : Nat → Bool} : ∀ (pre : List Oper) (plan : List PE) (i0 m : Nat) (env : List (Nat × SV)), (∀ j, i0 + m ≤ j → sel j = false) → envOf sel i0 pre (plan.take m) env = envOf sel i0 pre plan env
  | [], plan, _, m, _, _ => by cases plan <;> cases m <;> simp [envOf]
  | o :: os, [], _, m, _, _ => by simp
  | o :: os, p :: ps, i0, 0, env, h => by
    simp only [List.take_zero, envOf]
    rw [h i0 (by omega), ← envOf_take os ps (i0 + 1) 0 env (fun j hj => h j (by omega)), List.take_zero]
    rfl
  | o :: os, p :: ps, i0, m + 1, env, h => by
    simp only [List.take_succ_cons, envOf]
    rw [envOf_take os ps (i0 + 1) m env (fun j hj => h j (by omega))]

theorem envOf_mono {sel sel' : Nat → Bool} (hs : ∀ j, sel' j = true → sel j = true) : ∀ (pre : List Oper) (plan : List PE) (i0 : Nat) (env : List (Nat × SV)), leE (envOf sel i0 pre plan env) (envOf sel' i0 pre plan env)
  | [], _, _, _ => by intro t; simp only [envOf]; exact SVle.refl _
  | o :: os, [], i0, env => by
    intro t
    simp only [envOf, nth_put]
    split
    · exact SVle.refl _
    · exact envOf_mono hs os [] (i0 + 1) env t
  | o :: os, p :: ps, i0, env => by
    intro t
    simp only [envOf, nth_put]
    split
    · cases h : sel' i0 with
      | true => rw [hs i0 h]; exact SVle.refl _
      | false => exact SVle.any _
    · exact envOf_mono hs os ps (i0 + 1) env t

/-- No part has a name of these. -/
def disO (own : List (Nat × SO)) (plan : List PE) : Bool := plan.all fun p => (p.new.all fun x => (ownq own x.1).isNone) && match p.eats with
  | none => true
  | some k => (ownq own k).isNone

theorem ownOf_old {sel : Nat → Bool} {own0 ownR : List (Nat × SO)} {plan : List PE} (hsub : ∀ k o, ownq ownR k = some o → ownq own0 k = some o) (hdis : disO ownR plan = true) (hn : newOk own0 plan = true) : leO (ownOf sel 0 plan own0) ownR := by
  intro k o h0
  refine (ownOf_iff plan 0 hn).2 (.inl ⟨hsub k o h0, fun i p hp _ => ?_⟩)
  have hd := List.all_eq_true.1 hdis p (List.mem_of_getElem? hp)
  rw [Bool.and_eq_true] at hd
  refine ⟨fun _ => ?_, fun he => ?_⟩
  · cases hx : ownq p.new k with
    | none => rfl
    | some x =>
      obtain ⟨y, hy, e⟩ := ownq_mem hx
      have := List.all_eq_true.1 hd.1 y hy
      rw [e, h0] at this
      cases this
  · have := hd.2
    rw [he] at this
    simp [h0] at this

def noKO (b : Nat) : List (Nat × SO) → Bool
  | [] => true
  | (i, .cells _ cs) :: l => bif Nat.beq i b then false else bif SV.noKs b cs then noKO b l else false
  | (i, .tok _) :: l => bif Nat.beq i b then false else noKO b l
  | (i, .buf _ _) :: l => bif Nat.beq i b then false else noKO b l
  | (i, .obj _) :: l => bif Nat.beq i b then false else noKO b l

theorem freshO_eq (b : Nat) : ∀ l, freshO b l = noKO b l
  | [] => rfl
  | (i, .cells _ cs) :: l => by simp only [freshO, noKO, freshO_eq b l]
  | (i, .tok _) :: l => by simp only [freshO, noKO, freshO_eq b l]
  | (i, .buf _ _) :: l => by simp only [freshO, noKO, freshO_eq b l]
  | (i, .obj _) :: l => by simp only [freshO, noKO, freshO_eq b l]

theorem noKO_append {b : Nat} : ∀ {l m : List (Nat × SO)}, noKO b l = true → noKO b m = true → noKO b (l ++ m) = true
  | [], _, _, h => h
  | (i, .cells _ cs) :: l, m, h, hm => by
    simp only [noKO, List.cons_append] at h ⊢
    cases hi : Nat.beq i b with
    | true => simp [hi] at h
    | false =>
      cases hc : SV.noKs b cs with
      | false => simp [hi, hc] at h
      | true => simp only [hi, hc, cond_true, cond_false] at h ⊢; exact noKO_append h hm
  | (i, .buf _ _) :: l, m, h, hm => by
    simp only [noKO, List.cons_append] at h ⊢
    cases hi : Nat.beq i b with
    | true => simp [hi] at h
    | false => simp only [hi, cond_false] at h ⊢; exact noKO_append h hm
  | (i, .tok _) :: l, m, h, hm => by
    simp only [noKO, List.cons_append] at h ⊢
    cases hi : Nat.beq i b with
    | true => simp [hi] at h
    | false => simp only [hi, cond_false] at h ⊢; exact noKO_append h hm
  | (i, .obj _) :: l, m, h, hm => by
    simp only [noKO, List.cons_append] at h ⊢
    cases hi : Nat.beq i b with
    | true => simp [hi] at h
    | false => simp only [hi, cond_false] at h ⊢; exact noKO_append h hm

theorem noKO_rm1 {b k : Nat} : ∀ {l : List (Nat × SO)}, noKO b l = true → noKO b (rm1 k l) = true
  | [], h => h
  | (i, .cells t cs) :: l, h => by
    simp only [noKO] at h
    cases hi : Nat.beq i b with
    | true => simp [hi] at h
    | false =>
      cases hc : SV.noKs b cs with
      | false => simp [hi, hc] at h
      | true =>
        simp only [hi, hc, cond_true, cond_false] at h
        simp only [rm1]
        cases Nat.beq i k with
        | true => exact noKO_rm1 h
        | false => simp only [cond_false, noKO, hi, hc, cond_true]; exact noKO_rm1 h
  | (i, .buf c nn) :: l, h => by
    simp only [noKO] at h
    cases hi : Nat.beq i b with
    | true => simp [hi] at h
    | false =>
      simp only [hi, cond_false] at h
      simp only [rm1]
      cases Nat.beq i k with
      | true => exact noKO_rm1 h
      | false => simp only [cond_false, noKO, hi]; exact noKO_rm1 h
  | (i, .tok c) :: l, h => by
    simp only [noKO] at h
    cases hi : Nat.beq i b with
    | true => simp [hi] at h
    | false =>
      simp only [hi, cond_false] at h
      simp only [rm1]
      cases Nat.beq i k with
      | true => exact noKO_rm1 h
      | false => simp only [cond_false, noKO, hi]; exact noKO_rm1 h
  | (i, .obj c) :: l, h => by
    simp only [noKO] at h
    cases hi : Nat.beq i b with
    | true => simp [hi] at h
    | false =>
      simp only [hi, cond_false] at h
      simp only [rm1]
      cases Nat.beq i k with
      | true => exact noKO_rm1 h
      | false => simp only [cond_false, noKO, hi]; exact noKO_rm1 h
theorem noKO_eatO {b : Nat} {e : Option Nat} {l : List (Nat × SO)} (h : noKO b l = true) : noKO b (eatO e l) = true := by
  cases e with
  | none => exact h
  | some k => exact noKO_rm1 h

/-- For the block b of part j: no other part names it but those behind. -/
def freshJ (b j : Nat) : Nat → List Oper → List PE → Bool
  | i, o :: os, p :: ps => bif (Nat.beq i j || behind o j || (p.sv.noK b && noKO b p.new)) then freshJ b j (i + 1) os ps else false
  | _, _, _ => true

def freshOne (m0 : Nat) (pre : List Oper) (plan : List PE) (env0 : List (Nat × SV)) (own0 : List (Nat × SO)) (j : Nat) (p : PE) : Bool :=
  match p.wr, p.new with
  | true, _ => true
  | _, [] => true
  | _, (b, .cells _ cs) :: _ => Nat.ble m0 b && SV.noKs b cs && freshE b env0 && freshO b own0 && freshJ b j 0 pre plan
  | _, (b, .tok _) :: _ => Nat.ble m0 b && freshE b env0 && freshO b own0 && freshJ b j 0 pre plan
  | _, _ => false

def freshP (m0 : Nat) (pre : List Oper) (plan : List PE) (env0 : List (Nat × SV)) (own0 : List (Nat × SO)) : Nat → List PE → Bool
  | _, [] => true
  | j, p :: ps => bif freshOne m0 pre plan env0 own0 j p then freshP m0 pre plan env0 own0 (j + 1) ps else false

theorem freshP_spec {m0 : Nat} {pre : List Oper} {plan : List PE} {env0 : List (Nat × SV)} {own0 : List (Nat × SO)} : ∀ (l : List PE) (j0 j b t : Nat) (cs : List SV), freshP m0 pre plan env0 own0 j0 l = true →
    l[j]? = some ⟨.ptr b 0, [(b, .cells t cs)], none, none, false⟩ → m0 ≤ b ∧ SV.noKs b cs = true ∧ freshE b env0 = true ∧ freshO b own0 = true ∧ freshJ b (j0 + j) 0 pre plan = true
  | [], _, _, _, _, _, _, h => by simp at h
  | p :: ps, j0, j, b, t, cs, hf, h => by
    simp only [freshP] at hf
    cases h0 : freshOne m0 pre plan env0 own0 j0 p with
    | false => simp [h0] at hf
    | true =>
      simp only [h0, cond_true] at hf
      cases j with
      | zero =>
        simp only [List.getElem?_cons_zero, Option.some.injEq] at h
        subst h
        simp only [freshOne, Bool.and_eq_true] at h0
        obtain ⟨⟨⟨⟨h1, h2⟩, h3⟩, h4⟩, h5⟩ := h0
        exact ⟨Nat.le_of_ble_eq_true h1, h2, h3, h4, h5⟩
      | succ j =>
        have := freshP_spec ps (j0 + 1) j b t cs hf (by simpa using h)
        rw [show j0 + 1 + j = j0 + (j + 1) from by omega] at this
        exact this

theorem freshP_late {m0 : Nat} {pre : List Oper} {plan : List PE} {env0 : List (Nat × SV)} {own0 : List (Nat × SO)} : ∀ (l : List PE) (j0 j b t : Nat) (cs : List SV) (tl : Nat), freshP m0 pre plan env0 own0 j0 l = true →
    l[j]? = some ⟨.ptr b 0, [(b, .cells t cs)], some tl, none, false⟩ → m0 ≤ b ∧ SV.noKs b cs = true ∧ freshE b env0 = true ∧ freshO b own0 = true ∧ freshJ b (j0 + j) 0 pre plan = true
  | [], _, _, _, _, _, _, _, h => by simp at h
  | p :: ps, j0, j, b, t, cs, tl, hf, h => by
    simp only [freshP] at hf
    cases h0 : freshOne m0 pre plan env0 own0 j0 p with
    | false => simp [h0] at hf
    | true =>
      simp only [h0, cond_true] at hf
      cases j with
      | zero =>
        simp only [List.getElem?_cons_zero, Option.some.injEq] at h
        subst h
        simp only [freshOne, Bool.and_eq_true] at h0
        obtain ⟨⟨⟨⟨h1, h2⟩, h3⟩, h4⟩, h5⟩ := h0
        exact ⟨Nat.le_of_ble_eq_true h1, h2, h3, h4, h5⟩
      | succ j =>
        have := freshP_late ps (j0 + 1) j b t cs tl hf (by simpa using h)
        rw [show j0 + 1 + j = j0 + (j + 1) from by omega] at this
        exact this

theorem freshP_tok {m0 : Nat} {pre : List Oper} {plan : List PE} {env0 : List (Nat × SV)} {own0 : List (Nat × SO)} : ∀ (l : List PE) (j0 j b sz : Nat) (rows : List (List DV)) (til eats : Option Nat), freshP m0 pre plan env0 own0 j0 l = true →
    l[j]? = some ⟨.gl b sz rows, [(b, .tok sz)], til, eats, false⟩ → m0 ≤ b ∧ freshE b env0 = true ∧ freshO b own0 = true ∧ freshJ b (j0 + j) 0 pre plan = true
  | [], _, _, _, _, _, _, _, _, h => by simp at h
  | p :: ps, j0, j, b, sz, s, til, eats, hf, h => by
    simp only [freshP] at hf
    cases h0 : freshOne m0 pre plan env0 own0 j0 p with
    | false => simp [h0] at hf
    | true =>
      simp only [h0, cond_true] at hf
      cases j with
      | zero =>
        simp only [List.getElem?_cons_zero, Option.some.injEq] at h
        subst h
        simp only [freshOne, Bool.and_eq_true] at h0
        obtain ⟨⟨⟨h1, h3⟩, h4⟩, h5⟩ := h0
        exact ⟨Nat.le_of_ble_eq_true h1, h3, h4, h5⟩
      | succ j =>
        have := freshP_tok ps (j0 + 1) j b sz s til eats hf (by simpa using h)
        rw [show j0 + 1 + j = j0 + (j + 1) from by omega] at this
        exact this

theorem freshE_put {b : Nat} {dst : Option Nat} {s : SV} {env : List (Nat × SV)} (hs : s.noK b = true) (he : freshE b env = true) : freshE b (put dst s env) = true := by
  cases dst with
  | none => exact he
  | some d => simp [put, freshE, hs, he]

theorem fresh_env {sel : Nat → Bool} {b j : Nat} (hj : sel j = false) {env0 : List (Nat × SV)} (h0 : freshE b env0 = true) : ∀ (pre : List Oper) (plan : List PE) (i0 : Nat), freshJ b j i0 pre plan = true →
    (∀ i o, pre[i]? = some o → sel (i0 + i) = true → behind o j = true → sel j = true) → freshE b (envOf sel i0 pre plan env0) = true
  | [], _, _, _, _ => by simpa [envOf] using h0
  | o :: os, [], i0, _, hc => by
    simp only [envOf]
    refine freshE_put rfl ?_
    refine fresh_env hj h0 os [] (i0 + 1) (by simp [freshJ]) fun i o' ho hs hb => hc (i + 1) o' (by simpa using ho) (by rw [← hs]; congr 1; omega) hb
  | o :: os, p :: ps, i0, hf, hc => by
    simp only [freshJ] at hf
    cases hcond : (Nat.beq i0 j || behind o j || (p.sv.noK b && noKO b p.new)) with
    | false => simp [hcond] at hf
    | true =>
      simp only [hcond, cond_true] at hf
      simp only [envOf]
      have ih := fresh_env hj h0 os ps (i0 + 1) hf fun i o' ho hs hb => hc (i + 1) o' (by simpa using ho) (by rw [← hs]; congr 1; omega) hb
      refine freshE_put ?_ ih
      cases hs : sel i0 with
      | false => rfl
      | true =>
        simp only [cond_true]
        rw [Bool.or_eq_true, Bool.or_eq_true, Bool.and_eq_true] at hcond
        rcases hcond with (h1 | h1) | h1
        · rw [beq_true h1] at hs; rw [hs] at hj; cases hj
        · have := hc 0 o (by simp) (by simpa using hs) h1
          rw [hj] at this; cases this
        · exact h1.1

theorem fresh_own' {sel : Nat → Bool} {b j : Nat} (hj : sel j = false) : ∀ (pre : List Oper) (plan : List PE) (i0 : Nat) (own0 : List (Nat × SO)), noKO b own0 = true → plan.length ≤ pre.length → freshJ b j i0 pre plan = true →
    (∀ i o, pre[i]? = some o → sel (i0 + i) = true → behind o j = true → sel j = true) → noKO b (ownOf sel i0 plan own0) = true
  | _, [], _, _, h0, _, _, _ => h0
  | [], p :: ps, _, _, _, hl, _, _ => by simp at hl
  | o :: os, p :: ps, i0, own0, h0, hl, hf, hc => by
    simp only [freshJ] at hf
    cases hcond : (Nat.beq i0 j || behind o j || (p.sv.noK b && noKO b p.new)) with
    | false => simp [hcond] at hf
    | true =>
      simp only [hcond, cond_true] at hf
      simp only [ownOf]
      have ih := fresh_own' hj os ps (i0 + 1) (bif sel i0 then eatO p.eats own0 else own0) (by cases sel i0 <;> first | exact h0 | exact noKO_eatO h0) (by simpa using hl) hf fun i o' ho hs hb => hc (i + 1) o' (by simpa using ho) (by rw [← hs]; congr 1; omega) hb
      refine noKO_append ?_ ih
      cases hs : sel i0 with
      | false => rfl
      | true =>
        simp only [cond_true]
        cases tilOk sel p.til with
        | false => rfl
        | true =>
        simp only [cond_true]
        rw [Bool.or_eq_true, Bool.or_eq_true, Bool.and_eq_true] at hcond
        rcases hcond with (h1 | h1) | h1
        · rw [beq_true h1] at hs; rw [hs] at hj; cases hj
        · have := hc 0 o (by simp) (by simpa using hs) h1
          rw [hj] at this; cases this
        · exact h1.2

theorem fresh_own {sel : Nat → Bool} {b j : Nat} (hj : sel j = false) {own0 : List (Nat × SO)} (h0 : freshO b own0 = true) (pre : List Oper) (plan : List PE) (i0 : Nat) (hl : plan.length ≤ pre.length) (hf : freshJ b j i0 pre plan = true)
    (hc : ∀ i o, pre[i]? = some o → sel (i0 + i) = true → behind o j = true → sel j = true) : noKO b (ownOf sel i0 plan own0) = true :=
  fresh_own' hj pre plan i0 own0 (by rw [freshO_eq] at h0; exact h0) hl hf hc

theorem Dn.le {cx : Cx} {g : Nat → Value} {H : Hp} {env env' : List (Nat × SV)} {own own' : List (Nat × SO)} {n : Nat} {tmps : Array Value} {w : World} (hd : Dn cx g H env own n tmps w) (he : leE env env') (ho : leO own own') :
    Dn cx g H env' own' n tmps w :=
  { size := hd.size, den := fun t => he t g H _ (hd.den t), ok := fun k o hk => hd.ok k o (ho k o hk), hp := hd.hp, base := hd.base
    inj := fun k j hk hj => hd.inj k j (by
      cases hq : ownq own' k with
      | none => rw [hq] at hk; cases hk
      | some o => rw [ho k o hq]; rfl) (by
      cases hq : ownq own' j with
      | none => rw [hq] at hj; cases hj
      | some o => rw [ho j o hq]; rfl) }

theorem cert_of_loc {E : Stc} {ops : Array Oper} {pre suf : List Oper} {plan : List PE} {env0 : List (Nat × SV)} {own0 ownR : List (Nat × SO)} {s : List Fr} (hops : ops.toList = pre ++ suf) (hlen : plan.length = pre.length)
    (hsub : ∀ k o, ownq ownR k = some o → ownq own0 k = some o) (hdis : disO ownR plan = true) (hnew : newOk own0 plan = true) (heat : eatOk own0 plan = true) (hu : eatU plan = true) (hah : aheadOk 0 (pre ++ suf) = true) (hfr : freshP E.cx.m0 pre plan env0 own0 0 plan = true) (htl : ∀ (i : Nat) (p : PE) (j : Nat), plan[i]? = some p → p.til = some j → ∃ o, pre[j]? = some o ∧ behind o i = true) {i : Nat} {o : Oper} {p : PE} (hio : pre[i]? = some o) (hip : plan[i]? = some p)
    (hd : dstLt o.dst E.n = true) (hl : Loc E ops.toList plan i (envOf (behind o) 0 pre (plan.take i) env0) ownR own0 o p) : Cert E ops pre plan env0 own0 s i o p := by
  intro sel hi hbeh hcl a w hat
  have hopi : ops[i]? = some o := by
    have : ops.toList[i]? = some o := by rw [hops, List.getElem?_append_left (List.getElem?_eq_some_iff.1 hio).1]; exact hio
    simpa using this
  have hbi : ∀ j, i ≤ j → behind o j = false := by
    intro j hj
    cases hb : behind o j with
    | false => rfl
    | true =>
      have := aheadOk_spec (pre ++ suf) 0 i o hah (by rw [List.getElem?_append_left (List.getElem?_eq_some_iff.1 hio).1]; exact hio) j hb
      omega
  rw [envOf_take pre plan 0 i env0 (fun j hj => hbi j (by omega))] at hl
  have hle : leE (envOf sel 0 pre plan env0) (envOf (behind o) 0 pre plan env0) := envOf_mono hbeh pre plan 0 env0
  have hlo : leO (ownOf sel 0 plan own0) ownR := ownOf_old hsub hdis hnew
  have hat1 := at_le hat hle hlo
  have hlt : ∀ d, o.dst = some d → d < E.n := fun d e => by rw [e] at hd; exact Nat.blt_eq.mp hd
  obtain ⟨hdf, g, H, hdn⟩ := hat
  have hdn1 := hdn.le hle hlo
  have htil : ∀ j, p.til = some j → sel j = false := fun j hj => by
    obtain ⟨o', ho', hb⟩ := htl i p j hip hj
    cases hs : sel j with
    | false => rfl
    | true =>
      have := hcl j o' i ho' hs hb
      rw [hi] at this
      cases this
  have hfin : ∀ a' w', At E (put o.dst p.sv (envOf sel 0 pre plan env0)) (p.new ++ eatO p.eats (ownOf sel 0 plan own0)) a' w' → At E (put o.dst p.sv (envOf sel 0 pre plan env0)) (ownOf (add sel i) 0 plan own0) a' w' :=
    fun a' w' h => at_le h (fun _ => SVle.refl _) (ownOf_add plan i p hnew heat hip htil)
  unfold wpOp
  rw [hopi]
  simp only
  cases hl with
  | skip h =>
    have := h a w hat1
    rw [Array.toArray_toList] at this
    rw [if_neg (by rw [this]; simp)]
    refine hfin _ _ ?_
    show At E (put o.dst (.tup []) (envOf sel 0 pre plan env0)) (ownOf sel 0 plan own0) (a.put o.dst undef) w
    cases o.dst with
    | none => exact ⟨hdf, g, H, hdn⟩
    | some d => exact ⟨hdf, g, H, hdn.put_un⟩
  | val v sv h hD hl =>
    have := h a w hat1
    rw [Array.toArray_toList] at this
    rw [if_pos this]
    refine .inl ?_
    obtain ⟨x, hr, hx⟩ := hD E.cx g H E.n a w hdn1
    unfold Oper.wp
    rw [hr]
    exact hfin _ _ (At.put hdf hdn (hl g H x hx) hlt)
  | gro v h hG =>
    have := h a w hat1
    rw [Array.toArray_toList] at this
    rw [if_pos this]
    refine .inl ?_
    obtain ⟨x, w', H', hr, hx, hd'⟩ := hG.2 E.cx g H E.n _ _ a w hdn1 hdn
    unfold Oper.wp
    rw [hr]
    exact hfin _ _ (At.put hdf hd' hx hlt)
  | tok b sz rows til h hT =>
    have := h a w hat1
    rw [Array.toArray_toList] at this
    rw [if_pos this]
    refine .inl ?_
    obtain ⟨x, w', H', hr, hx, hd', hsp⟩ := hT E.cx g H E.n _ _ a w hdn1 hdn
    obtain ⟨hm, hE, hO, hJ⟩ := freshP_tok plan 0 i b sz _ til none hfr hip
    rw [Nat.zero_add] at hJ
    have hclo : ∀ k o', pre[k]? = some o' → sel (0 + k) = true → behind o' i = true → sel i = true := fun k o' ho' hk hb => hcl k o' i ho' (by simpa using hk) hb
    obtain ⟨hd2, hp⟩ := hd'.tok hm (fresh_env hi hE pre plan 0 hJ hclo) (by rw [freshO_eq]; exact fresh_own hi hO pre plan 0 (by omega) hJ hclo) hx (hsp.mono fun b hb => hdn.new_ok hb)
    unfold Oper.wp
    rw [hr]
    exact hfin _ _ (At.put hdf hd2 hp hlt)
  | use k sz j rows p' h hU hp' hn' ht' hb' =>
    have := h a w hat1
    rw [Array.toArray_toList] at this
    rw [if_pos this]
    refine .inl ?_
    have hk : ownq p'.new k = some (.tok sz) := by rw [hn']; simp [ownq]
    have htok : ownq (ownOf sel 0 plan own0) k = some (.tok sz) := (ownOf_iff plan 0 hnew).2 (.inr ⟨j, p', hp', by rw [Nat.zero_add]; exact hbeh j hb', by rw [ht']; simp [tilOk, hi], hk⟩)
    have hless : lessO k (ownOf sel 0 plan own0) (ownOf (add sel i) 0 plan own0) := by
      intro j' o' hj'
      have h2 := ownOf_add (sel := sel) plan i _ hnew heat hip htil j' o' hj'
      refine ⟨fun e => ?_, by simpa [eatO] using h2⟩
      subst e
      rcases (ownOf_iff plan 0 hnew).1 hj' with ⟨h3, _⟩ | ⟨i2, p2, q1, q2, q3, q4⟩
      · rcases newOk_own hnew hp' hk with e | ⟨e, _⟩
        · rw [h3] at e
          cases e
        · rw [ht'] at e
          cases e
      · rcases newOk_ne hnew hp' q1 hk q4 with e | e | e
        · subst e
          rw [hp'] at q1
          cases q1
          rw [ht'] at q3
          simp [tilOk, add] at q3
        · rw [ht'] at e
          simp only [Option.some.injEq] at e
          subst e
          rw [hip] at q1
          cases q1
          cases q4
        · rw [e] at q3
          simp only [tilOk, add] at q3
          rw [hbeh j hb'] at q3
          simp at q3
    obtain ⟨x, w', H', hr, hx, hd', _⟩ := hU E.cx g H E.n _ _ _ a w hdn1 hdn htok hless
    unfold Oper.wp
    rw [hr]
    exact At.put hdf hd' hx hlt
  | eat k sz b rows til h hU hk =>
    have := h a w hat1
    rw [Array.toArray_toList] at this
    rw [if_pos this]
    refine .inl ?_
    have htok : ownq (ownOf sel 0 plan own0) k = some (.tok sz) := by
      refine (ownOf_iff plan 0 hnew).2 (.inl ⟨hk, fun j q hq hs => ⟨fun _ => ?_, fun he => ?_⟩⟩)
      · exact (eatOk_spec heat (List.mem_of_getElem? hip) rfl).2 q (List.mem_of_getElem? hq)
      · have e := eatU_spec hu hq hip he rfl
        subst e
        rw [Nat.zero_add, hi] at hs
        cases hs
    have hless : lessO k (ownOf sel 0 plan own0) (rm1 k (ownOf sel 0 plan own0)) := fun j o' hj => ⟨fun e => (by subst e; rw [rm1_none] at hj; cases hj), rm1_own hj⟩
    obtain ⟨x, w', H', hr, hx, hd', hsp⟩ := hU E.cx g H E.n _ _ _ a w hdn1 hdn htok hless
    obtain ⟨hm, hE, hO, hJ⟩ := freshP_tok plan 0 i b sz _ til (some k) hfr hip
    rw [Nat.zero_add] at hJ
    have hclo : ∀ k o', pre[k]? = some o' → sel (0 + k) = true → behind o' i = true → sel i = true := fun k o' ho' hk hb => hcl k o' i ho' (by simpa using hk) hb
    obtain ⟨hd2, hp⟩ := hd'.tok hm (fresh_env hi hE pre plan 0 hJ hclo) (by rw [freshO_eq]; exact noKO_rm1 (fresh_own hi hO pre plan 0 (by omega) hJ hclo)) hx hsp
    unfold Oper.wp
    rw [hr]
    exact hfin _ _ (At.put hdf hd2 hp hlt)
  | eatc k sz b rows til h hU hk =>
    have := h a w hat1
    rw [Array.toArray_toList] at this
    rw [if_pos this]
    refine .inl ?_
    have htok : ownq (ownOf sel 0 plan own0) k = some (.tok sz) := by
      refine (ownOf_iff plan 0 hnew).2 (.inl ⟨hk, fun j q hq hs => ⟨fun _ => ?_, fun he => ?_⟩⟩)
      · exact (eatOk_spec heat (List.mem_of_getElem? hip) rfl).2 q (List.mem_of_getElem? hq)
      · have e := eatU_spec hu hq hip he rfl
        subst e
        rw [Nat.zero_add, hi] at hs
        cases hs
    have hless : lessO k (ownOf sel 0 plan own0) (rm1 k (ownOf sel 0 plan own0)) := fun j o' hj => ⟨fun e => (by subst e; rw [rm1_none] at hj; cases hj), rm1_own hj⟩
    obtain ⟨f, vs, hr, hcall⟩ := hU E.cx g H E.n _ _ _ a w hdn1 hdn htok hless
    obtain ⟨hm, hE, hO, hJ⟩ := freshP_tok plan 0 i b sz _ til (some k) hfr hip
    rw [Nat.zero_add] at hJ
    have hclo : ∀ k o', pre[k]? = some o' → sel (0 + k) = true → behind o' i = true → sel i = true := fun k o' ho' hk hb => hcl k o' i ho' (by simpa using hk) hb
    unfold Oper.wp
    rw [hr]
    refine hcall.mono fun e w' he => ?_
    cases e with
    | panicked c => exact he.elim
    | outgrown => exact he.elim
    | returned x =>
      obtain ⟨H', hx, hd', hsp⟩ := he
      obtain ⟨hd2, hp⟩ := hd'.tok hm (fresh_env hi hE pre plan 0 hJ hclo) (by rw [freshO_eq]; exact noKO_rm1 (fresh_own hi hO pre plan 0 (by omega) hJ hclo)) hx hsp
      exact hfin _ _ (At.put hdf hd2 hp hlt)
  | newAny b t cs h hN h1 =>
    have := h a w hat1
    rw [Array.toArray_toList] at this
    rw [if_pos this]
    refine .inl ?_
    obtain ⟨vs, hv, hr⟩ := hN E.cx g H E.n a w hdn1
    obtain ⟨hm, hcs, hE, hO, hJ⟩ := freshP_spec plan 0 i b t _ hfr hip
    rw [Nat.zero_add] at hJ
    have hclo : ∀ k o', pre[k]? = some o' → sel (0 + k) = true → behind o' i = true → sel i = true := fun k o' ho' hk hb => hcl k o' i ho' (by simpa using hk) hb
    have hd2 := hdn.new' (t := t) hm hcs (fresh_env hi hE pre plan 0 hJ hclo) (by rw [freshO_eq]; exact fresh_own hi hO pre plan 0 (by omega) hJ hclo) (by have := Dens.anys (g := g) (H := H) vs; rw [hv.length] at this; exact this) (hv.oneCells h1)
    unfold Oper.wp
    rw [hr]
    exact hfin _ _ (At.put hdf hd2 ⟨w.heap.size, upd_same _ _ _, rfl⟩ hlt)
  | stAny b ty m j h hW hp hb hdst =>
    have := h a w hat1
    rw [Array.toArray_toList] at this
    rw [if_pos this]
    refine .inl ?_
    have hk : ownq [(b, SO.cells ty (anys m))] b = some (.cells ty (anys m)) := by simp [ownq]
    have hold : ownq (ownOf sel 0 plan own0) b = some (.cells ty (anys m)) := (ownOf_iff plan 0 hnew).2 (.inr ⟨j, _, hp, by rw [Nat.zero_add]; exact hbeh j hb, rfl, hk⟩)
    obtain ⟨w', hr, hd'⟩ := hW E.cx g H E.n _ _ a w hdn1 hdn hold
    unfold Oper.wp
    rw [hr]
    show At E (put o.dst .any (envOf sel 0 pre plan env0)) (ownOf (add sel i) 0 plan own0) (a.put o.dst undef) w'
    rw [hdst]
    refine at_le (E := E) (env := envOf sel 0 pre plan env0) (a := a) ⟨hdf, g, H, hd'⟩ (fun _ => SVle.refl _) fun j' o' hj => ?_
    have h2 := ownOf_add (sel := sel) plan i _ hnew heat hip htil j' o' hj
    simp only [List.nil_append, eatO] at h2
    rw [ownq_setOwn]
    by_cases e : j' = b
    · subst e
      rw [hold] at h2
      rw [if_pos rfl, hold]
      exact h2
    · rw [if_neg e]
      exact h2
  | met b so so' v h hM hk =>
    have := h a w hat1
    rw [Array.toArray_toList] at this
    rw [if_pos this]
    refine .inl ?_
    have hold : ownq (ownOf sel 0 plan own0) b = some so := by
      refine (ownOf_iff plan 0 hnew).2 (.inl ⟨hk, fun j q hq hs => ⟨fun _ => ?_, fun he => ?_⟩⟩)
      rotate_left
      · have := (eatOk_spec heat (List.mem_of_getElem? hq) he).2 _ (List.mem_of_getElem? hip)
        simp [ownq] at this
      cases hx : ownq q.new b with
      | none => rfl
      | some x =>
        rcases newOk_ne hnew hip hq (k := b) (o := so') (by simp [ownq]) hx with e | e | e
        · subst e
          rw [Nat.zero_add, hi] at hs
          cases hs
        · cases e
        · rcases newOk_own hnew hq hx with e2 | e2
          · rw [hk] at e2; cases e2
          · rw [e2.1] at e; cases e
    obtain ⟨f, vs, hr, hcall⟩ := hM E.cx g H E.n _ _ a w hdn1 hdn hold
    unfold Oper.wp
    rw [hr]
    refine hcall.mono fun e w' he => ?_
    cases e with
    | panicked c => exact he.elim
    | outgrown => exact he.elim
    | returned x =>
      obtain ⟨H', hv, hd'⟩ := he
      refine at_le (At.put hdf hd' hv hlt) (fun _ => SVle.refl _) fun j o' hj => ?_
      have h2 := ownOf_add (sel := sel) plan i _ hnew heat hip htil j o' hj
      rw [ownq_setOwn]
      simp only [List.cons_append, List.nil_append, ownq, eatO] at h2
      by_cases e : j = b
      · subst e
        rw [Nat.beq_refl, cond_true] at h2
        rw [if_pos rfl, hold]
        exact h2
      · rw [if_neg e]
        cases hb : Nat.beq b j with
        | true => exact absurd (beq_true hb).symm e
        | false => rw [hb] at h2; exact h2
  | sto b old new h hW hk htk hdst =>
    have := h a w hat1
    rw [Array.toArray_toList] at this
    rw [if_pos this]
    refine .inl ?_
    have hold : ownq (ownOf sel 0 plan own0) b = some old := by
      refine (ownOf_iff plan 0 hnew).2 (.inl ⟨hk, fun j q hq hs => ⟨fun _ => ?_, fun he => ?_⟩⟩)
      rotate_left
      · obtain ⟨⟨sz, e⟩, _⟩ := eatOk_spec heat (List.mem_of_getElem? hq) he
        rw [hk] at e
        cases e
        cases htk
      cases hx : ownq q.new b with
      | none => rfl
      | some x =>
        rcases newOk_ne hnew hip hq (k := b) (o := new) (by simp [ownq]) hx with e | e | e
        · subst e
          rw [Nat.zero_add, hi] at hs
          cases hs
        · cases e
        · rcases newOk_own hnew hq hx with e2 | e2
          · rw [hk] at e2; cases e2
          · rw [e2.1] at e; cases e
    obtain ⟨w', hr, hd'⟩ := hW E.cx g H E.n _ _ a w hdn1 hdn hold
    unfold Oper.wp
    rw [hr]
    show At E (put o.dst .any (envOf sel 0 pre plan env0)) (ownOf (add sel i) 0 plan own0) (a.put o.dst undef) w'
    rw [hdst]
    refine at_le (E := E) (env := envOf sel 0 pre plan env0) (a := a) ⟨hdf, g, H, hd'⟩ (fun _ => SVle.refl _) fun j o' hj => ?_
    have h2 := ownOf_add (sel := sel) plan i _ hnew heat hip htil j o' hj
    rw [ownq_setOwn]
    simp only [List.cons_append, List.nil_append, ownq] at h2
    by_cases e : j = b
    · subst e
      rw [Nat.beq_refl, cond_true] at h2
      rw [if_pos rfl, hold]
      exact h2
    · rw [if_neg e]
      cases hb : Nat.beq b j with
      | true => exact absurd (beq_true hb).symm e
      | false => rw [hb] at h2; exact h2
  | new b t cs h hN h1 =>
    have := h a w hat1
    rw [Array.toArray_toList] at this
    rw [if_pos this]
    refine .inl ?_
    obtain ⟨vs, hv, hr⟩ := hN E.cx g H E.n a w hdn1
    obtain ⟨hm, hcs, hE, hO, hJ⟩ := freshP_spec plan 0 i b t cs hfr hip
    rw [Nat.zero_add] at hJ
    have hclo : ∀ k o', pre[k]? = some o' → sel (0 + k) = true → behind o' i = true → sel i = true := fun k o' ho' hk hb => hcl k o' i ho' (by simpa using hk) hb
    obtain ⟨hd2, hp⟩ := hdn.new (t := t) hm hcs (fresh_env hi hE pre plan 0 hJ hclo) (by rw [freshO_eq]; exact fresh_own hi hO pre plan 0 (by omega) hJ hclo) hv h1
    unfold Oper.wp
    rw [hr]
    exact hfin _ _ (At.put hdf hd2 hp hlt)
  | newL b t cs tl h hN h1 =>
    have := h a w hat1
    rw [Array.toArray_toList] at this
    rw [if_pos this]
    refine .inl ?_
    obtain ⟨vs, hv, hr⟩ := hN E.cx g H E.n a w hdn1
    obtain ⟨hm, hcs, hE, hO, hJ⟩ := freshP_late plan 0 i b t cs tl hfr hip
    rw [Nat.zero_add] at hJ
    have hclo : ∀ k o', pre[k]? = some o' → sel (0 + k) = true → behind o' i = true → sel i = true := fun k o' ho' hk hb => hcl k o' i ho' (by simpa using hk) hb
    obtain ⟨hd2, hp⟩ := hdn.new (t := t) hm hcs (fresh_env hi hE pre plan 0 hJ hclo) (by rw [freshO_eq]; exact fresh_own hi hO pre plan 0 (by omega) hJ hclo) hv h1
    unfold Oper.wp
    rw [hr]
    exact hfin _ _ (At.put hdf hd2 hp hlt)
  | stSet b ty j cs cs' h hW hp hb hdst =>
    have := h a w hat1
    rw [Array.toArray_toList] at this
    rw [if_pos this]
    refine .inl ?_
    have hk : ownq [(b, SO.cells ty cs)] b = some (.cells ty cs) := by simp [ownq]
    have hold : ownq (ownOf sel 0 plan own0) b = some (.cells ty cs) := (ownOf_iff plan 0 hnew).2 (.inr ⟨j, _, hp, by rw [Nat.zero_add]; exact hbeh j hb, by simp [tilOk, hi], hk⟩)
    obtain ⟨w', hr, hd'⟩ := hW E.cx g H E.n _ _ a w hdn1 hdn hold
    unfold Oper.wp
    rw [hr]
    show At E (put o.dst .any (envOf sel 0 pre plan env0)) (ownOf (add sel i) 0 plan own0) (a.put o.dst undef) w'
    rw [hdst]
    refine at_le (E := E) (env := envOf sel 0 pre plan env0) (a := a) ⟨hdf, g, H, hd'⟩ (fun _ => SVle.refl _) fun j o' hj => ?_
    have h2 := ownOf_add (sel := sel) plan i _ hnew heat hip htil j o' hj
    rw [ownq_setOwn]
    simp only [List.cons_append, List.nil_append, ownq] at h2
    by_cases e : j = b
    · subst e
      rw [Nat.beq_refl, cond_true] at h2
      rw [if_pos rfl, hold]
      exact h2
    · rw [if_neg e]
      cases hb : Nat.beq b j with
      | true => exact absurd (beq_true hb).symm e
      | false => rw [hb] at h2; exact h2
  | call f args sv h hc hf =>
    have := h a w hat1
    rw [Array.toArray_toList] at this
    rw [if_pos this]
    refine .inl ?_
    obtain ⟨vs, hv, hr⟩ := run_call (P := E.P) hdn1 hf.1 hc
    have hcall := hf.2 g H w vs hdn.hp (fun k o hk => by simp [ownq] at hk) (fun i j hi => by simp [ownq] at hi) hv
    unfold Oper.wp
    rw [hr]
    refine hcall.mono fun e w' he => ?_
    cases e with
    | panicked c => exact he.elim
    | outgrown => exact he.elim
    | returned v =>
      obtain ⟨sv', post, ⟨h1, h2, h3⟩, hb⟩ := hdn.called (r := fun k => k) (pre := []) (m := 0) trivial (fun k hk => absurd hk (Nat.not_lt_zero k)) he
      subst h1; subst h3
      obtain ⟨H', hv2, hd2⟩ := hb h2 rfl rfl
      rw [ren_id] at hv2
      exact hfin _ _ (At.put hdf hd2 hv2 hlt)

theorem locs_get {E : Stc} {all pre : List Oper} {env0 : List (Nat × SV)} {own0 ownS : List (Nat × SO)} {plan : List PE} : ∀ (l : List Oper) (i0 i : Nat) (o : Oper), Locs E all pre env0 own0 ownS plan i0 l → l[i]? = some o →
    dstLt o.dst E.n = true ∧ ∃ p, plan[i0 + i]? = some p ∧ Loc E all plan (i0 + i) (envOf (behind o) 0 pre (plan.take (i0 + i)) env0) own0 ownS o p
  | [], _, _, _, _, h => by simp at h
  | x :: xs, i0, 0, o, hl, h => by
    simp only [List.getElem?_cons_zero, Option.some.injEq] at h
    subst h
    exact hl.1
  | x :: xs, i0, i + 1, o, hl, h => by
    have := locs_get xs (i0 + 1) i o hl.2 (by simpa using h)
    rw [show i0 + 1 + i = i0 + (i + 1) from by omega] at this
    exact this

/-- Whoever uses a token up stands behind the one that made it. -/
def tilsB (pre : List Oper) (plan : List PE) : Nat → List PE → Bool
  | _, [] => true
  | i, p :: ps => bif (match p.til with
      | none => true
      | some j => Nat.blt j pre.length && (match pre[j]? with | some o => behind o i | none => false)) then tilsB pre plan (i + 1) ps else false

theorem tilsB_spec {pre : List Oper} {plan : List PE} : ∀ (l : List PE) (i0 i : Nat) (p : PE) (j : Nat), tilsB pre plan i0 l = true → l[i]? = some p → p.til = some j → j < pre.length ∧ ∃ o, pre[j]? = some o ∧ behind o (i0 + i) = true
  | [], _, _, _, _, _, h, _ => by simp at h
  | q :: ps, i0, i, p, j, hb, h, ht => by
    cases hc : (match q.til with
      | none => true
      | some j => Nat.blt j pre.length && (match pre[j]? with | some o => behind o i0 | none => false)) with
    | false => simp only [tilsB, hc, cond_false] at hb; cases hb
    | true =>
      simp only [tilsB, hc, cond_true] at hb
      cases i with
      | zero =>
        simp only [List.getElem?_cons_zero, Option.some.injEq] at h
        subst h
        rw [ht] at hc
        simp only [Bool.and_eq_true] at hc
        refine ⟨Nat.blt_eq.mp hc.1, ?_⟩
        cases hj : pre[j]? with
        | none => rw [hj] at hc; simp at hc
        | some o => rw [hj] at hc; exact ⟨o, rfl, hc.2⟩
      | succ i =>
        have := tilsB_spec ps (i0 + 1) i p j hb (by simpa using h) ht
        rw [show i0 + 1 + i = i0 + (i + 1) from by omega] at this
        exact this

/-- The plan as a whole, with what stands behind it. -/
def plan (P : Program) (T : Nat → TI) (m0 n : Nat) (all pre _suf : List Oper) (ans : List (Nat × Ans)) (env0 : List (Nat × SV)) (own0 : List (Nat × SO)) (nx st : List Nat) : PlanR :=
  bif dstsOk pre then
    bif sufOk pre.length all then
      bif aheadOk 0 all then
        rmOK st own0 fun ownR => planK P T m0 n all pre ans env0 ownR own0 0 pre [] nx [] fun ps ob =>
          bif newOk own0 ps && (disO ownR ps && (eatOk own0 ps && eatU ps)) then
            bif freshP m0 pre ps env0 own0 0 ps then
              bif tilsB pre ps 0 ps then
                envOfK (fun _ => true) 0 pre ps env0 fun env => ownOfK ps own0 fun own => .ok ps env own ob
              else .stuck 105
            else .stuck 104
          else .stuck 103
      else .stuck 102
    else .stuck 101
  else .stuck 100

/-- A region whose order is drawn: the first m operations in whatever order, the others behind them. -/
theorem at_draw {E : Stc} {id : Nat} {ops : Array Oper} {s : List Fr} {env : List (Nat × SV)} {own : List (Nat × SO)} {nx : List Nat} {all pre suf : List Oper} {ps : List PE} {env' : List (Nat × SV)} {own' : List (Nat × SO)} {ob : List Prop}
    (hall : ops.toList = all) (hsplit : all = pre ++ suf) (ans : List (Nat × Ans)) (nx0 : List Nat) {st : List Nat} (h : plan E.P E.T E.cx.m0 E.n all pre suf ans env own nx0 st = .ok ps env' own' ob) (ho : All ob) (hS : Sat E (.ops all suf) s env' own' nx)
    (hm : E.P.follows .mixedOrders = true := by rfl) : Sat E (.code (.region id ops true)) s env own nx := by
  subst hall
  unfold plan at h
  cases h1 : dstsOk pre with
  | false => simp [h1] at h
  | true =>
    cases h2 : sufOk pre.length ops.toList with
    | false => simp [h1, h2] at h
    | true =>
      cases h3 : aheadOk 0 ops.toList with
      | false => simp [h1, h2, h3] at h
      | true =>
        simp only [h1, h2, h3, cond_true, envOfK_eq, ownOfK_eq 0, rmOK_eq] at h
        have key := planK_sound E ops.toList pre ans env (rmO st own) own _ ps env' own' ob ((newOk own ps && (disO (rmO st own) ps && (eatOk own ps && eatU ps))) = true ∧ freshP E.cx.m0 pre ps env own 0 ps = true ∧ tilsB pre ps 0 ps = true ∧ env' = envOf (fun _ => true) 0 pre ps env ∧ own' = ownOf (fun _ => true) 0 ps own) (fun qs ob1 hq ha => by
          cases h4 : (newOk own qs && (disO (rmO st own) qs && (eatOk own qs && eatU qs))) with
          | false => simp [h4] at hq
          | true =>
            cases h5 : freshP E.cx.m0 pre qs env own 0 qs with
            | false => simp [h4, h5] at hq
            | true =>
              cases h6 : tilsB pre qs 0 qs with
              | false => simp [h4, h5, h6] at hq
              | true =>
                simp only [h4, h5, h6, cond_true, PlanR.ok.injEq] at hq
                obtain ⟨e1, e2, e3, e4⟩ := hq
                subst e1; subst e4
                exact ⟨rfl, ha, h4, h5, h6, e2.symm, e3.symm⟩) pre 0 [] nx0 [] rfl h ho
        obtain ⟨_, _, hlen, hlocs, hn, hf, htl, e1, e2⟩ := key
        rw [Nat.zero_add] at hlen
        rw [Bool.and_eq_true, Bool.and_eq_true, Bool.and_eq_true] at hn
        obtain ⟨hn, hdis, heat, hu⟩ := hn
        subst e1; subst e2
        intro a w hat
        refine wp_region_any hm ?_
        have hat' : At E env own a w.drew := by
          obtain ⟨hdf, g, H, hd⟩ := hat
          exact ⟨hdf, g, H, hd.drew⟩
        have cert : ∀ i o p, pre[i]? = some o → ps[i]? = some p → Cert E ops pre ps env own s i o p := by
          intro i o p hio hip
          obtain ⟨hd, p', hp', hl⟩ := locs_get pre 0 i o hlocs hio
          rw [Nat.zero_add] at hp' hl
          rw [hip] at hp'
          cases hp'
          exact cert_of_loc hsplit hlen (fun k o h => rmO_own h) hdis hn heat hu (by rw [← hsplit]; exact h3) hf (fun i p j hp hj => by have := (tilsB_spec ps 0 i p j htl hp hj).2; rwa [Nat.zero_add] at this) hio hip hd hl
        have htl' : tilsLt pre.length ps := fun p hp j hj => by
          obtain ⟨i, hi⟩ := List.getElem?_of_mem hp
          exact (tilsB_spec ps 0 i p j htl hi hj).1
        have hz : ∀ i, (Array.replicate ops.size false).getD i false = false := by
          intro i
          rw [Array.getD_eq_getD_getElem?, Array.getElem?_replicate]
          split <;> rfl
        refine wpAny_plan E ops pre suf ps env own s nx hsplit hlen h1 htl' (by rw [← hsplit]; exact h2) (by rw [← hsplit]; exact h3) cert hS ops.size _ a w.drew (by simp) ?_
        have e0 : envOf (fun i => (Array.replicate ops.size false).getD i false) 0 pre ps env = envOf (fun _ => false) 0 pre ps env := envOf_congr pre ps 0 env fun i _ _ => hz i
        have o0 : ownOf (fun i => (Array.replicate ops.size false).getD i false) 0 ps own = ownOf (fun _ => false) 0 ps own := ownOf_congr (N := pre.length) (fun i _ => hz i) ps 0 own htl' (by omega)
        have hsz : ops.size = pre.length + suf.length := by rw [← Array.length_toList, hsplit, List.length_append]
        by_cases hp : pre.length = 0
        · have hpn : pre = [] := List.eq_nil_of_length_eq_zero hp
          subst hpn
          have hps : ps = [] := List.eq_nil_of_length_eq_zero hlen
          subst hps
          exact .inr ⟨0, Nat.zero_le _, fun i hi => by simp at hi, fun i _ => hz i, by omega, hS a _ hat'⟩
        · refine .inl ⟨⟨0, by omega, hz 0⟩, fun i _ => hz i, fun j oj k hj hs => (by rw [hz j] at hs; cases hs), ?_, ?_⟩
          · exact Nat.le_trans (List.length_filter_le _ _) (by simp)
          · rw [e0, o0]
            refine at_le hat' ?_ ?_
            · have : ∀ (l : List Oper) (q : List PE) (i : Nat), leE env (envOf (fun _ => false) i l q env) := by
                intro l
                induction l with
                | nil => intro q i t; simp only [envOf]; exact SVle.refl _
                | cons o os ih =>
                  intro q i t
                  cases q with
                  | nil => simp only [envOf, nth_put]; split; exact SVle.any _; exact ih [] (i + 1) t
                  | cons p q => simp only [envOf, nth_put]; split; exact SVle.any _; exact ih q (i + 1) t
              exact this pre ps 0
            · have : ∀ (q : List PE) (i : Nat), ownOf (fun _ => false) i q own = own := by
                intro q
                induction q with
                | nil => intro i; rfl
                | cons p q ih => intro i; simp [ownOf, ih]
              rw [this]
              exact fun k o h => h

def splitK {α β : Type} : Nat → List β → (List β → List β → α) → α
  | 0, l, k => k [] l
  | _ + 1, [], k => k [] []
  | n + 1, x :: l, k => splitK n l fun a b => k (x :: a) b

theorem splitK_pair {β : Type} {n : Nat} {l a b : List β} (h : splitK n l Prod.mk = (a, b)) : l = a ++ b := by
  have key : ∀ (α : Type) (n : Nat) (l : List β) (k : List β → List β → α), splitK n l k = k (l.take n) (l.drop n) := by
    intro α n
    induction n with
    | zero => intro l k; simp [splitK]
    | succ n ih =>
      intro l k
      cases l with
      | nil => simp [splitK]
      | cons x l => simp [splitK, ih]
  rw [key] at h
  simp only [Prod.mk.injEq] at h
  rw [← h.1, ← h.2, List.take_append_drop]

/-- The same, the first m told by their number. -/
theorem at_drawn {E : Stc} {id : Nat} {ops : Array Oper} {s : List Fr} {env : List (Nat × SV)} {own : List (Nat × SO)} {nx : List Nat} {all pre suf : List Oper} {ps : List PE} {env' : List (Nat × SV)} {own' : List (Nat × SO)} {ob : List Prop}
    (m : Nat) (hall : ops.toList = all) (hsplit : splitK m all Prod.mk = (pre, suf)) (ans : List (Nat × Ans)) (nx0 : List Nat) (h : plan E.P E.T E.cx.m0 E.n all pre suf ans env own nx0 [] = .ok ps env' own' ob) (ho : All ob) (hS : Sat E (.ops all suf) s env' own' nx)
    (hm : E.P.follows .mixedOrders = true := by rfl) : Sat E (.code (.region id ops true)) s env own nx :=
  at_draw hall (splitK_pair hsplit) ans nx0 h ho hS hm

/-- The same, where among them are writings: into which blocks. -/
theorem at_drawn_st {E : Stc} {id : Nat} {ops : Array Oper} {s : List Fr} {env : List (Nat × SV)} {own : List (Nat × SO)} {nx : List Nat} {all pre suf : List Oper} {ps : List PE} {env' : List (Nat × SV)} {own' : List (Nat × SO)} {ob : List Prop}
    (m : Nat) (st : List Nat) (hall : ops.toList = all) (hsplit : splitK m all Prod.mk = (pre, suf)) (ans : List (Nat × Ans)) (nx0 : List Nat) (h : plan E.P E.T E.cx.m0 E.n all pre suf ans env own nx0 st = .ok ps env' own' ob) (ho : All ob) (hS : Sat E (.ops all suf) s env' own' nx)
    (hm : E.P.follows .mixedOrders = true := by rfl) : Sat E (.code (.region id ops true)) s env own nx :=
  at_draw hall (splitK_pair hsplit) ans nx0 h ho hS hm

end Go.Eng
/- The proof engine, part 18: from a contract to what the given statements ask. -/
namespace Go.Eng
open Go.RowKit

/-- All that the world holds. -/
def Hof (w : World) : Hp := fun b o => w.cell? ⟨b, o, none⟩
theorem Hof_on (w : World) : (Hof w).on w := fun _ _ _ h => h

theorem gives_tt0 {P : Program} {f : FuncId} {args : List SV} (h : Gives P f args .tt) (vs : List Value) (w : World) (hd : Dens (fun _ => undef) (Hof w) args vs) :
    Calls P f vs.toArray w fun e w' => e = .returned (.bool true) ∧ Below w.heap.size w w' := by
  refine (h.2 _ _ w vs (Hof_on w) (fun k o hk => by simp [ownq] at hk) (fun i j hi => by simp [ownq] at hi) hd).mono fun e w' he => ?_
  cases e with
  | returned v =>
    obtain ⟨g', H', sv, own, ⟨rfl, _, rfl⟩, hv, _, _, _, hb⟩ := he
    have e : v = .bool true := hv
    subst e
    refine ⟨rfl, hb.os, hb.tape, hb.output, hb.size, fun i hi => hb.block i hi ?_⟩
    rintro ⟨k, hk, _⟩
    simp [ownq] at hk
  | _ => exact he.elim

/-- Integers, as they are read. -/
theorem den_ints {w : World} {a : Addr} {len cap : Nat} {k : IntKind} (zs : List Int) (hl : len ≤ cap) (hz : zs.length = cap) (hc : ∀ i, i < zs.length → w.cell? (a.add i) = some (.int k (zs.getD i 0))) :
    DenD (Hof w) (.lst 1 ((zs.take len).map fun n => [.int k n])) (.slice (some a) len cap) := by
  have hlen : ((zs.take len).map fun n => [DV.int k n]).length = len := by simp; omega
  have cells : ∀ (l : List Int) (b off : Nat), (∀ i, i < l.length → w.cell? ⟨b, off + i, none⟩ = some (.int k (l.getD i 0))) → DenRs (Hof w) b off 1 (l.map fun n => [DV.int k n]) := by
    intro l
    induction l with
    | nil => intro b off _; trivial
    | cons n l ih =>
      intro b off h
      refine ⟨⟨[.int k n], ⟨rfl, trivial⟩, rfl, fun j v hj => ?_⟩, ih b (off + 1) fun i hi => ?_⟩
      · cases j with
        | zero =>
          have := h 0 (by simp)
          simp only [List.getElem?_cons_zero, Option.some.injEq] at hj
          subst hj
          exact this
        | succ j => simp at hj
      · have := h (i + 1) (by simp; omega)
        rw [show off + 1 + i = off + (i + 1) from by omega]
        simpa using this
  refine ⟨some a, cap, by rw [hlen], by rw [hlen]; exact hl, fun e => (by cases e), fun p hp => ?_⟩
  simp only [Option.some.injEq] at hp
  subst hp
  by_cases h0 : len = 0
  · subst h0
    exact ⟨.inl (by simp), by simp [DenRs]⟩
  · have hs : a.spot = none := by
      have := hc 0 (by omega)
      have := World.cell?_spot this
      simpa [Addr.add] using this
    obtain ⟨b, off, spot⟩ := a
    simp only at hs
    subst hs
    refine ⟨.inr rfl, cells _ b off fun i hi => ?_⟩
    have hi' : i < len := by simp at hi; omega
    have := hc i (by omega)
    rw [addr_add] at this
    rw [this]
    simp [List.getD_eq_getElem?_getD, hi']
end Go.Eng
/- The proof engine, part 19: what plain arguments are read as. -/
namespace Go.Eng
open Go.RowKit

/-- Fields that lie one behind the other. -/
def contF (P : Program) : Nat → List Field → Nat → Bool
  | off, [], n => Nat.beq off n
  | off, f :: fs, n => Nat.beq f.offset off && contF P (off + P.cellsOf f.type) fs n

/-- Types of numbers, texts, structs and lists, closed among themselves. -/
def plainT (P : Program) (ts : List TypeId) : Bool :=
  ts.all fun t => match P.underlying t with
    | some (.int _) => true
    | some .bool => true
    | some .string => true
    | some (.slice e) => ts.contains e && Nat.blt 0 (P.cellsOf e)
    | some (.struct fs) => contF P 0 fs.toList (P.cellsOf t) && fs.toList.all fun f => ts.contains f.type
    | _ => false

/-- Cells of a type. -/
def okT (P : Program) : Nat → TypeId → List DV → Prop
  | 0, _, _ => False
  | n + 1, t, ds => match P.underlying t with
    | some (.int k) => ∃ m, ds = [.int k m] ∧ (Lit.int k m).wf = true
    | some .bool => ∃ b, ds = [.bl b]
    | some .string => ∃ s : ByteArray, ds = [.str s] ∧ s.size ≤ maxLen
    | some (.slice e) => ∃ rows, ds = [.lst (P.cellsOf e) rows] ∧ rows.length ≤ maxLen ∧ ∀ r ∈ rows, r.length = P.cellsOf e ∧ okT P n e r
    | some (.struct fs) => ds.length = P.cellsOf t ∧ ∀ (i : Nat) f, fs[i]? = some f → okT P n f.type ((ds.drop f.offset).take (P.cellsOf f.type))
    | _ => False

theorem contF_le {P : Program} : ∀ {fl : List Field} {off N : Nat}, contF P off fl N = true → off ≤ N
  | [], off, N, h => by have := beq_true h; omega
  | f :: fl, off, N, h => by
    simp only [contF, Bool.and_eq_true] at h
    have := contF_le h.2
    omega

theorem DenDs.app {H : Hp} : ∀ {a b : List DV} {x y : List Value}, DenDs H a x → DenDs H b y → DenDs H (a ++ b) (x ++ y)
  | [], _, [], _, _, h => h
  | _ :: _, _, _ :: _, _, h1, h2 => ⟨h1.1, DenDs.app h1.2 h2⟩
  | [], _, _ :: _, _, h, _ => h.elim
  | _ :: _, _, [], _, h, _ => h.elim

section
variable {H : Type} {enc : TypeId × Value → H} {P : Program} {w : World} {base : Nat} {spare : Nat → Bool} {held : Bool}

theorem see_fields {ts : List TypeId} {n : Nat} (ih : ∀ t cs x, t ∈ ts → DataW.trod enc P w base spare held n t cs = some x → ∃ ds, DenDs (Hof w) ds cs ∧ okT P n t ds) {cs : List Value} {N : Nat} (hN : cs.length = N) :
    ∀ (fl : List Field) (off : Nat), contF P off fl N = true → (∀ f ∈ fl, f.type ∈ ts ∧ ∃ y, DataW.trod enc P w base spare held n f.type ((cs.drop f.offset).take (P.cellsOf f.type)) = some y) →
      ∃ ds, DenDs (Hof w) ds (cs.drop off) ∧ ∀ pre : List DV, pre.length = off → ∀ f ∈ fl, okT P n f.type (((pre ++ ds).drop f.offset).take (P.cellsOf f.type))
  | [], off, h, _ => by
    have := beq_true h
    exact ⟨[], by rw [List.drop_eq_nil_of_le (by omega)]; trivial, fun pre hp f hf => by cases hf⟩
  | f :: fl, off, h, hf => by
    simp only [contF, Bool.and_eq_true] at h
    have ho := beq_true h.1
    have hle := contF_le h.2
    obtain ⟨ht, y, hy⟩ := hf f (by simp)
    obtain ⟨d1, hd1, hk1⟩ := ih _ _ _ ht hy
    obtain ⟨d2, hd2, hk2⟩ := see_fields ih hN fl (off + P.cellsOf f.type) h.2 fun g hg => hf g (by simp [hg])
    rw [ho] at hd1
    have hl1 : d1.length = P.cellsOf f.type := by rw [← hd1.length]; simp; omega
    refine ⟨d1 ++ d2, ?_, fun pre hp g hg => ?_⟩
    · have e : cs.drop off = (cs.drop off).take (P.cellsOf f.type) ++ cs.drop (off + P.cellsOf f.type) := by rw [← List.drop_drop, List.take_append_drop]
      rw [e]
      exact hd1.app hd2
    · rcases List.mem_cons.1 hg with rfl | hg
      · rw [ho, ← hp, List.drop_left, ← hl1, List.take_left]
        exact hk1
      · rw [← List.append_assoc]
        exact hk2 (pre ++ d1) (by simp [hp, hl1]) g hg

theorem trod_see {ts : List TypeId} (hp : plainT P ts = true) : ∀ (n : Nat) (t : TypeId) (cs : List Value) (x : DataW H × List MemPlace), t ∈ ts → DataW.trod enc P w base spare held n t cs = some x →
    ∃ ds, DenDs (Hof w) ds cs ∧ okT P n t ds := by
  intro n
  induction n with
  | zero => intro t cs x _ h; simp [DataW.trod] at h
  | succ n ih =>
    intro t cs x ht h
    have hc := List.all_eq_true.1 hp t ht
    unfold okT
    split at hc
    · rename_i k hu
      obtain ⟨m, rfl, _, hw⟩ := DataW.trod_int hu h
      exact ⟨[.int k m], ⟨rfl, trivial⟩, by exact ⟨m, rfl, hw⟩⟩
    · rename_i hu
      obtain ⟨b, rfl, _⟩ := DataW.trod_bool hu h
      exact ⟨[.bl b], ⟨rfl, trivial⟩, by exact ⟨b, rfl⟩⟩
    · rename_i hu
      obtain ⟨s, rfl, _, hw⟩ := DataW.trod_string hu h
      exact ⟨[.str s], ⟨rfl, trivial⟩, by exact ⟨s, rfl, hw⟩⟩
    · rename_i e hu
      rw [Bool.and_eq_true] at hc
      have hmem : e ∈ ts := by simpa using hc.1
      have hsz : 0 < P.cellsOf e := Nat.blt_eq.mp hc.2
      rcases DataW.trod_slice hu h with ⟨rfl, _⟩ | ⟨a, len, cap, elems, rest, n', hn', rfl, _, hb, hl, hm, hlen, hel, _, _⟩
      · exact ⟨[.lst (P.cellsOf e) []], ⟨⟨none, 0, rfl, Nat.le_refl _, fun _ => ⟨rfl, rfl⟩, fun p hp => by cases hp⟩, trivial⟩, by exact ⟨[], rfl, Nat.zero_le _, by simp⟩⟩
      · simp only [Nat.add_right_cancel_iff] at hn'
        subst hn'
        have each : ∀ i, i < len → ∃ cs y, w.cells? base (a.add (i * P.cellsOf e)) (P.cellsOf e) = some cs ∧ DataW.trod enc P w base spare held n e cs = some y := by
          intro i hi
          have h1 := hel i hi
          rw [List.getElem?_eq_getElem (by omega), Option.bind_eq_some_iff] at h1
          obtain ⟨cs, h2, h3⟩ := h1
          exact ⟨cs, _, h2, h3⟩
        by_cases h0 : len = 0
        · subst h0
          exact ⟨[.lst (P.cellsOf e) []], ⟨⟨some a, cap, rfl, Nat.zero_le _, fun e => (by cases e), fun p _ => ⟨.inl rfl, trivial⟩⟩, trivial⟩, by exact ⟨[], rfl, Nat.zero_le _, by simp⟩⟩
        · have hs : a.spot = none := by
            obtain ⟨cs, y, h1, _⟩ := each 0 (by omega)
            have h2 := (World.cells?_some h1).2.2 0 hsz
            rw [List.getElem?_eq_getElem (by rw [(World.cells?_some h1).2.1]; exact hsz)] at h2
            have := World.cell?_spot h2
            simpa [Addr.add] using this
          obtain ⟨b, off, spot⟩ := a
          simp only at hs
          subst hs
          have build : ∀ k i, i + k = len → ∃ rows : List (List DV), rows.length = k ∧ (∀ r ∈ rows, r.length = P.cellsOf e ∧ okT P n e r) ∧ DenRs (Hof w) b (off + i * P.cellsOf e) (P.cellsOf e) rows := by
            intro k
            induction k with
            | zero => intro i _; exact ⟨[], rfl, by simp, trivial⟩
            | succ k ihk =>
              intro i hi
              obtain ⟨cs, y, h1, h2⟩ := each i (by omega)
              obtain ⟨_, hcl, hcell⟩ := World.cells?_some h1
              obtain ⟨r, hr1, hr2⟩ := ih e cs y hmem h2
              obtain ⟨rows, q1, q2, q3⟩ := ihk (i + 1) (by omega)
              refine ⟨r :: rows, by simp [q1], fun r' hr' => ?_, ⟨cs, hr1, hcl, fun j v hj => ?_⟩, ?_⟩
              · rcases List.mem_cons.1 hr' with rfl | hr'
                · exact ⟨by rw [← hr1.length, hcl], hr2⟩
                · exact q2 r' hr'
              · have := hcell j (by rw [← hcl]; exact (List.getElem?_eq_some_iff.1 hj).1)
                rw [hj, addr_add, addr_add] at this
                exact this
              · rw [show off + i * P.cellsOf e + P.cellsOf e = off + (i + 1) * P.cellsOf e from by rw [Nat.add_mul]; omega]
                exact q3
          obtain ⟨rows, q1, q2, q3⟩ := build len 0 (by omega)
          rw [Nat.zero_mul, Nat.add_zero] at q3
          refine ⟨[.lst (P.cellsOf e) rows], ⟨⟨some ⟨b, off, none⟩, cap, by rw [q1], by rw [q1]; exact hl, fun e => (by cases e), fun p hp => ?_⟩, trivial⟩, by exact ⟨rows, rfl, by rw [q1]; omega, q2⟩⟩
          simp only [Option.some.injEq] at hp
          subst hp
          exact ⟨.inr rfl, q3⟩
    · rename_i fs hu
      rw [Bool.and_eq_true] at hc
      obtain ⟨xs, n', hn', _, hcl, hxl, hxs⟩ := DataW.trod_struct hu h
      simp only [Nat.add_right_cancel_iff] at hn'
      subst hn'
      have hfl : ∀ f ∈ fs.toList, f.type ∈ ts ∧ ∃ y, DataW.trod enc P w base spare held n f.type ((cs.drop f.offset).take (P.cellsOf f.type)) = some y := by
        intro f hf
        refine ⟨by simpa using List.all_eq_true.1 hc.2 f hf, ?_⟩
        obtain ⟨i, hi⟩ := List.getElem?_of_mem hf
        have hi' : fs[i]? = some f := by simpa using hi
        have hlt : i < xs.length := by rw [hxl]; exact (Array.getElem?_eq_some_iff.1 hi').1
        exact ⟨xs[i], by rw [hxs i f hi', List.getElem?_eq_getElem hlt]⟩
      obtain ⟨ds, hd, hk⟩ := see_fields ih hcl fs.toList 0 hc.1 hfl
      rw [List.drop_zero] at hd
      refine ⟨ds, hd, ?_⟩
      exact ⟨by rw [← hd.length, hcl], fun i f hf => by simpa using hk [] rfl f (Array.mem_toList_iff.2 (Array.mem_of_getElem? hf))⟩
    · cases hc

theorem see_arg {ts : List TypeId} (hp : plainT P ts = true) {t : TypeId} (ht : t ∈ ts) {v : Value} {d : DataW H} {p : List MemPlace} (h : DataW.Trod enc P w base spare held t v d p) :
    ∃ ds, DenDs (Hof w) ds v.cells.toList ∧ ∃ n, okT P n t ds := by
  obtain ⟨fuel, hf⟩ := h
  obtain ⟨ds, h1, h2⟩ := trod_see hp fuel t _ _ ht hf
  exact ⟨ds, h1, fuel, h2⟩

end

/-- All the arguments read as they did, where no old block was written. -/
theorem below_trodAll {H : Type} {enc : TypeId × Value → H} {P : Program} (hl : laidOutB P = true) {W W' : World} (hb : Below W.heap.size W W') :
    ∀ {ts : List TypeId} {vs : List Value} {ds : List (DataW H)} {ps : List MemPlace}, (ts.all fun t => P.readableRec t && Nat.blt t P.types.size) = true → DataW.TrodAll enc P W 0 (fun _ => true) true ts vs ds ps → (∀ x ∈ ps, x.block < W.heap.size) →
      DataW.TrodAll enc P W' 0 (fun b => decide (b < W.heap.size)) true ts vs ds ps
  | [], [], [], _, _, h, _ => h
  | t :: ts, v :: vs, d :: ds, ps, ht, ⟨p, q, h1, h2, e⟩, hlt => by
    simp only [List.all_cons, Bool.and_eq_true] at ht
    exact ⟨p, q, Below.trod hl ht.1.1 (Nat.blt_eq.mp ht.1.2) h1 hb (fun x hx => hlt x (by rw [e]; simp [hx])), below_trodAll hl hb (by simpa using ht.2) h2 (fun x hx => hlt x (by rw [e]; simp [hx])), e⟩
  | [], [], _ :: _, _, _, h, _ => h.elim
  | [], _ :: _, _, _, _, h, _ => h.elim
  | _ :: _, [], _, _, _, h, _ => h.elim
  | _ :: _, _ :: _, [], _, _, h, _ => h.elim

end Go.Eng
/- The proof engine, part 14d: making a list, copying into it, letting it be read. -/
namespace Go.Eng

theorem made_one {z : Array Value} (hz : ∀ v ∈ z.toList, v.oneCell' = true) (m : Nat) : ∀ v ∈ (madeCells z (m * z.size)).toList, v.oneCell' = true := by
  intro v hv
  unfold madeCells at hv
  rw [Array.toList_map, List.mem_map] at hv
  obtain ⟨i, hi, rfl⟩ := hv
  have hi : i < m * z.size := by simpa using hi
  have hs : 0 < z.size := by
    rcases Nat.eq_zero_or_pos z.size with h | h
    · rw [h] at hi; omega
    · exact h
  have hlt : i % z.size < z.size := Nat.mod_lt _ hs
  rw [getElem!_pos z _ hlt]
  exact hz _ (Array.mem_toList_iff.2 (Array.getElem_mem hlt))

/-- A list is made, as long as it may get. -/
theorem at_make {E : Stc} {T : Nat → TI} {all rest : List Oper} {o : Oper} {s : List Fr} {env : List (Nat × SV)} {own : List (Nat × SO)} {nx : List Nat} {t : Nat} {x y : Operand} {kx ky : IntKind} {n : Int} (k sz : Nat) (hT : ∀ t, T t = tiOf E.P t) (ho : o.op = .makeSlice t x y) (hx : ev env x = .int kx n) (hy : ev env y = .int ky n)
    (h0 : 0 ≤ n) (hb : ((T (T t).elem).bytes : Int) * n ≤ 281474976710656) (h63 : n ≤ 9223372036854775807) (kk : Sat E (.ops all rest) s (put o.dst (.arr k n.toNat) env) ((k, .cells (T t).elem (List.replicate (n.toNat * sz) .any)) :: own) nx)
    (hkT : lstT T t sz = true := by rfl) (hones : SV.ones (constsS (T (T t).elem).zero) = true := by rfl) (hm : Nat.ble E.cx.m0 k = true := by rfl) (hE : freshE k env = true := by rfl) (hO : freshO k own = true := by rfl)
    (hg : guardK all o.guard env true false false = true := by rfl) (hd : dstLt o.dst E.n = true := by rfl) : Sat E (.ops all (o :: rest)) s env own nx := by
  intro a w hat
  have hwant : Region.wanted o (yielded all.toArray a.tmps) = true := by
    rcases guardK_wanted (E := E) (all := all) (o := o) (env := env) (own := own) (yes := true) (no := false) (stuck := false) with ⟨_, hw⟩ | ⟨h, _⟩ | h
    · exact hw a w hat
    · rw [hg] at h; cases h
    · rw [hg] at h; cases h
  unfold wpList
  rw [if_pos hwant]
  refine .inl ?_
  obtain ⟨hdf, g, H, hdn⟩ := hat
  obtain ⟨hk, hz, hk2, hz2, hz0⟩ := lstT_spec hT hkT
  rw [hT (T t).elem, hT t] at hb hones
  obtain ⟨i1, h1⟩ := slice_ti hk
  obtain ⟨i2, d2, h2⟩ := ti_spec hk2
  obtain ⟨z, hz3, hz4⟩ := zero_spec h2 hz2
  have hzs : z.cells.size = sz := by rw [← hz0, hz4, Array.length_toList]
  have hsz : sz = i2.size := by rw [← hz, h2.size]
  rw [h2.bytes] at hb
  have e1 : a.eval x = .int kx n := by have := hdn.ev x; rw [hx] at this; exact this
  have e2 : a.eval y = .int ky n := by have := hdn.ev y; rw [hy] at this; exact this
  have hr := run_make (P := E.P) w t _ i2 z h1.und h2.info hz3 kx ky n n h0 (Int.le_refl _) hb h63
  have hone : ∀ v ∈ (madeCells z.cells (n.toNat * sz)).toList, v.oneCell' = true := by
    rw [← hzs]
    refine made_one (fun v hv => ?_) _
    rw [← hz4] at hv
    exact (constsS_den g H _).oneCells hones v hv
  have hlen : (madeCells z.cells (n.toNat * sz)).toList.length = n.toNat * sz := by rw [Array.length_toList, size_madeCells]
  have hany : Dens g H (List.replicate (n.toNat * sz) .any) (madeCells z.cells (n.toNat * sz)).toList := by
    have := Dens.anys (g := g) (H := H) (madeCells z.cells (n.toNat * sz)).toList
    rw [hlen] at this
    exact this
  have hd2 := hdn.new' (t := (T t).elem) (Nat.le_of_ble_eq_true hm) (noKs_anys k _) hE hO hany hone
  unfold Oper.wp
  have hrun : (execOp a.eval o).run E.P w = .ok (.value (.slice (some ⟨w.heap.size, 0, none⟩) n.toNat n.toNat)) (w.alloc (.cells (madeCells z.cells (n.toNat * sz)) (T t).elem)) := by
    rw [hT t, hsz]
    simp [execOp, ho, e1, e2, hr]
  rw [hrun]
  rw [Array.toArray_toList] at hd2
  exact kk _ _ (At.put hdf hd2 ⟨w.heap.size, upd_same _ _ _, rfl⟩ fun d e => by rw [e] at hd; exact Nat.blt_eq.mp hd)

theorem Dens.append_inv {g : Nat → Value} {H : Hp} : ∀ {a b : List SV} {vs : List Value}, Dens g H (a ++ b) vs → ∃ v1 v2, vs = v1 ++ v2 ∧ Dens g H a v1 ∧ Dens g H b v2
  | [], b, vs, h => ⟨[], vs, rfl, trivial, h⟩
  | x :: a, b, [], h => h.elim
  | x :: a, b, v :: vs, h => by
    obtain ⟨v1, v2, e, h1, h2⟩ := Dens.append_inv (a := a) h.2
    exact ⟨v :: v1, v2, by rw [e]; rfl, ⟨h.1, h1⟩, h2⟩

theorem DenF.toFlat {g : Nat → Value} {H : Hp} {sz : Nat} : ∀ {rows : List (List DV)} {vs : List Value}, DenF H sz rows vs → Dens g H (flatU rows) vs
  | [], vs, h => by rw [show vs = [] from h]; trivial
  | r :: rs, vs, h => by
    obtain ⟨v1, v2, e, h1, _, h2⟩ := h
    subst e
    have h3 := DenF.toFlat (g := g) h2
    unfold flatU at h3 ⊢
    rw [List.flatten_cons, List.map_append]
    exact (ups_den h1).append h3

theorem DenF.of_flatU {g : Nat → Value} {H : Hp} {sz : Nat} : ∀ {rows : List (List DV)} {vs : List Value}, (∀ r ∈ rows, r.length = sz) → Dens g H (flatU rows) vs → DenF H sz rows vs
  | [], [], _, _ => rfl
  | [], _ :: _, _, h => h.elim
  | r :: rs, vs, hl, h => by
    unfold flatU at h
    rw [List.flatten_cons, List.map_append] at h
    obtain ⟨v1, v2, e, h1, h2⟩ := Dens.append_inv h
    have h3 := dn_ups h1
    exact ⟨v1, v2, e, h3, by rw [h3.length]; exact hl r (by simp), DenF.of_flatU (fun r hr => hl r (by simp [hr])) h2⟩

/-- A list is copied into one that was made as long. -/
theorem at_copy {E : Stc} {T : Nat → TI} {all rest : List Oper} {o : Oper} {s : List Fr} {env : List (Nat × SV)} {own : List (Nat × SO)} {nx : List Nat} {t ty k n sz : Nat} {x y : Operand} {rows : List (List DV)} {cs : List SV} {c : Call} (hT : ∀ t, T t = tiOf E.P t) (ho : o.op = .call c) (hcl : c.callee = .builtin .copy) (ha : c.args = #[x, y]) (hat : c.argTypes = #[t, t])
    (hx : ev env x = .arr k n) (hy : lstv (ev env y) = some (sz, rows)) (hk0 : ownq own k = some (.cells ty cs)) (hn : rows.length = n) (hcs : cs.length = n * sz)
    (kk : Sat E (.ops all rest) s (put o.dst (.int .i64 n) env) (setOwn k (.cells ty (flatU rows)) own) nx)
    (hkT : lstT T t sz = true := by rfl) (hg : guardK all o.guard env true false false = true := by rfl) (hd : dstLt o.dst E.n = true := by rfl) : Sat E (.ops all (o :: rest)) s env own nx := by
  subst hn
  intro a w hat'
  have hwant : Region.wanted o (yielded all.toArray a.tmps) = true := by
    rcases guardK_wanted (E := E) (all := all) (o := o) (env := env) (own := own) (yes := true) (no := false) (stuck := false) with ⟨_, hw⟩ | ⟨h, _⟩ | h
    · exact hw a w hat'
    · rw [hg] at h; cases h
    · rw [hg] at h; cases h
  unfold wpList
  rw [if_pos hwant]
  refine .inl ?_
  obtain ⟨hdf, g, H, hdn⟩ := hat'
  obtain ⟨hk, hz, hk2, hz2, hz0⟩ := lstT_spec hT hkT
  obtain ⟨i1, h1⟩ := slice_ti hk
  obtain ⟨i2, d2, h2⟩ := ti_spec hk2
  have hsz : sz = i2.size := by rw [← hz, h2.size]
  obtain ⟨b, cur, hgk, hv, hw, _⟩ := hdn.cells hk0
  have ex := hdn.ev x
  rw [hx] at ex
  obtain ⟨b', hg', e1⟩ := ex
  have : b' = b := by rw [hgk] at hg'; simpa using hg'.symm
  subst this
  obtain ⟨bd, c2, e2, hc2, hn2, hp2⟩ := lstv_den hy (hdn.ev y)
  have hcur : cur.length = rows.length * sz := by rw [hv.length, hcs]
  have key : ∃ nv, DenF H sz rows nv ∧ (Builtin.firstCells i2.size rows.length (a.eval y)).run E.P w = .ok nv.toArray w := by
    rw [e2]
    cases hbd : bd with
    | none =>
      have := (hn2 hbd).1
      subst this
      exact ⟨[], rfl, by simp [Builtin.firstCells]⟩
    | some q =>
      obtain ⟨hq1, hq2⟩ := hp2 q hbd
      obtain ⟨nv, hf2, hc3⟩ := hq2.flat
      refine ⟨nv, hf2, run_firstCells_some (P := E.P) w i2.size rows.length q rows.length c2 nv (by rw [hf2.length, hsz]) fun j v hj => ?_⟩
      have hq1 : q.spot = none := hq1.resolve_left fun e => by subst e; rw [show nv = [] from hf2] at hj; simp at hj
      obtain ⟨b, off, spot⟩ := q
      simp only at hq1
      subst hq1
      rw [addr_add]
      exact hdn.hp _ _ _ (hc3 j v hj)
  obtain ⟨nv, hf, hfc⟩ := key
  have hnl := hf.length
  have hst := run_storeCells_at E.P b' 0 ty nv 0 cur.toArray w hw (by simp [hnl, hcur]) hf.one
  have hsp : (cur.toArray.toList.take (0 + 0) ++ nv ++ cur.toArray.toList.drop (0 + 0 + nv.length)).toArray = nv.toArray := by
    have : cur.drop nv.length = [] := List.drop_eq_nil_of_le (by omega)
    simp [this]
  rw [hsp] at hst
  have hd3 := hdn.write (new := flatU rows) hk0 hgk (DenF.toFlat (g := g) hf) hf.one
  have hrun : (execOp a.eval o).run E.P w = .ok (.value (.int .i64 rows.length)) (w.setRow b' nv.toArray) := by
    have : (Builtin.copy_ #[t, t] o.type #[a.eval x, a.eval y]).run E.P w = .ok (.int .i64 rows.length) (w.setRow b' nv.toArray) := by
      rw [e2] at hfc
      rw [e1, e2]
      simp [Builtin.copy_, run_underlying h1.und, Builtin.lenOf, sizeOf, typeInfo, h2.info, hfc, hst, goInt]
    simp only [execOp, ho, resolve, hcl, ha, hat]
    simp [invoke, builtin, this]
  unfold Oper.wp
  rw [hrun]
  exact kk _ _ (At.put hdf hd3 rfl fun d e => by rw [e] at hd; exact Nat.blt_eq.mp hd)

theorem SVles.refl : ∀ l : List SV, SVles l l
  | [] => trivial
  | a :: l => ⟨SVle.refl a, SVles.refl l⟩

theorem SVle.agg {l r : List SV} (h : SVles l r) : SVle (.agg l) (.agg r) := by
  rintro g H x ⟨cs, e, hd⟩
  exact ⟨cs, e, h.dens g H cs hd⟩

theorem SVle.nil (sz : Nat) : SVle (.tl 0 []) (.tl sz []) := by
  rintro g H x ⟨⟨ad, c, e, h1, h2, h3⟩, h4⟩
  exact ⟨⟨ad, c, e, h1, h2, fun p hp => ⟨.inl rfl, trivial⟩⟩, h4⟩

def pubE (k sz : Nat) (rows : List (List DV)) : List (Nat × SV) → List (Nat × SV)
  | [] => []
  | (t, s) :: l => (t, match s with
    | .arr j n => bif Nat.beq j k then .tl sz rows else .arr j n
    | s => s) :: pubE k sz rows l

def arrOk (k n : Nat) : List (Nat × SV) → Prop
  | [] => True
  | (_, s) :: l => (match s with
    | .arr j m => (bif Nat.beq j k then m = n else True) ∧ arrOk k n l
    | _ => arrOk k n l)

theorem arrOk_spec {k n : Nat} : ∀ {env : List (Nat × SV)}, arrOk k n env → ∀ t m, nth env t = .arr k m → m = n
  | [], _, t, m, h => by simp [nth] at h
  | (i, s) :: l, ho, t, m, h => by
    simp only [nth] at h
    cases hb : Nat.beq i t with
    | true =>
      simp only [hb, cond_true] at h
      subst h
      simp only [arrOk, Nat.beq_refl, cond_true] at ho
      exact ho.1
    | false =>
      simp only [hb, cond_false] at h
      refine arrOk_spec ?_ t m h
      unfold arrOk at ho
      split at ho
      · exact ho.2
      · exact ho

/-- Less is asked of what is handed in. -/
theorem Gives.weak {P : Program} {f : FuncId} {args args' : List SV} {a : SV} (h : Gives P f args a) (hl : SVles args' args) : Gives P f args' a :=
  ⟨h.1, fun g H w vs h1 h2 h3 h4 => h.2 g H w vs h1 h2 h3 (hl.dens g H vs h4)⟩

theorem GivesP.le {P : Program} {f : FuncId} {args : List SV} {Post : SV → Prop} {b : SV} (h : GivesP P f args Post) (hl : ∀ s, Post s → SVle s b) (h0 : b.lt 0 = true := by rfl) : Gives P f args b := by
  refine ⟨h.1, fun g H w vs h1 h2 h3 h4 => (h.2 g H w vs h1 h2 h3 h4).mono fun e w' he => ?_⟩
  cases e with
  | returned v =>
    obtain ⟨g', H', sv, own, ⟨hp, _, rfl⟩, hv, hr⟩ := he
    exact ⟨g', H', b, [], ⟨rfl, h0, rfl⟩, hl _ hp _ _ _ hv, hr⟩
  | _ => exact he

theorem GivesP.weak {P : Program} {f : FuncId} {args args' : List SV} {Post : SV → Prop} (h : GivesP P f args Post) (hl : SVles args' args) : GivesP P f args' Post :=
  ⟨h.1, fun g H w vs h1 h2 h3 h4 => h.2 g H w vs h1 h2 h3 (hl.dens g H vs h4)⟩

/-- What was made is let be read, and written no more. -/
theorem at_publish {E : Stc} {m : Md} {s : List Fr} {env : List (Nat × SV)} {own own2 : List (Nat × SO)} {nx : List Nat} {ty : Nat} (k sz : Nat) (rows : List (List DV)) (hk : ownq own k = some (.cells ty (flatU rows))) (hr : ∀ r ∈ rows, r.length = sz) (hl : lessO k own own2)
    (hn : arrOk k rows.length env) (kk : Sat E m s (pubE k sz rows env) own2 nx) : Sat E m s env own nx := by
  refine sat_mono (fun a w h => ?_) kk
  obtain ⟨hdf, g, H, hd⟩ := h
  obtain ⟨b, vs, hg, hv, hone, hw, hH, hm⟩ := hd.ok k _ hk
  have hf := DenF.of_flatU hr hv
  have hd2 := hd.fill vs hl (fun j o hj hne e => hne (hd.inj j k (by rw [hj]; rfl) (by rw [hk]; rfl) b e (by rw [hg]; rfl))) hm hw (fun j _ => hH j) (q := 0) (by simp)
  have e : (splice vs 0 vs.toArray.toList).toArray = vs.toArray := by simp [splice]
  rw [e, setRow_self w b vs.toArray ty (0, 0) hw] at hd2
  have hle := Hp.add_le (H := H) (b := b) (q := 0) (fun j _ => hH j) vs
  refine ⟨hdf, g, _, { hd2 with den := fun t => ?_ }⟩
  have hnth : ∀ (env : List (Nat × SV)) t, nth (pubE k sz rows env) t = match nth env t with | .arr j n => bif Nat.beq j k then .tl sz rows else .arr j n | s => s := by
    intro env t
    induction env with
    | nil => rfl
    | cons p l ih =>
      obtain ⟨i, x⟩ := p
      simp only [pubE, nth]
      cases Nat.beq i t with
      | true => rfl
      | false => exact ih
  have h0 := hd2.den t
  rw [hnth]
  split
  · rename_i j n hj
    rw [hj] at h0
    cases hb : Nat.beq j k with
    | false => exact h0
    | true =>
      have := beq_true hb
      subst this
      obtain ⟨b', hg', ex⟩ := h0
      have : b' = b := by rw [hg] at hg'; simpa using hg'.symm
      subst this
      have hn' := arrOk_spec hn t n hj
      subst hn'
      refine ⟨⟨some ⟨b', 0, none⟩, _, ex, Nat.le_refl _, fun e => (by cases e), fun p hp => ?_⟩, _, ex⟩
      simp only [Option.some.injEq] at hp
      subst hp
      refine ⟨.inr rfl, (hf.mono hle).rs fun j v hj => ?_⟩
      have := Hp.add_at H b' 0 vs hj
      simpa using this
  · exact h0

/-- A call that may write one of the own blocks (a method by pointer). -/
theorem at_met {E : Stc} {all rest : List Oper} {o : Oper} {s : List Fr} {env : List (Nat × SV)} {own : List (Nat × SO)} {nx : List Nat} {f : Nat} {X : Type} {Φ : X → Prop} {sv : X → SV} {so : SO} {so' : X → SO} {args : List SV} {own' : X → List (Nat × SO)} (k0 : Nat)
    (hC : Contract E.P f 1 [(0, so)] args fun s post => ∃ x, Φ x ∧ s = sv x ∧ post = [(0, so' x)]) (hc : callK o.op env (fun f l => some (f, l)) none = some (f, rens (fun _ => k0) args)) (hown : ownq own k0 = some (renO (fun _ => k0) so))
    (hs : ∀ x, setOwnK k0 (so' x) own some = some (own' x)) (k : ∀ x, Φ x → Sat E (.ops all rest) s (put o.dst (sv x) env) (own' x) nx)
    (h1 : ∀ x, (sv x).lt 1 = true := by intro x; first | rfl | (cases x <;> rfl)) (h2 : ∀ x, cellsLt 1 [(0, so' x)] = true := by intro x; rfl) (h3 : ∀ x, ren (fun _ => k0) (sv x) = sv x := by intro x; first | rfl | (cases x <;> rfl)) (h4 : ∀ x, renO (fun _ => k0) (so' x) = so' x := by intro x; rfl)
    (hg : guardK all o.guard env true false false = true := by rfl) (hd : dstLt o.dst E.n = true := by rfl) : Sat E (.ops all (o :: rest)) s env own nx :=
  at_call (fun _ => k0) hC hc rfl ⟨hown, trivial⟩ (fun s' post hP => by
    obtain ⟨x, hx, rfl, rfl⟩ := hP
    have e := hs x
    rw [setOwnK_eq] at e
    simp only [Option.some.injEq] at e
    refine ⟨h1 x, h2 x, rfl, ?_⟩
    rw [h3 x]
    simp only [posts, h4 x]
    rw [e]
    exact k x hx) (fun i j hi hj _ => by
      have key : ∀ i, (ownq [(0, so)] i).isSome = true → i = 0 := by
        intro i hi
        cases i with
        | zero => rfl
        | succ i => exact absurd hi (by show ¬ (false = true); simp)
      rw [key i hi, key j hj]) (fun k hk => by
      obtain rfl : k = 0 := by omega
      rfl) hg hd

/-- The same, where the answer is told. -/
theorem at_metF {E : Stc} {all rest : List Oper} {o : Oper} {s : List Fr} {env : List (Nat × SV)} {own own' : List (Nat × SO)} {nx : List Nat} {f : Nat} {sv : SV} {so so' : SO} {args : List SV} (k0 : Nat)
    (hC : Contract E.P f 1 [(0, so)] args fun s post => s = sv ∧ post = [(0, so')]) (hc : callK o.op env (fun f l => some (f, l)) none = some (f, rens (fun _ => k0) args)) (hown : ownq own k0 = some (renO (fun _ => k0) so))
    (hs : setOwnK k0 so' own some = some own') (k : Sat E (.ops all rest) s (put o.dst sv env) own' nx)
    (h1 : sv.lt 1 = true := by rfl) (h2 : cellsLt 1 [(0, so')] = true := by rfl) (h3 : ren (fun _ => k0) sv = sv := by rfl) (h4 : renO (fun _ => k0) so' = so' := by rfl)
    (hg : guardK all o.guard env true false false = true := by rfl) (hd : dstLt o.dst E.n = true := by rfl) : Sat E (.ops all (o :: rest)) s env own nx :=
  at_met (X := Unit) (Φ := fun _ => True) (sv := fun _ => sv) (so' := fun _ => so') (own' := fun _ => own') k0 ⟨hC.1, fun g H w vs a b c d => (hC.2 g H w vs a b c d).mono fun e w' he => by
    cases e with
    | returned v =>
      obtain ⟨g', H', s', post, ⟨e1, e2⟩, h⟩ := he
      exact ⟨g', H', s', post, ⟨(), trivial, e1, e2⟩, h⟩
    | _ => exact he⟩ hc hown (fun _ => hs) (fun _ _ => k) (fun _ => h1) (fun _ => h2) (fun _ => h3) (fun _ => h4) hg hd

def r2 (k0 k1 : Nat) : Nat → Nat := fun k => bif Nat.beq k 0 then k0 else k1

/-- The same, of two own blocks. -/
theorem at_met2 {E : Stc} {all rest : List Oper} {o : Oper} {s : List Fr} {env : List (Nat × SV)} {own : List (Nat × SO)} {nx : List Nat} {f : Nat} {X : Type} {Φ : X → Prop} {sv : X → SV} {a b : SO} {a' b' : X → SO} {args : List SV} {own' : X → List (Nat × SO)} (k0 k1 : Nat)
    (hC : Contract E.P f 2 [(0, a), (1, b)] args fun s post => ∃ x, Φ x ∧ s = sv x ∧ post = [(0, a' x), (1, b' x)]) (hc : callK o.op env (fun f l => some (f, l)) none = some (f, rens (r2 k0 k1) args)) (h0 : ownq own k0 = some (renO (r2 k0 k1) a)) (h1 : ownq own k1 = some (renO (r2 k0 k1) b))
    (hs : ∀ x, setOwnK k1 (renO (r2 k0 k1) (b' x)) own (fun o1 => setOwnK k0 (renO (r2 k0 k1) (a' x)) o1 some) = some (own' x)) (k : ∀ x, Φ x → Sat E (.ops all rest) s (put o.dst (ren (r2 k0 k1) (sv x)) env) (own' x) nx)
    (hne : Nat.beq k0 k1 = false := by rfl) (h2 : ∀ x, (sv x).lt 2 = true := by intro x; first | rfl | (cases x <;> rfl)) (h3 : ∀ x, cellsLt 2 [(0, a' x), (1, b' x)] = true := by intro x; rfl)
    (hg : guardK all o.guard env true false false = true := by rfl) (hd : dstLt o.dst E.n = true := by rfl) : Sat E (.ops all (o :: rest)) s env own nx :=
  at_call (r2 k0 k1) hC hc rfl ⟨h0, h1, trivial⟩ (fun s' post hP => by
    obtain ⟨x, hx, rfl, rfl⟩ := hP
    have e := hs x
    simp only [setOwnK_eq, Option.some.injEq] at e
    refine ⟨h2 x, h3 x, rfl, ?_⟩
    show Sat E _ _ _ (setOwn k0 (renO (r2 k0 k1) (a' x)) (setOwn k1 (renO (r2 k0 k1) (b' x)) own)) nx
    rw [e]
    exact k x hx) (fun i j hi hj e => by
      have key : ∀ i, (ownq [(0, a), (1, b)] i).isSome = true → i = 0 ∨ i = 1 := by
        intro i hi
        match i, hi with
        | 0, _ => exact .inl rfl
        | 1, _ => exact .inr rfl
        | i + 2, hi => exact absurd hi (by show ¬ (false = true); simp)
      have hk := beq_false hne
      rcases key i hi with rfl | rfl <;> rcases key j hj with rfl | rfl
      · rfl
      · exact absurd e hk
      · exact absurd e.symm hk
      · rfl) (fun k hk => by
      match k, hk with
      | 0, _ => rfl
      | 1, _ => rfl) hg hd

end Go.Eng
/- The proof engine, part 14e: lists that grow, in order. -/
namespace Go.Eng

/-- A list's token is gone: it may be read. -/
def degE (k : Nat) : List (Nat × SV) → List (Nat × SV)
  | [] => []
  | (t, s) :: l => match s with
    | .gl j sz rows => bif Nat.beq j k then (t, .lst sz rows) :: degE k l else (t, s) :: degE k l
    | s => (t, s) :: degE k l

theorem degE_le (k : Nat) : ∀ env : List (Nat × SV), leE env (degE k env)
  | [], _ => SVle.refl _
  | (i, x) :: l, t => by
    have ih := degE_le k l t
    unfold degE
    split
    · rename_i j sz rows
      cases hb : Nat.beq j k with
      | true =>
        simp only [cond_true, nth]
        cases Nat.beq i t with
        | true => exact SVle.gl _ _ _
        | false => exact ih
      | false =>
        simp only [cond_false, nth]
        cases Nat.beq i t with
        | true => exact SVle.refl _
        | false => exact ih
    · simp only [nth]
      cases Nat.beq i t with
      | true => exact SVle.refl _
      | false => exact ih

def lessK {α : Type} (k : Nat) : List (Nat × SO) → (List (Nat × SO) → α) → α
  | [], c => c []
  | (i, x) :: l, c => lessK k l fun r => bif Nat.beq i k then c r else c ((i, x) :: r)

theorem lessK_eq {α : Type} (k : Nat) : ∀ (l : List (Nat × SO)) (c : List (Nat × SO) → α), lessK k l c = c (rm1 k l)
  | [], _ => rfl
  | (i, x) :: l, c => by
    simp only [lessK, rm1, lessK_eq k l]
    cases Nat.beq i k <;> rfl

theorem rm1_less (k : Nat) (l : List (Nat × SO)) : lessO k l (rm1 k l) := fun j o h =>
  ⟨fun e => (by subst e; rw [rm1_none] at h; cases h), rm1_own h⟩

/-- The rear part of a list keeps the room. -/
theorem doesU_slice_l {P : Program} {env : List (Nat × SV)} {own : List (Nat × SO)} {T : Nat → TI} (hT : ∀ t, T t = tiOf P t) {o : Oper} {t sz kk : Nat} {x lo : Operand} {rows : List (List DV)} {k : IntKind} {n : Int} (ho : o.op = .slice t x (some lo) none none) (hx : ev env x = .gl kk sz rows) (hh : ev env lo = .int k n)
    (h0 : 0 ≤ n ∧ n ≤ rows.length) (hkT : lstT T t sz = true) : DoesU P o env own kk sz (rows.drop n.toNat) := by
  have hx' : lstv (ev env x) = some (sz, rows) := by rw [hx]; rfl
  obtain ⟨hk, hz, hk2, _⟩ := lstT_spec hT hkT
  obtain ⟨i1, h1⟩ := slice_ti hk
  obtain ⟨i2, d2, h2⟩ := ti_spec hk2
  have he := prog_elem h1.und
  intro cx g H q own' own2 env' a w hd hd' htok hless
  obtain ⟨ad, c, e1, hc, hn, hp⟩ := lstv_den hx' (hd.ev x)
  have e2 := hd.ev lo
  rw [hh] at e2
  have e2 : a.eval lo = .int k n := e2
  have hu : P.underlying t = some (.slice (P.elem t)) := by rw [he]; exact h1.und
  have key := sliced_den hc hn hp (l := n.toNat) (h := rows.length) (m := c) (by omega) (by omega) (by omega) (Nat.le_refl _)
  have hs := h2.size
  rw [hz] at hs
  have eg := (show DenD H (.lst sz rows) (a.eval x) ∧ a.eval x = g kk by have := hd.ev x; rw [hx] at this; exact this).2
  obtain ⟨ad', n', c', eg', ht1, ht2, ht3⟩ := hd'.ok kk _ htok
  rw [← eg, e1] at eg'
  simp only [Value.slice.injEq] at eg'
  obtain ⟨rfl, rfl, rfl⟩ := eg'
  have hother : ∀ p, ad = some p → rows.length < c → ∀ j o, ownq own' j = some o → j ≠ kk → blkOf (g j) ≠ some p.block := by
    intro p hp hlt j o hj hne e
    refine hne (hd'.inj j kk (by rw [hj]; rfl) (by rw [htok]; rfl) p.block e ?_)
    rw [← eg, e1, hp]
    simp [blkOf, Nat.blt_eq.mpr hlt]
  refine ⟨sliced ad n.toNat rows.length c sz, w, H, ?_, by rw [List.take_of_length_le (by simp)] at key; exact key, hd'.lessO hless, ?_⟩
  · simp [execOp, ho, e1, e2, run_sliceAt_slice w t _ _ _ _ hu, run_slice_l w t ad rows.length c hu k n h0.1 h0.2, he, run_sizeOf' h2.info, ← hs]
  · refine ⟨if c = n.toNat then ad else ad.map (·.add (n.toNat * sz)), rows.length - n.toNat, c - n.toNat, rfl, fun e => ?_, by omega, fun p hpa hlt => ?_⟩
    · have hnone : ad = none := by
        split at e
        · exact e
        · simpa using e
      obtain ⟨e3, e4⟩ := hn hnone
      subst e3
      exact ⟨by simp, by omega⟩
    · rw [if_neg (by omega)] at hpa
      cases had : ad with
      | none => rw [had] at hpa; simp at hpa
      | some r =>
        obtain ⟨t1, t2, cs, ty, t3, t4, t5⟩ := ht3 r had (by omega)
        rw [had] at hpa
        simp only [Option.map_some, Option.some.injEq] at hpa
        have hoth := hother r had (by omega)
        obtain ⟨b, off, spot⟩ := r
        simp only at t1 t2 t3 t4 t5 hoth
        subst t1
        rw [addr_add] at hpa
        subst hpa
        have hmul : n.toNat * sz ≤ c * sz := Nat.mul_le_mul_right _ (by omega)
        have hmul2 : n.toNat * sz ≤ rows.length * sz := Nat.mul_le_mul_right _ (by omega)
        refine ⟨rfl, ⟨t2, fun j o hj => hoth j o (hless j o hj).2 (hless j o hj).1⟩, cs, ty, t3, ?_, fun j hj => t5 j ?_⟩
        · simp only [Nat.sub_mul]
          omega
        · simp only [Nat.sub_mul] at hj
          omega

/-- A list is made that is empty, with room. -/
theorem doesT_make0 {P : Program} {env : List (Nat × SV)} {own : List (Nat × SO)} {T : Nat → TI} (hT : ∀ t, T t = tiOf P t) {o : Oper} {t sz : Nat} {x y : Operand} {kx ky : IntKind} {n : Int} (ho : o.op = .makeSlice t x y) (hx : ev env x = .int kx 0) (hy : ev env y = .int ky n)
    (h0 : 0 ≤ n) (hb : ((T (T t).elem).bytes : Int) * n ≤ 281474976710656) (h63 : n ≤ 9223372036854775807) (hkT : lstT T t sz = true) : DoesT P o env own sz [] := by
  obtain ⟨hk, hz, hk2, hz2, hz0⟩ := lstT_spec hT hkT
  rw [hT (T t).elem, hT t] at hb
  intro cx g H nn own' env' a w hd hd'
  obtain ⟨i1, h1⟩ := slice_ti hk
  obtain ⟨i2, d2, h2⟩ := ti_spec hk2
  obtain ⟨z, hz3, hz4⟩ := zero_spec h2 hz2
  have hzs : z.cells.size = sz := by rw [← hz0, hz4, Array.length_toList]
  have hsz : sz = i2.size := by rw [← hz, h2.size]
  rw [h2.bytes] at hb
  have e1 : a.eval x = .int kx 0 := by have := hd.ev x; rw [hx] at this; exact this
  have e2 : a.eval y = .int ky n := by have := hd.ev y; rw [hy] at this; exact this
  have hr := run_make (P := P) w t _ i2 z h1.und h2.info hz3 kx ky 0 n (Int.le_refl _) h0 hb h63
  have hg := hd'.grown (w' := w.alloc (.cells (madeCells z.cells (n.toNat * i2.size)) (tiOf P t).elem)) rfl rfl rfl (by simp) (fun b hb => heap_alloc_lt w _ hb)
  refine ⟨.slice (some ⟨w.heap.size, 0, none⟩) (0 : Int).toNat n.toNat, _, H, ?_, ⟨some ⟨w.heap.size, 0, none⟩, n.toNat, rfl, Nat.zero_le _, fun e => (by cases e), fun p _ => ⟨.inl rfl, trivial⟩⟩, hg, ?_⟩
  · simp [execOp, ho, e1, e2, hr]
  · refine ⟨some ⟨w.heap.size, 0, none⟩, 0, n.toNat, rfl, fun e => (by cases e), Nat.zero_le _, fun p hp _ => ?_⟩
    simp only [Option.some.injEq] at hp
    subst hp
    refine ⟨rfl, Nat.le_refl _, _, _, heap_alloc_new w _, ?_, fun j _ => Hp.on_new hd'.hp j⟩
    rw [size_madeCells, hsz]
    simp

/-- Where a part of a made list stands. -/
theorem does_indexArr {P : Program} {env : List (Nat × SV)} {own : List (Nat × SO)} {T : Nat → TI} (hT : ∀ t, T t = tiOf P t) {o : Oper} {t sz k m : Nat} {x i : Operand} {kk : IntKind} {n : Int} (ho : o.op = .indexAddr t x i) (hx : ev env x = .arr k m) (hi : ev env i = .int kk n)
    (h0 : 0 ≤ n ∧ n < m) (hkT : lstT T t sz = true) : DoesV P o env own (.ptr k (n.toNat * sz)) := by
  obtain ⟨hk, hz, hk2, _⟩ := lstT_spec hT hkT
  obtain ⟨i1, h1⟩ := slice_ti hk
  obtain ⟨i2, d2, h2⟩ := ti_spec hk2
  refine does_val fun cx g H q a w hd => ?_
  have e1 := hd.ev x
  rw [hx] at e1
  obtain ⟨b, hg, e1⟩ := e1
  have e2 := hd.ev i
  rw [hi] at e2
  have e2 : a.eval i = .int kk n := e2
  refine ⟨.pointer (some ⟨b, n.toNat * sz, none⟩), ?_, b, hg, rfl⟩
  simp [execOp, ho, e1, e2, Instr.indexAt, asIntOf, run_underlying h1.und, h0, run_sizeOf' h2.info, ← h2.size, hz, addr_add]

section
variable {E : Stc} {all rest : List Oper} {o : Oper} {s : List Fr} {env : List (Nat × SV)} {own own2 : List (Nat × SO)} {nx : List Nat} {m : Md}

theorem wanted_of (hg : guardK all o.guard env true false false = true) : ∀ a w, At E env own a w → Region.wanted o (yielded all.toArray a.tmps) = true := by
  rcases guardK_wanted (E := E) (all := all) (o := o) (env := env) (own := own) (yes := true) (no := false) (stuck := false) with ⟨_, hw⟩ | ⟨h, _⟩ | h
  · exact hw
  · rw [hg] at h; cases h
  · rw [hg] at h; cases h

/-- A list that has room of its own grows: its name may stay. -/
theorem at_grow (k k' sz : Nat) (rows : List (List DV)) (hk : ownq own k = some (.tok sz)) (h : DoesU E.P o env own k sz rows) (ho : lessK k own some = some own2) (kk : Sat E (.ops all rest) s (put o.dst (.gl k' sz rows) (degE k env)) ((k', .tok sz) :: own2) nx)
    (hm : Nat.ble E.cx.m0 k' = true := by rfl) (hE : freshE k' (degE k env) = true := by rfl) (hO : freshO k' own2 = true := by rfl)
    (hg : guardK all o.guard env true false false = true := by rfl) (hd : dstLt o.dst E.n = true := by rfl) : Sat E (.ops all (o :: rest)) s env own nx := by
  intro a w hat
  have hwant := wanted_of (E := E) (own := own) hg a w hat
  rw [lessK_eq] at ho
  simp only [Option.some.injEq] at ho
  subst ho
  unfold wpList
  rw [if_pos hwant]
  refine .inl ?_
  obtain ⟨hdf, g, H, hdn⟩ := hat
  obtain ⟨x, w', H', hr, hx, hd', hsp⟩ := h E.cx g H E.n own (rm1 k own) env a w hdn hdn hk (rm1_less k own)
  have hd2 := hd'.le (degE_le k env) (fun _ _ h => h)
  obtain ⟨hd3, hp⟩ := hd2.tok (Nat.le_of_ble_eq_true hm) hE hO hx hsp
  unfold Oper.wp
  rw [hr]
  exact kk _ _ (At.put hdf hd3 hp fun d e => by rw [e] at hd; exact Nat.blt_eq.mp hd)

/-- A list's room is given up. -/
theorem at_deg (k : Nat) (kk : Sat E m s (degE k env) own nx) : Sat E m s env own nx :=
  sat_mono (fun _ _ hat => at_le hat (degE_le k env) fun _ _ h => h) kk

/-- One of the own blocks is written; what its cells then are is told. -/
theorem at_store {T : Nat → TI} (hT : ∀ t, T t = tiOf E.P t) {t k off ty : Nat} {x y : Operand} {cs new : List SV} (cs' : List SV) {own' : List (Nat × SO)} (ho : o.op = .store t x y) (hdst : o.dst = none) (hx : ev env x = .ptr k off) (hk : ownq own k = some (.cells ty cs)) (hy : cellsOf (ev env y) = some new)
    (hl : new.length = (T t).size) (hf : off + new.length ≤ cs.length) (hc : splice new off cs = cs') (hs : setOwnK k (.cells ty cs') own some = some own') (kk : Sat E (.ops all rest) s env own' nx) (hkd : (T t).kd ≠ .other := by intro h; cases h)
    (hg : guardK all o.guard env true false false = true := by rfl) : Sat E (.ops all (o :: rest)) s env own nx := by
  intro a w hat
  have hwant := wanted_of (E := E) (own := own) hg a w hat
  rw [setOwnK_eq] at hs
  simp only [Option.some.injEq] at hs
  subst hs
  unfold wpList
  rw [if_pos hwant]
  refine .inl ?_
  have hD := does_store (P := E.P) (m0 := E.cx.m0) (env := env) (own := own) ho hx hk hy (by rw [← hT t]; exact hkd) (by rw [← hT t]; exact hl) hf
  rw [hc] at hD
  exact sat_op hD (fun d e => by rw [hdst] at e; cases e) (by rw [hdst]; exact kk) hat

/-- A new block; that its name is new is shown. -/
theorem at_alloc {T : Nat → TI} (hT : ∀ t, T t = tiOf E.P t) {t : Nat} (k : Nat) (cs : List SV) (ho : o.op = .alloc t) (hcs : constsS (T t).zero = cs) (hO : freshO k own = true) (kk : Sat E (.ops all rest) s (put o.dst (.ptr k 0) env) ((k, .cells t cs) :: own) nx)
    (hkd : (T t).kd ≠ .other := by intro h; cases h) (hz : (T t).zok = true := by rfl) (h1 : SV.ones cs = true := by rfl) (hn : SV.noKs k cs = true := by rfl) (hm : Nat.ble E.cx.m0 k = true := by rfl) (hE : freshE k env = true := by rfl)
    (hg : guardK all o.guard env true false false = true := by rfl) (hd : dstLt o.dst E.n = true := by rfl) : Sat E (.ops all (o :: rest)) s env own nx := by
  intro a w hat
  have hwant := wanted_of (E := E) (own := own) hg a w hat
  unfold wpList
  rw [if_pos hwant]
  refine .inl ?_
  subst hcs
  rw [hT t] at hkd hz h1 hn
  obtain ⟨hdf, g, H, hdn⟩ := hat
  obtain ⟨vs, hv, hr⟩ := doesN_alloc (P := E.P) (env := env) (own := own) ho hkd hz E.cx g H E.n a w hdn
  obtain ⟨hd2, hp⟩ := hdn.new (t := t) (Nat.le_of_ble_eq_true hm) hn hE hO hv h1
  unfold Oper.wp
  rw [hr]
  rw [hT t] at kk
  exact kk _ _ (At.put hdf hd2 hp fun d e => by rw [e] at hd; exact Nat.blt_eq.mp hd)

/-- A list is made, that has room of its own. -/
theorem at_new (k' sz : Nat) (rows : List (List DV)) (h : DoesT E.P o env own sz rows) (kk : Sat E (.ops all rest) s (put o.dst (.gl k' sz rows) env) ((k', .tok sz) :: own) nx)
    (hm : Nat.ble E.cx.m0 k' = true := by rfl) (hE : freshE k' env = true := by rfl) (hO : freshO k' own = true := by rfl)
    (hg : guardK all o.guard env true false false = true := by rfl) (hd : dstLt o.dst E.n = true := by rfl) : Sat E (.ops all (o :: rest)) s env own nx := by
  intro a w hat
  have hwant := wanted_of (E := E) (own := own) hg a w hat
  unfold wpList
  rw [if_pos hwant]
  refine .inl ?_
  obtain ⟨hdf, g, H, hdn⟩ := hat
  obtain ⟨x, w', H', hr, hx, hd', hsp⟩ := h E.cx g H E.n own env a w hdn hdn
  obtain ⟨hd3, hp⟩ := hd'.tok (Nat.le_of_ble_eq_true hm) hE hO hx (hsp.mono fun b hb => hdn.new_ok hb)
  unfold Oper.wp
  rw [hr]
  exact kk _ _ (At.put hdf hd3 hp fun d e => by rw [e] at hd; exact Nat.blt_eq.mp hd)

/-- A list that has no room may grow all the same: it gets a name. -/
theorem at_name (t k sz : Nat) {sz0 : Nat} {rows : List (List DV)} (ht : nth env t = .tl sz0 rows) (hs : sz0 = sz ∨ rows = []) (kk : Sat E m s ((t, .gl k sz rows) :: env) ((k, .tok sz) :: own) nx)
    (hm : Nat.ble E.cx.m0 k = true := by rfl) (hE : freshE k env = true := by rfl) (hO : freshO k own = true := by rfl) : Sat E m s env own nx := by
  refine sat_mono (fun a w hat => ?_) kk
  obtain ⟨hdf, g, H, hdn⟩ := hat
  have h0 := hdn.den t
  rw [ht] at h0
  obtain ⟨⟨ad, c, e, h1, h2, h3⟩, ad', e'⟩ := h0
  have hx : DenD H (.lst sz rows) (a.tmps.getD t undef) := by
    refine ⟨ad, c, e, h1, h2, fun p hp => ?_⟩
    rcases hs with rfl | rfl
    · exact h3 p hp
    · exact ⟨.inl rfl, trivial⟩
  have hc : c = rows.length := by
    rw [e] at e'
    simp only [Value.slice.injEq, true_and] at e'
    exact e'.2
  obtain ⟨hd3, hp⟩ := hdn.tok (k := k) (sz := sz) (rows := rows) (Nat.le_of_ble_eq_true hm) hE hO hx ⟨ad, rows.length, c, e, fun h => ⟨by rw [(h2 h).1]; rfl, (h2 h).2⟩, h1, fun p hp hlt => absurd hlt (by omega)⟩
  refine ⟨hdf, _, H, { hd3 with den := fun i => ?_ }⟩
  simp only [nth]
  cases hb : Nat.beq t i with
  | true =>
    have := beq_true hb
    subst this
    exact hp
  | false => exact hd3.den i

end
end Go.Eng
/- The proof engine, part 14f: values behind interfaces. -/
namespace Go.Eng

section
variable {P : Program} {T : Nat → TI} {env : List (Nat × SV)} {own : List (Nat × SO)}

mutual
/-- The value, of plain ones. -/
def valS : SV → Option Value
  | .int k n => some (.int k n)
  | .bl b => some (.bool b)
  | .tt => some (.bool true)
  | .ff => some (.bool false)
  | .str s => some (.string s)
  | .agg l => match valsS l with
    | some vs => some (.agg vs.toArray)
    | none => none
  | _ => none
def valsS : List SV → Option (List Value)
  | [] => some []
  | s :: l => match valS s, valsS l with
    | some v, some vs => some (v :: vs)
    | _, _ => none
end

mutual
theorem valS_den {g : Nat → Value} {H : Hp} : ∀ {s : SV} {v x : Value}, valS s = some v → Den g H s x → x = v
  | .int _ _, v, x, h, hd => by simp only [valS, Option.some.injEq] at h; subst h; exact hd
  | .bl _, v, x, h, hd => by simp only [valS, Option.some.injEq] at h; subst h; exact hd
  | .tt, v, x, h, hd => by simp only [valS, Option.some.injEq] at h; subst h; exact hd
  | .ff, v, x, h, hd => by simp only [valS, Option.some.injEq] at h; subst h; exact hd
  | .str _, v, x, h, hd => by simp only [valS, Option.some.injEq] at h; subst h; exact hd
  | .agg l, v, x, h, hd => by
    simp only [valS] at h
    cases hl : valsS l with
    | none => rw [hl] at h; cases h
    | some vs =>
      rw [hl] at h
      simp only [Option.some.injEq] at h
      subst h
      obtain ⟨cs, e, hc⟩ := hd
      rw [e, valsS_den hl hc]
  | .val _, _, _, h, _ => by simp [valS] at h
  | .lst _ _, _, _, h, _ => by simp [valS] at h
  | .gl _ _ _, _, _, h, _ => by simp [valS] at h
  | .tl _ _, _, _, h, _ => by simp [valS] at h
  | .arr _ _, _, _, h, _ => by simp [valS] at h
  | .sl _ _ _ _, _, _, h, _ => by simp [valS] at h
  | .mp _, _, _, h, _ => by simp [valS] at h
  | .ptr _ _, _, _, h, _ => by simp [valS] at h
  | .rp _ _, _, _, h, _ => by simp [valS] at h
  | .tup _, _, _, h, _ => by simp [valS] at h
  | .clo _ _, _, _, h, _ => by simp [valS] at h
  | .any, _, _, h, _ => by simp [valS] at h
theorem valsS_den {g : Nat → Value} {H : Hp} : ∀ {l : List SV} {vs xs : List Value}, valsS l = some vs → Dens g H l xs → xs = vs
  | [], vs, [], h, _ => by simp only [valsS, Option.some.injEq] at h; exact h
  | [], _, _ :: _, _, hd => hd.elim
  | s :: l, vs, [], _, hd => hd.elim
  | s :: l, vs, x :: xs, h, hd => by
    simp only [valsS] at h
    cases hs : valS s with
    | none => simp [hs] at h
    | some v =>
      cases hl : valsS l with
      | none => simp [hs, hl] at h
      | some ws =>
        simp only [hs, hl, Option.some.injEq] at h
        subst h
        rw [valS_den hs hd.1, valsS_den hl hd.2]
end

def KI.plain : KI → Bool
  | .iface => false
  | .other => false
  | _ => true

theorem plain_und {t : Nat} (h : (tiOf P t).kd.plain = true) : ∃ i d, TiSpec P t i d ∧ ∀ ms, d ≠ .interface ms := by
  obtain ⟨i, d, hs⟩ := ti_spec (P := P) (t := t) (by intro e; rw [e] at h; cases h)
  refine ⟨i, d, hs, fun ms e => ?_⟩
  subst e
  rw [hs.kd] at h
  cases h

theorem does_iface (hT : ∀ t, T t = tiOf P t) {o : Oper} {t : Nat} {x : Operand} (v : Value) (ho : o.op = .makeInterface t x) (hx : valS (ev env x) = some v) (hk : (T t).kd.plain = true) : DoesV P o env own (.val (.iface t v)) := by
  rw [hT t] at hk
  obtain ⟨i, d, hs, hd'⟩ := plain_und hk
  refine does_val fun cx g H n a w hd => ⟨.iface t v, ?_, rfl, rfl⟩
  have e := valS_den hx (hd.ev x)
  simp only [execOp, ho, Instr.makeInterface, e]
  cases d <;> first | exact absurd rfl (hd' _) | simp [run_underlying hs.und]

theorem does_assert_yes (hT : ∀ t, T t = tiOf P t) {o : Oper} {t u : Nat} {x : Operand} {v : Value} (s : SV) (ho : o.op = .typeAssert x t u true) (hx : ev env x = .val (.iface u v)) (hk : (T u).kd.plain = true) (hs : ∀ g H, Den g H s v) :
    DoesV P o env own (.tup [s, .tt]) := by
  rw [hT u] at hk
  obtain ⟨i, d, hsp, hd'⟩ := plain_und hk
  refine does_val fun cx g H n a w hd => ⟨.tuple #[v, .bool true], ?_, [v, .bool true], rfl, hs g H, rfl, trivial⟩
  have e : a.eval x = .iface u v := by have := hd.ev x; rw [hx] at this; exact this.1
  simp only [execOp, ho, Instr.typeAssert, e]
  cases d <;> first | exact absurd rfl (hd' _) | simp [run_underlying hsp.und]

theorem does_assert_no (hT : ∀ t, T t = tiOf P t) {o : Oper} {t u k : Nat} {x : Operand} {v z : Value} (s : SV) (hz : (P.info? u).bind (·.zero) = some z) (ho : o.op = .typeAssert x t u true) (hx : ev env x = .val (.iface k v)) (hk : (T u).kd.plain = true) (hne : Nat.beq k u = false) (hs : ∀ g H, Den g H s z) :
    DoesV P o env own (.tup [s, .ff]) := by
  rw [hT u] at hk
  obtain ⟨i, d, hsp, hd'⟩ := plain_und hk
  obtain ⟨i2, hi2, hz2⟩ := Option.bind_eq_some_iff.1 hz
  refine does_val fun cx g H n a w hd => ⟨.tuple #[z, .bool false], ?_, [z, .bool false], rfl, hs g H, rfl, trivial⟩
  have e : a.eval x = .iface k v := by have := hd.ev x; rw [hx] at this; exact this.1
  have hne' : k ≠ u := beq_false hne
  simp only [execOp, ho, Instr.typeAssert, e]
  cases d <;> first | exact absurd rfl (hd' _) | simp [run_underlying hsp.und, hne', run_zero' hi2 hz2]

theorem does_assert_nil (hT : ∀ t, T t = tiOf P t) {o : Oper} {t u : Nat} {x : Operand} {z : Value} (s : SV) (hz : (P.info? u).bind (·.zero) = some z) (ho : o.op = .typeAssert x t u true) (hx : ev env x = .val .nilIface) (hk : (T u).kd.plain = true) (hs : ∀ g H, Den g H s z) :
    DoesV P o env own (.tup [s, .ff]) := by
  rw [hT u] at hk
  obtain ⟨i, d, hsp, hd'⟩ := plain_und hk
  obtain ⟨i2, hi2, hz2⟩ := Option.bind_eq_some_iff.1 hz
  refine does_val fun cx g H n a w hd => ⟨.tuple #[z, .bool false], ?_, [z, .bool false], rfl, hs g H, rfl, trivial⟩
  have e : a.eval x = .nilIface := by have := hd.ev x; rw [hx] at this; exact this.1
  simp only [execOp, ho, Instr.typeAssert, e]
  cases d <;> first | exact absurd rfl (hd' _) | simp [run_underlying hsp.und, run_zero' hi2 hz2]

theorem iface_und {t : Nat} (h : (tiOf P t).kd = .iface) : P.underlying t = some (.interface (P.methodsAt t)) := by
  obtain ⟨i, d, hs⟩ := ti_spec (P := P) (t := t) (by rw [h]; intro e; cases e)
  have e := hs.kd
  rw [h] at e
  have hu := hs.und
  cases d <;> simp [kdOf] at e
  rename_i ms
  unfold Program.methodsAt
  rw [hu]

/-- Whether there is none behind an interface. -/
theorem does_isNil (hT : ∀ t, T t = tiOf P t) {o : Oper} {t ty : Nat} {x : Operand} (ho : o.op = .binOp .eql t x (.const .nilIface) ty) (hx : ev env x = .val .nilIface) (hk : (T t).kd = .iface) : DoesV P o env own .tt := by
  rw [hT t] at hk
  refine does_val fun cx g H n a w hd => ⟨.bool true, ?_, rfl⟩
  have e : a.eval x = .nilIface := by have := hd.ev x; rw [hx] at this; exact this.1
  have e2 : a.eval (.const .nilIface) = .nilIface := rfl
  have hg : (eqGuard .eql t x (.const .nilIface) .nilIface .nilIface).run P w = .ok () w := by simp [eqGuard]
  simp [execOp, ho, e, e2, hg, run_eql_nil_nil w t (iface_und hk)]
theorem does_isNil_no (hT : ∀ t, T t = tiOf P t) {o : Oper} {t ty u : Nat} {x : Operand} {v : Value} (ho : o.op = .binOp .eql t x (.const .nilIface) ty) (hx : ev env x = .val (.iface u v)) (hk : (T t).kd = .iface) : DoesV P o env own .ff := by
  rw [hT t] at hk
  refine does_val fun cx g H n a w hd => ⟨.bool false, ?_, rfl⟩
  have e : a.eval x = .iface u v := by have := hd.ev x; rw [hx] at this; exact this.1
  have e2 : a.eval (.const .nilIface) = .nilIface := rfl
  have hg : (eqGuard .eql t x (.const .nilIface) (.iface u v) .nilIface).run P w = .ok () w := by simp [eqGuard]
  simp [execOp, ho, e, e2, hg, run_eql_held_nil w t u v (iface_und hk)]
theorem does_notNil (hT : ∀ t, T t = tiOf P t) {o : Oper} {t ty u : Nat} {x : Operand} {v : Value} (ho : o.op = .binOp .neq t x (.const .nilIface) ty) (hx : ev env x = .val (.iface u v)) (hk : (T t).kd = .iface) : DoesV P o env own .tt := by
  rw [hT t] at hk
  refine does_val fun cx g H n a w hd => ⟨.bool true, ?_, rfl⟩
  have e : a.eval x = .iface u v := by have := hd.ev x; rw [hx] at this; exact this.1
  have e2 : a.eval (.const .nilIface) = .nilIface := rfl
  have hg : (eqGuard .neq t x (.const .nilIface) (.iface u v) .nilIface).run P w = .ok () w := by simp [eqGuard]
  simp [execOp, ho, e, e2, hg, run_neq_held_nil w t u v (iface_und hk)]
theorem does_notNil_no (hT : ∀ t, T t = tiOf P t) {o : Oper} {t ty : Nat} {x : Operand} (ho : o.op = .binOp .neq t x (.const .nilIface) ty) (hx : ev env x = .val .nilIface) (hk : (T t).kd = .iface) : DoesV P o env own .ff := by
  rw [hT t] at hk
  refine does_val fun cx g H n a w hd => ⟨.bool false, ?_, rfl⟩
  have e : a.eval x = .nilIface := by have := hd.ev x; rw [hx] at this; exact this.1
  have e2 : a.eval (.const .nilIface) = .nilIface := rfl
  have hg : (eqGuard .neq t x (.const .nilIface) .nilIface .nilIface).run P w = .ok () w := by simp [eqGuard]
  simp [execOp, ho, e, e2, hg, run_neq_nil_nil w t (iface_und hk)]

/-- The method of a type, as a function. -/
def methB (P : Program) (u : TypeId) (name : String) (f : FuncId) : Bool :=
  match P.info? u with
  | some i => match i.methods.find? (·.name == name) with
    | some m => m.path.isEmpty && (match m.func with | some (g, false) => Nat.beq g f | _ => false)
    | none => false
  | none => false

theorem run_meth {u f : Nat} {name : String} (h : methB P u name f = true) (hk : (tiOf P u).kd.plain = true) (hnp : (tiOf P u).kd ≠ .ptr) (n : Nat) (v : Value) (w : World) : (method (n + 1) u v name).run P w = .ok (f, v) w := by
  unfold methB at h
  split at h
  · rename_i i hi
    split at h
    · rename_i m hm
      rw [Bool.and_eq_true] at h
      obtain ⟨h1, h2⟩ := h
      split at h2
      · rename_i g hg
        have := beq_true h2
        subst this
        have hp : m.path = #[] := by simpa using h1
        obtain ⟨i2, d, hs, hd'⟩ := plain_und hk
        have hrec : ∀ wr, (receiverAt u (.val v) false wr).run P w = .ok v w := by
          intro wr
          unfold receiverAt
          have hkd := hs.kd
          cases d <;> first | (exact absurd hkd (by simpa [kdOf] using hnp)) | simp [run_underlying hs.und, Place.get]
        simp [method, run_typeInfo' hi, hm, hp, follow, hg, hrec]
      · cases h2
    · cases h
  · cases h

end

/-- A method that only reckons, by the type behind the interface. -/
theorem at_invoke {E : Stc} {all rest : List Oper} {o : Oper} {s : List Fr} {env : List (Nat × SV)} {own : List (Nat × SO)} {nx : List Nat} {c : Call} {x : Operand} {u f : Nat} {name : String} {v : Value} {sv res : SV} {args : List SV} {asx : List Operand}
    (hmeth : methB E.P u name f = true) (hk : (tiOf E.P u).kd.plain = true) (hnp : (tiOf E.P u).kd ≠ .ptr)
    (hC : Gives E.P f (sv :: args) res) (ho : o.op = .call c) (hcl : c.callee = .invoke x name) (has : c.args.toList = asx) (hx : ev env x = .val (.iface u v)) (hsv : ∀ g H, Den g H sv v) (hargs : evs env asx = args) (k : Sat E (.ops all rest) s (put o.dst res env) own nx)
    (hg : guardK all o.guard env true false false = true := by rfl) (hd : dstLt o.dst E.n = true := by rfl) : Sat E (.ops all (o :: rest)) s env own nx := by
  intro a w hat
  have hwant := wanted_of (E := E) (own := own) hg a w hat
  unfold wpList
  rw [if_pos hwant]
  refine .inl ?_
  obtain ⟨hdf, g, H, hdn⟩ := hat
  have ex : a.eval x = .iface u v := by have := hdn.ev x; rw [hx] at this; exact this.1
  have hev : ∀ l : List Operand, Dens g H (evs env l) (l.map a.eval) := by
    intro l
    induction l with
    | nil => trivial
    | cons x l ih => exact ⟨hdn.ev x, ih⟩
  have hvs : Dens g H (sv :: args) (v :: asx.map a.eval) := ⟨hsv g H, by rw [← hargs]; exact hev asx⟩
  have hrun : (execOp a.eval o).run E.P w = .ok (.enter f (v :: asx.map a.eval).toArray) w := by
    have e1 : c.args = asx.toArray := by rw [← has]
    obtain ⟨n, hn⟩ : ∃ n, E.P.types.size + Made.depth = n + 1 := ⟨E.P.types.size + Made.depth - 1, by unfold Made.depth; omega⟩
    have hm := run_meth (P := E.P) hmeth hk hnp n v w
    simp only [execOp, ho, resolve, hcl, ex, e1]
    simp [invoke, callMethod, hn, hm]
    have ht : (asx.map a.eval).take asx.length = asx.map a.eval := List.take_of_length_le (by simp)
    rw [ht]
    exact hC.1 _ _
  have hcall := hC.2 g H w _ hdn.hp (fun k o hk => by simp [ownq] at hk) (fun i j hi => by simp [ownq] at hi) hvs
  unfold Oper.wp
  rw [hrun]
  refine hcall.mono fun e w' he => ?_
  cases e with
  | panicked c => exact he.elim
  | outgrown => exact he.elim
  | returned r =>
    obtain ⟨sv', post, ⟨h1, h2, h3⟩, hb⟩ := hdn.called (r := fun k => k) (pre := []) (m := 0) trivial (fun k hk => absurd hk (Nat.not_lt_zero k)) he
    subst h1; subst h3
    obtain ⟨H', hv2, hd2⟩ := hb h2 rfl rfl
    rw [ren_id] at hv2
    exact k _ _ (At.put hdf hd2 hv2 fun d e => by rw [e] at hd; exact Nat.blt_eq.mp hd)

end Go.Eng
/- The types of the program as the executor reads them, and that they agree with the program (laid by ty.py). -/
namespace Go.Proofs.Ytmnmhehddbemkaa
open Go Go.Eng
set_option maxRecDepth 100000
def tyc0 : List TI := [
  ⟨.other, 0, false, [], [], 0, 0, false⟩,
  ⟨.fn, 1, true, [.nilFunc], [], 0, 8, false⟩,
  ⟨.int .i64, 1, true, [.int .i64 0], [], 0, 8, false⟩,
  ⟨.int .i64, 1, true, [.int .i64 0], [], 0, 8, false⟩,
  ⟨.bool, 1, true, [.bool false], [], 0, 1, false⟩,
  ⟨.int .u8, 1, true, [.int .u8 0], [], 0, 1, false⟩,
  ⟨.int .u8, 1, true, [.int .u8 0], [], 0, 1, false⟩,
  ⟨.struct, 4, true, [.int .i64 0, .int .i64 0, .bool false, .int .u8 0], [⟨0, 1, false, 2, true, true⟩, ⟨1, 1, false, 3, true, true⟩, ⟨2, 1, false, 4, true, true⟩, ⟨3, 1, false, 6, true, true⟩], 0, 24, true⟩,
  ⟨.struct, 4, true, [.int .i64 0, .int .i64 0, .bool false, .int .u8 0], [⟨0, 1, false, 2, true, true⟩, ⟨1, 1, false, 3, true, true⟩, ⟨2, 1, false, 4, true, true⟩, ⟨3, 1, false, 6, true, true⟩], 0, 24, true⟩,
  ⟨.str, 1, true, [.string ByteArray.empty], [], 0, 16, false⟩,
  ⟨.str, 1, true, [.string ByteArray.empty], [], 0, 16, false⟩,
  ⟨.str, 1, true, [.string ByteArray.empty], [], 0, 16, false⟩,
  ⟨.int .u64, 1, true, [.int .u64 0], [], 0, 8, false⟩,
  ⟨.struct, 2, true, [.string ByteArray.empty, .int .u64 0], [⟨0, 1, false, 9, true, true⟩, ⟨1, 1, false, 12, true, true⟩], 0, 24, false⟩,
  ⟨.struct, 2, true, [.string ByteArray.empty, .int .u64 0], [⟨0, 1, false, 9, true, true⟩, ⟨1, 1, false, 12, true, true⟩], 0, 24, false⟩,
  ⟨.ptr, 1, true, [.pointer none], [], 164, 8, false⟩
  ]
def tyc1 : List TI := [
  ⟨.ptr, 1, true, [.pointer none], [], 167, 8, false⟩,
  ⟨.ptr, 1, true, [.pointer none], [], 176, 8, false⟩,
  ⟨.struct, 1, true, [.pointer none], [⟨0, 1, false, 17, true, true⟩], 0, 8, false⟩,
  ⟨.struct, 1, true, [.pointer none], [⟨0, 1, false, 17, true, true⟩], 0, 8, false⟩,
  ⟨.iface, 1, true, [.nilIface], [], 0, 16, false⟩,
  ⟨.int .i32, 1, true, [.int .i32 0], [], 0, 4, false⟩,
  ⟨.slice, 1, true, [.slice none 0 0], [], 3, 24, false⟩,
  ⟨.fn, 1, true, [.nilFunc], [], 0, 8, false⟩,
  ⟨.slice, 1, true, [.slice none 0 0], [], 33, 24, false⟩,
  ⟨.fn, 1, true, [.nilFunc], [], 0, 8, false⟩,
  ⟨.slice, 1, true, [.slice none 0 0], [], 37, 24, false⟩,
  ⟨.fn, 1, true, [.nilFunc], [], 0, 8, false⟩,
  ⟨.int .i64, 1, true, [.int .i64 0], [], 0, 8, false⟩,
  ⟨.other, 0, false, [], [], 0, 0, false⟩,
  ⟨.fn, 1, true, [.nilFunc], [], 0, 8, false⟩,
  ⟨.fn, 1, true, [.nilFunc], [], 0, 8, false⟩
  ]
def tyc2 : List TI := [
  ⟨.struct, 4, true, [.int .i64 0, .int .i64 0, .string ByteArray.empty, .slice none 0 0], [⟨0, 1, false, 3, true, true⟩, ⟨1, 1, false, 3, true, true⟩, ⟨2, 1, false, 9, true, true⟩, ⟨3, 1, false, 24, true, true⟩], 0, 56, true⟩,
  ⟨.struct, 4, true, [.int .i64 0, .int .i64 0, .string ByteArray.empty, .slice none 0 0], [⟨0, 1, false, 3, true, true⟩, ⟨1, 1, false, 3, true, true⟩, ⟨2, 1, false, 9, true, true⟩, ⟨3, 1, false, 24, true, true⟩], 0, 56, true⟩,
  ⟨.fn, 1, true, [.nilFunc], [], 0, 8, false⟩,
  ⟨.fn, 1, true, [.nilFunc], [], 0, 8, false⟩,
  ⟨.struct, 4, true, [.int .i64 0, .int .i64 0, .int .i64 0, .string ByteArray.empty], [⟨0, 1, false, 3, true, true⟩, ⟨1, 1, false, 3, true, true⟩, ⟨2, 1, false, 3, true, true⟩, ⟨3, 1, false, 9, true, true⟩], 0, 40, true⟩,
  ⟨.struct, 4, true, [.int .i64 0, .int .i64 0, .int .i64 0, .string ByteArray.empty], [⟨0, 1, false, 3, true, true⟩, ⟨1, 1, false, 3, true, true⟩, ⟨2, 1, false, 3, true, true⟩, ⟨3, 1, false, 9, true, true⟩], 0, 40, true⟩,
  ⟨.fn, 1, true, [.nilFunc], [], 0, 8, false⟩,
  ⟨.slice, 1, true, [.slice none 0 0], [], 26, 24, false⟩,
  ⟨.fn, 1, true, [.nilFunc], [], 0, 8, false⟩,
  ⟨.fn, 1, true, [.nilFunc], [], 0, 8, false⟩,
  ⟨.fn, 1, true, [.nilFunc], [], 0, 8, false⟩,
  ⟨.fn, 1, true, [.nilFunc], [], 0, 8, false⟩,
  ⟨.other, 0, false, [], [], 0, 0, false⟩,
  ⟨.fn, 1, true, [.nilFunc], [], 0, 8, false⟩,
  ⟨.fn, 1, true, [.nilFunc], [], 0, 8, false⟩,
  ⟨.fn, 1, true, [.nilFunc], [], 0, 8, false⟩
  ]
def tyc3 : List TI := [
  ⟨.fn, 1, true, [.nilFunc], [], 0, 8, false⟩,
  ⟨.fn, 1, true, [.nilFunc], [], 0, 8, false⟩,
  ⟨.fn, 1, true, [.nilFunc], [], 0, 8, false⟩,
  ⟨.fn, 1, true, [.nilFunc], [], 0, 8, false⟩,
  ⟨.fn, 1, true, [.nilFunc], [], 0, 8, false⟩,
  ⟨.fn, 1, true, [.nilFunc], [], 0, 8, false⟩,
  ⟨.fn, 1, true, [.nilFunc], [], 0, 8, false⟩,
  ⟨.fn, 1, true, [.nilFunc], [], 0, 8, false⟩,
  ⟨.fn, 1, true, [.nilFunc], [], 0, 8, false⟩,
  ⟨.fn, 1, true, [.nilFunc], [], 0, 8, false⟩,
  ⟨.fn, 1, true, [.nilFunc], [], 0, 8, false⟩,
  ⟨.slice, 1, true, [.slice none 0 0], [], 5, 24, false⟩,
  ⟨.ptr, 1, true, [.pointer none], [], 62, 8, false⟩,
  ⟨.struct, 2, true, [.slice none 0 0, .int .i64 0], [⟨0, 1, false, 22, true, true⟩, ⟨1, 1, false, 3, true, true⟩], 0, 32, true⟩,
  ⟨.struct, 2, true, [.slice none 0 0, .int .i64 0], [⟨0, 1, false, 22, true, true⟩, ⟨1, 1, false, 3, true, true⟩], 0, 32, true⟩,
  ⟨.fn, 1, true, [.nilFunc], [], 0, 8, false⟩
  ]
def tyc4 : List TI := [
  ⟨.fn, 1, true, [.nilFunc], [], 0, 8, false⟩,
  ⟨.slice, 1, true, [.slice none 0 0], [], 9, 24, false⟩,
  ⟨.iface, 1, true, [.nilIface], [], 0, 16, false⟩,
  ⟨.iface, 1, true, [.nilIface], [], 0, 16, false⟩,
  ⟨.other, 0, false, [], [], 0, 0, false⟩,
  ⟨.fn, 1, true, [.nilFunc], [], 0, 8, false⟩,
  ⟨.other, 0, false, [], [], 0, 0, false⟩,
  ⟨.ptr, 1, true, [.pointer none], [], 73, 8, false⟩,
  ⟨.struct, 2, true, [.slice none 0 0, .slice none 0 0], [⟨0, 1, false, 24, true, true⟩, ⟨1, 1, false, 24, true, true⟩], 0, 48, true⟩,
  ⟨.struct, 2, true, [.slice none 0 0, .slice none 0 0], [⟨0, 1, false, 24, true, true⟩, ⟨1, 1, false, 24, true, true⟩], 0, 48, true⟩,
  ⟨.other, 0, false, [], [], 0, 0, false⟩,
  ⟨.fn, 1, true, [.nilFunc], [], 0, 8, false⟩,
  ⟨.ptr, 1, true, [.pointer none], [], 80, 8, false⟩,
  ⟨.map, 1, true, [.map none], [], 83, 8, false⟩,
  ⟨.map, 1, true, [.map none], [], 3, 8, false⟩,
  ⟨.struct, 3, true, [.map none, .map none, .slice none 0 0], [⟨0, 1, false, 77, true, true⟩, ⟨1, 1, false, 78, true, true⟩, ⟨2, 1, false, 26, true, true⟩], 0, 40, true⟩
  ]
def tyc5 : List TI := [
  ⟨.struct, 3, true, [.map none, .map none, .slice none 0 0], [⟨0, 1, false, 77, true, true⟩, ⟨1, 1, false, 78, true, true⟩, ⟨2, 1, false, 26, true, true⟩], 0, 40, true⟩,
  ⟨.fn, 1, true, [.nilFunc], [], 0, 8, false⟩,
  ⟨.struct, 8, true, [.int .i64 0, .int .i64 0, .int .i64 0, .string ByteArray.empty, .int .i64 0, .int .i64 0, .string ByteArray.empty, .slice none 0 0], [⟨0, 4, true, 37, true, true⟩, ⟨4, 4, true, 33, true, true⟩], 0, 96, true⟩,
  ⟨.struct, 8, true, [.int .i64 0, .int .i64 0, .int .i64 0, .string ByteArray.empty, .int .i64 0, .int .i64 0, .string ByteArray.empty, .slice none 0 0], [⟨0, 4, true, 37, true, true⟩, ⟨4, 4, true, 33, true, true⟩], 0, 96, true⟩,
  ⟨.map, 1, true, [.map none], [], 33, 8, false⟩,
  ⟨.map, 1, true, [.map none], [], 33, 8, false⟩,
  ⟨.fn, 1, true, [.nilFunc], [], 0, 8, false⟩,
  ⟨.fn, 1, true, [.nilFunc], [], 0, 8, false⟩,
  ⟨.other, 0, false, [], [], 0, 0, false⟩,
  ⟨.fn, 1, true, [.nilFunc], [], 0, 8, false⟩,
  ⟨.fn, 1, true, [.nilFunc], [], 0, 8, false⟩,
  ⟨.fn, 1, true, [.nilFunc], [], 0, 8, false⟩,
  ⟨.fn, 1, true, [.nilFunc], [], 0, 8, false⟩,
  ⟨.fn, 1, true, [.nilFunc], [], 0, 8, false⟩,
  ⟨.fn, 1, true, [.nilFunc], [], 0, 8, false⟩,
  ⟨.fn, 1, true, [.nilFunc], [], 0, 8, false⟩
  ]
def tyc6 : List TI := [
  ⟨.fn, 1, true, [.nilFunc], [], 0, 8, false⟩,
  ⟨.fn, 1, true, [.nilFunc], [], 0, 8, false⟩,
  ⟨.fn, 1, true, [.nilFunc], [], 0, 8, false⟩,
  ⟨.iface, 1, true, [.nilIface], [], 0, 16, false⟩,
  ⟨.iface, 1, true, [.nilIface], [], 0, 16, false⟩,
  ⟨.fn, 1, true, [.nilFunc], [], 0, 8, false⟩,
  ⟨.fn, 1, true, [.nilFunc], [], 0, 8, false⟩,
  ⟨.other, 0, false, [], [], 0, 0, false⟩,
  ⟨.fn, 1, true, [.nilFunc], [], 0, 8, false⟩,
  ⟨.fn, 1, true, [.nilFunc], [], 0, 8, false⟩,
  ⟨.other, 0, false, [], [], 0, 0, false⟩,
  ⟨.struct, 3, true, [.int .i64 0, .int .i64 0, .int .i64 0], [⟨0, 1, false, 3, true, true⟩, ⟨1, 1, false, 3, true, true⟩, ⟨2, 1, false, 3, true, true⟩], 0, 24, true⟩,
  ⟨.struct, 3, true, [.int .i64 0, .int .i64 0, .int .i64 0], [⟨0, 1, false, 3, true, true⟩, ⟨1, 1, false, 3, true, true⟩, ⟨2, 1, false, 3, true, true⟩], 0, 24, true⟩,
  ⟨.other, 0, false, [], [], 0, 0, false⟩,
  ⟨.other, 0, false, [], [], 0, 0, false⟩,
  ⟨.fn, 1, true, [.nilFunc], [], 0, 8, false⟩
  ]
def tyc7 : List TI := [
  ⟨.fn, 1, true, [.nilFunc], [], 0, 8, false⟩,
  ⟨.fn, 1, true, [.nilFunc], [], 0, 8, false⟩,
  ⟨.fn, 1, true, [.nilFunc], [], 0, 8, false⟩,
  ⟨.fn, 1, true, [.nilFunc], [], 0, 8, false⟩,
  ⟨.fn, 1, true, [.nilFunc], [], 0, 8, false⟩,
  ⟨.fn, 1, true, [.nilFunc], [], 0, 8, false⟩,
  ⟨.int .u64, 1, true, [.int .u64 0], [], 0, 8, false⟩,
  ⟨.fn, 1, true, [.nilFunc], [], 0, 8, false⟩,
  ⟨.fn, 1, true, [.nilFunc], [], 0, 8, false⟩,
  ⟨.fn, 1, true, [.nilFunc], [], 0, 8, false⟩,
  ⟨.fn, 1, true, [.nilFunc], [], 0, 8, false⟩,
  ⟨.fn, 1, true, [.nilFunc], [], 0, 8, false⟩,
  ⟨.fn, 1, true, [.nilFunc], [], 0, 8, false⟩,
  ⟨.int .i64, 1, true, [.int .i64 0], [], 0, 8, false⟩,
  ⟨.str, 1, true, [.string ByteArray.empty], [], 0, 16, false⟩,
  ⟨.struct, 2, true, [.int .i64 0, .int .i64 0], [⟨0, 1, false, 3, true, true⟩, ⟨1, 1, false, 3, true, true⟩], 0, 16, true⟩
  ]
def tyc8 : List TI := [
  ⟨.struct, 2, true, [.int .i64 0, .int .i64 0], [⟨0, 1, false, 3, true, true⟩, ⟨1, 1, false, 3, true, true⟩], 0, 16, true⟩,
  ⟨.struct, 3, true, [.int .i64 0, .int .i64 0, .int .i64 0], [⟨0, 1, false, 3, true, true⟩, ⟨1, 1, false, 3, true, true⟩, ⟨2, 1, false, 3, true, true⟩], 0, 24, true⟩,
  ⟨.struct, 3, true, [.int .i64 0, .int .i64 0, .int .i64 0], [⟨0, 1, false, 3, true, true⟩, ⟨1, 1, false, 3, true, true⟩, ⟨2, 1, false, 3, true, true⟩], 0, 24, true⟩,
  ⟨.map, 1, true, [.map none], [], 3, 8, false⟩,
  ⟨.fn, 1, true, [.nilFunc], [], 0, 8, false⟩,
  ⟨.fn, 1, true, [.nilFunc], [], 0, 8, false⟩,
  ⟨.int .i64, 1, true, [.int .i64 0], [], 0, 8, false⟩,
  ⟨.other, 0, false, [], [], 0, 0, false⟩,
  ⟨.fn, 1, true, [.nilFunc], [], 0, 8, false⟩,
  ⟨.fn, 1, true, [.nilFunc], [], 0, 8, false⟩,
  ⟨.fn, 1, true, [.nilFunc], [], 0, 8, false⟩,
  ⟨.fn, 1, true, [.nilFunc], [], 0, 8, false⟩,
  ⟨.fn, 1, true, [.nilFunc], [], 0, 8, false⟩,
  ⟨.int .u32, 1, true, [.int .u32 0], [], 0, 4, false⟩,
  ⟨.fn, 1, true, [.nilFunc], [], 0, 8, false⟩,
  ⟨.int .u64, 1, true, [.int .u64 0], [], 0, 8, false⟩
  ]
def tyc9 : List TI := [
  ⟨.fn, 1, true, [.nilFunc], [], 0, 8, false⟩,
  ⟨.fn, 1, true, [.nilFunc], [], 0, 8, false⟩,
  ⟨.fn, 1, true, [.nilFunc], [], 0, 8, false⟩,
  ⟨.fn, 1, true, [.nilFunc], [], 0, 8, false⟩,
  ⟨.fn, 1, true, [.nilFunc], [], 0, 8, false⟩,
  ⟨.fn, 1, true, [.nilFunc], [], 0, 8, false⟩,
  ⟨.int .u64, 1, true, [.int .u64 0], [], 0, 8, false⟩,
  ⟨.fn, 1, true, [.nilFunc], [], 0, 8, false⟩,
  ⟨.fn, 1, true, [.nilFunc], [], 0, 8, false⟩,
  ⟨.fn, 1, true, [.nilFunc], [], 0, 8, false⟩,
  ⟨.ptr, 1, true, [.pointer none], [], 3, 8, false⟩,
  ⟨.fn, 1, true, [.nilFunc], [], 0, 8, false⟩,
  ⟨.fn, 1, true, [.nilFunc], [], 0, 8, false⟩,
  ⟨.fn, 1, true, [.nilFunc], [], 0, 8, false⟩,
  ⟨.ptr, 1, true, [.pointer none], [], 150, 8, false⟩,
  ⟨.other, 0, false, [], [], 0, 0, false⟩
  ]
def tyc10 : List TI := [
  ⟨.fn, 1, true, [.nilFunc], [], 0, 8, false⟩,
  ⟨.fn, 1, true, [.nilFunc], [], 0, 8, false⟩,
  ⟨.fn, 1, true, [.nilFunc], [], 0, 8, false⟩,
  ⟨.struct, 4, true, [.pointer none, .pointer none, .pointer none, .string ByteArray.empty], [⟨0, 1, false, 17, true, true⟩, ⟨1, 1, false, 17, true, true⟩, ⟨2, 1, false, 17, true, true⟩, ⟨3, 1, false, 9, true, true⟩], 0, 40, false⟩,
  ⟨.struct, 4, true, [.pointer none, .pointer none, .pointer none, .string ByteArray.empty], [⟨0, 1, false, 17, true, true⟩, ⟨1, 1, false, 17, true, true⟩, ⟨2, 1, false, 17, true, true⟩, ⟨3, 1, false, 9, true, true⟩], 0, 40, false⟩,
  ⟨.other, 0, false, [], [], 0, 0, false⟩,
  ⟨.struct, 0, true, [], [⟨0, 0, true, 165, false, true⟩], 0, 0, false⟩,
  ⟨.struct, 0, true, [], [⟨0, 0, true, 165, false, true⟩], 0, 0, false⟩,
  ⟨.fn, 1, true, [.nilFunc], [], 0, 8, false⟩,
  ⟨.int .u8, 1, true, [.int .u8 0], [], 0, 1, false⟩,
  ⟨.int .u8, 1, true, [.int .u8 0], [], 0, 1, false⟩,
  ⟨.fn, 1, true, [.nilFunc], [], 0, 8, false⟩,
  ⟨.ptr, 1, true, [.pointer none], [], 5, 8, false⟩,
  ⟨.int .i32, 1, true, [.int .i32 0], [], 0, 4, false⟩,
  ⟨.int .i32, 1, true, [.int .i32 0], [], 0, 4, false⟩,
  ⟨.struct, 11, true, [.int .u64 0, .int .u64 0, .int .u32 0, .int .u8 0, .int .u8 0, .int .u8 0, .int .u8 0, .nilFunc, .pointer none, .int .i32 0, .int .i32 0], [⟨0, 1, false, 12, true, true⟩, ⟨1, 1, false, 12, true, true⟩, ⟨2, 1, false, 141, true, true⟩, ⟨3, 1, false, 169, true, true⟩, ⟨4, 1, false, 5, true, true⟩, ⟨5, 1, false, 5, true, true⟩, ⟨6, 1, false, 170, true, true⟩, ⟨7, 1, false, 171, true, true⟩, ⟨8, 1, false, 172, true, true⟩, ⟨9, 1, false, 173, true, true⟩, ⟨10, 1, false, 174, true, true⟩], 0, 48, false⟩
  ]
def tyc11 : List TI := [
  ⟨.struct, 11, true, [.int .u64 0, .int .u64 0, .int .u32 0, .int .u8 0, .int .u8 0, .int .u8 0, .int .u8 0, .nilFunc, .pointer none, .int .i32 0, .int .i32 0], [⟨0, 1, false, 12, true, true⟩, ⟨1, 1, false, 12, true, true⟩, ⟨2, 1, false, 141, true, true⟩, ⟨3, 1, false, 169, true, true⟩, ⟨4, 1, false, 5, true, true⟩, ⟨5, 1, false, 5, true, true⟩, ⟨6, 1, false, 170, true, true⟩, ⟨7, 1, false, 171, true, true⟩, ⟨8, 1, false, 172, true, true⟩, ⟨9, 1, false, 173, true, true⟩, ⟨10, 1, false, 174, true, true⟩], 0, 48, false⟩,
  ⟨.other, 0, false, [], [], 0, 0, false⟩
  ]
def tys : List (List TI) := [tyc0, tyc1, tyc2, tyc3, tyc4, tyc5, tyc6, tyc7, tyc8, tyc9, tyc10, tyc11]
def ty (t : Nat) : TI := ((tys.getD (t / 16) []).getD (t % 16) TI.bad)
theorem ty_all : (List.range 178).map ty = (List.range 178).map (tiOf Try.prog) := by kernel_rfl
theorem ty_size : Try.prog.types.size = 178 := by kernel_rfl
theorem ty_ok (t : Nat) : ty t = tiOf Try.prog t := by
  by_cases h : t < 178
  · have := congrArg (fun l => l[t]?) ty_all
    simpa [h] using this
  · have h2 : tiOf Try.prog t = TI.bad := by
      have := ty_size
      have h1 : Nat.blt t Try.prog.types.size = false := by
        rw [ty_size]
        cases hb : Nat.blt t 178 with
        | false => rfl
        | true => exact absurd (Nat.blt_eq.mp hb) h
      unfold tiOf
      rw [h1]
      rfl
    rw [h2]
    unfold ty
    by_cases h3 : t / 16 < 12
    · have h4 : t / 16 = 11 := by omega
      rw [h4]
      have h5 : tys.getD 11 [] = tyc11 := rfl
      have h6 : tyc11.length = 2 := rfl
      rw [h5, List.getD_eq_getElem?_getD, List.getElem?_eq_none (by omega)]
      rfl
    · have h6 : tys.length = 12 := rfl
      rw [List.getD_eq_getElem?_getD (l := tys), List.getElem?_eq_none (by omega)]
      rfl
end Go.Proofs.Ytmnmhehddbemkaa
namespace Go.Proofs.Ytmnmhehddbemkaa
open Go Go.Eng

abbrev I (n : Int) : SV := .int .i64 n

/-- A term. -/
inductive Tm where
  | mk (k n : Int) (s : ByteArray) (kids : List Tm)
abbrev Tm.k : Tm → Int | .mk k _ _ _ => k
abbrev Tm.n : Tm → Int | .mk _ n _ _ => n
abbrev Tm.s : Tm → ByteArray | .mk _ _ s _ => s
abbrev Tm.kids : Tm → List Tm | .mk _ _ _ l => l
mutual
def Tm.row : Tm → List DV
  | .mk k n s l => [.int .i64 k, .int .i64 n, .str s, .lst 4 (rowsT l)]
def rowsT : List Tm → List (List DV)
  | [] => []
  | t :: l => t.row :: rowsT l
end
abbrev Tm.sv (t : Tm) : SV := .agg [I t.k, I t.n, .str t.s, .lst 4 (rowsT t.kids)]
theorem rowsT_map : ∀ l : List Tm, rowsT l = l.map Tm.row
  | [] => by rw [rowsT]; rfl
  | t :: l => by rw [rowsT, rowsT_map l]; rfl
theorem rowsT_len (l : List Tm) : (rowsT l).length = l.length := by rw [rowsT_map, List.length_map]
theorem row_eq (t : Tm) : t.row = [.int .i64 t.k, .int .i64 t.n, .str t.s, .lst 4 (rowsT t.kids)] := by
  cases t
  rw [Tm.row]
theorem row_len (t : Tm) : t.row.length = 4 := by rw [row_eq]; rfl
def Tm.zero : Tm := .mk 0 0 .empty []
theorem rowsT_get {l : List Tm} {n : Nat} (h : n < l.length) : (rowsT l)[n]? = some [.int .i64 (l.getD n .zero).k, .int .i64 (l.getD n .zero).n, .str (l.getD n .zero).s, .lst 4 (rowsT (l.getD n .zero).kids)] := by
  rw [rowsT_map, List.getElem?_map, List.getElem?_eq_getElem h, List.getD_eq_getElem?_getD, List.getElem?_eq_getElem h]
  simp only [Option.map_some, Option.getD_some, row_eq]

def kidsF (k : Int) : Int := if k = 1 then 0 else if k = 2 then 0 else if k = 3 then 1 else if k = 4 then 1 else if k = 5 then 2 else if k = 6 then 2 else if k = 7 then 2 else -1

theorem kids93_fn (k : Int) : Gives Try.prog 93 [I k] (I (kidsF k)) := by
  refine contract_of ty_ok [0, 1, 2, 3, 4, 5, 6, 7] Try.func93 rfl (by decide) Try.ntmps93 rfl fun z => ?_
  refine run 400 rfl ?_
  refine at_split 4 rfl (fun h1 => ?_) (fun h1 => ?_)
  · refine run 400 rfl ?_
    simp at h1
    exact at_ret rfl rfl [] ⟨by rw [kidsF, if_pos h1], rfl, rfl⟩ trivial
  refine run 400 rfl ?_
  refine at_split 4 rfl (fun h2 => ?_) (fun h2 => ?_)
  · refine run 400 rfl ?_
    simp at h1 h2
    exact at_ret rfl rfl [] ⟨by rw [kidsF, if_neg h1, if_pos h2], rfl, rfl⟩ trivial
  refine run 400 rfl ?_
  refine at_split 7 rfl (fun h3 => ?_) (fun h3 => ?_)
  · refine run 400 rfl ?_
    simp at h1 h2 h3
    exact at_ret rfl rfl [] ⟨by rw [kidsF, if_neg h1, if_neg h2, if_pos h3], rfl, rfl⟩ trivial
  refine run 400 rfl ?_
  refine at_split 7 rfl (fun h4 => ?_) (fun h4 => ?_)
  · refine run 400 rfl ?_
    simp at h1 h2 h3 h4
    exact at_ret rfl rfl [] ⟨by rw [kidsF, if_neg h1, if_neg h2, if_neg h3, if_pos h4], rfl, rfl⟩ trivial
  refine run 400 rfl ?_
  refine at_split 10 rfl (fun h5 => ?_) (fun h5 => ?_)
  · refine run 400 rfl ?_
    simp at h1 h2 h3 h4 h5
    exact at_ret rfl rfl [] ⟨by rw [kidsF, if_neg h1, if_neg h2, if_neg h3, if_neg h4, if_pos h5], rfl, rfl⟩ trivial
  refine run 400 rfl ?_
  refine at_split 10 rfl (fun h6 => ?_) (fun h6 => ?_)
  · refine run 400 rfl ?_
    simp at h1 h2 h3 h4 h5 h6
    exact at_ret rfl rfl [] ⟨by rw [kidsF, if_neg h1, if_neg h2, if_neg h3, if_neg h4, if_neg h5, if_pos h6], rfl, rfl⟩ trivial
  refine run 400 rfl ?_
  refine at_split 10 rfl (fun h7 => ?_) (fun h7 => ?_)
  · refine run 400 rfl ?_
    simp at h1 h2 h3 h4 h5 h6 h7
    exact at_ret rfl rfl [] ⟨by rw [kidsF, if_neg h1, if_neg h2, if_neg h3, if_neg h4, if_neg h5, if_neg h6, if_pos h7], rfl, rfl⟩ trivial
  refine run 400 rfl ?_
  simp at h1 h2 h3 h4 h5 h6 h7
  exact at_ret rfl rfl [] ⟨by rw [kidsF, if_neg h1, if_neg h2, if_neg h3, if_neg h4, if_neg h5, if_neg h6, if_neg h7], rfl, rfl⟩ trivial

theorem kids94_fn (k : Int) : Gives Try.prog 94 [I k] (I (kidsF k)) := by
  refine contract_of ty_ok [0, 1, 2, 3, 4, 5, 6, 7] Try.func94 rfl (by decide) Try.ntmps94 rfl fun z => ?_
  refine run 400 rfl ?_
  refine at_split 4 rfl (fun h1 => ?_) (fun h1 => ?_)
  · refine run 400 rfl ?_
    simp at h1
    exact at_ret rfl rfl [] ⟨by rw [kidsF, if_pos h1], rfl, rfl⟩ trivial
  refine run 400 rfl ?_
  refine at_split 4 rfl (fun h2 => ?_) (fun h2 => ?_)
  · refine run 400 rfl ?_
    simp at h1 h2
    exact at_ret rfl rfl [] ⟨by rw [kidsF, if_neg h1, if_pos h2], rfl, rfl⟩ trivial
  refine run 400 rfl ?_
  refine at_split 7 rfl (fun h3 => ?_) (fun h3 => ?_)
  · refine run 400 rfl ?_
    simp at h1 h2 h3
    exact at_ret rfl rfl [] ⟨by rw [kidsF, if_neg h1, if_neg h2, if_pos h3], rfl, rfl⟩ trivial
  refine run 400 rfl ?_
  refine at_split 7 rfl (fun h4 => ?_) (fun h4 => ?_)
  · refine run 400 rfl ?_
    simp at h1 h2 h3 h4
    exact at_ret rfl rfl [] ⟨by rw [kidsF, if_neg h1, if_neg h2, if_neg h3, if_pos h4], rfl, rfl⟩ trivial
  refine run 400 rfl ?_
  refine at_split 10 rfl (fun h5 => ?_) (fun h5 => ?_)
  · refine run 400 rfl ?_
    simp at h1 h2 h3 h4 h5
    exact at_ret rfl rfl [] ⟨by rw [kidsF, if_neg h1, if_neg h2, if_neg h3, if_neg h4, if_pos h5], rfl, rfl⟩ trivial
  refine run 400 rfl ?_
  refine at_split 10 rfl (fun h6 => ?_) (fun h6 => ?_)
  · refine run 400 rfl ?_
    simp at h1 h2 h3 h4 h5 h6
    exact at_ret rfl rfl [] ⟨by rw [kidsF, if_neg h1, if_neg h2, if_neg h3, if_neg h4, if_neg h5, if_pos h6], rfl, rfl⟩ trivial
  refine run 400 rfl ?_
  refine at_split 10 rfl (fun h7 => ?_) (fun h7 => ?_)
  · refine run 400 rfl ?_
    simp at h1 h2 h3 h4 h5 h6 h7
    exact at_ret rfl rfl [] ⟨by rw [kidsF, if_neg h1, if_neg h2, if_neg h3, if_neg h4, if_neg h5, if_neg h6, if_pos h7], rfl, rfl⟩ trivial
  refine run 400 rfl ?_
  simp at h1 h2 h3 h4 h5 h6 h7
  exact at_ret rfl rfl [] ⟨by rw [kidsF, if_neg h1, if_neg h2, if_neg h3, if_neg h4, if_neg h5, if_neg h6, if_neg h7], rfl, rfl⟩ trivial

end Go.Proofs.Ytmnmhehddbemkaa
namespace Go.Proofs.Ytmnmhehddbemkaa
open Go Go.Eng

/-- Whether a node by itself is as it must be. -/
def rightF (t : Tm) : Bool := ((t.kids.length : Int) == kidsF t.k) && (seq t.s .empty || (t.k == 1 && decide ((t.s.size : Int) ≤ 1024))) && (t.n == 0 || (t.k == 2 && decide (0 < t.n) && decide (t.n ≤ 1073741824)))

set_option maxRecDepth 100000 in
theorem right_c1 (t : Tm) (hA : (((rowsT t.kids).length : Int) == kidsF t.k) = false) : Gives Try.prog 68 [t.sv] (.ff) := by
  refine contract_of ty_ok [0, 1, 2, 3, 4, 5, 6, 7] Try.func68 rfl (by decide) Try.ntmps68 rfl fun z => ?_
  refine run 400 rfl ?_
  refine at_drawn 7 rfl rfl [] [20, 21, 22] rfl trivial ?_
  refine run 400 rfl ?_
  refine at_drawn 39 rfl rfl [(5, .sv (I (kidsF t.k))), (7, .no)] [20, 21, 22] rfl ⟨hA, kids93_fn _⟩ ?_
  refine run 400 rfl ?_
  exact at_ret rfl rfl [] ⟨rfl, rfl, rfl⟩ trivial

set_option maxRecDepth 100000 in
theorem right_c2 (t : Tm) (hA : (((rowsT t.kids).length : Int) == kidsF t.k) = true) (hS : seq t.s .empty = false) (hK : (t.k == 1) = false) : Gives Try.prog 68 [t.sv] (.ff) := by
  refine contract_of ty_ok [0, 1, 2, 3, 4, 5, 6, 7] Try.func68 rfl (by decide) Try.ntmps68 rfl fun z => ?_
  refine run 400 rfl ?_
  refine at_drawn 7 rfl rfl [] [20, 21, 22] rfl trivial ?_
  refine run 400 rfl ?_
  refine at_drawn 39 rfl rfl [(5, .sv (I (kidsF t.k))), (7, .yes), (11, .no), (13, .no)] [20, 21, 22] rfl ⟨hK, hS, hA, kids93_fn _⟩ ?_
  refine run 400 rfl ?_
  exact at_ret rfl rfl [] ⟨rfl, rfl, rfl⟩ trivial

set_option maxRecDepth 100000 in
theorem right_c3 (t : Tm) (hA : (((rowsT t.kids).length : Int) == kidsF t.k) = true) (hS : seq t.s .empty = false) (hK : (t.k == 1) = true) (hB : decide ((t.s.size : Int) ≤ 1024) = false) : Gives Try.prog 68 [t.sv] (.ff) := by
  refine contract_of ty_ok [0, 1, 2, 3, 4, 5, 6, 7] Try.func68 rfl (by decide) Try.ntmps68 rfl fun z => ?_
  refine run 400 rfl ?_
  refine at_drawn 7 rfl rfl [] [20, 21, 22] rfl trivial ?_
  refine run 400 rfl ?_
  refine at_drawn 39 rfl rfl [(5, .sv (I (kidsF t.k))), (7, .yes), (11, .no), (13, .yes), (21, .no)] [20, 21, 22] rfl ⟨hB, hK, hS, hA, kids93_fn _⟩ ?_
  refine run 400 rfl ?_
  exact at_ret rfl rfl [] ⟨rfl, rfl, rfl⟩ trivial

set_option maxRecDepth 100000 in
theorem right_d1 (t : Tm) (hA : (((rowsT t.kids).length : Int) == kidsF t.k) = true) (hS : seq t.s .empty = true) (hN0 : (t.n == 0) = true) : Gives Try.prog 68 [t.sv] (.tt) := by
  refine contract_of ty_ok [0, 1, 2, 3, 4, 5, 6, 7] Try.func68 rfl (by decide) Try.ntmps68 rfl fun z => ?_
  refine run 400 rfl ?_
  refine at_drawn 7 rfl rfl [] [20, 21, 22] rfl trivial ?_
  refine run 400 rfl ?_
  refine at_drawn 39 rfl rfl [(5, .sv (I (kidsF t.k))), (7, .yes), (11, .yes), (25, .yes)] [20, 21, 22] rfl ⟨hN0, hS, hA, kids93_fn _⟩ ?_
  refine run 400 rfl ?_
  exact at_ret rfl rfl [] ⟨rfl, rfl, rfl⟩ trivial

set_option maxRecDepth 100000 in
theorem right_d2 (t : Tm) (hA : (((rowsT t.kids).length : Int) == kidsF t.k) = true) (hS : seq t.s .empty = true) (hN0 : (t.n == 0) = false) (hNO : (t.k == 2) = false) : Gives Try.prog 68 [t.sv] (.ff) := by
  refine contract_of ty_ok [0, 1, 2, 3, 4, 5, 6, 7] Try.func68 rfl (by decide) Try.ntmps68 rfl fun z => ?_
  refine run 400 rfl ?_
  refine at_drawn 7 rfl rfl [] [20, 21, 22] rfl trivial ?_
  refine run 400 rfl ?_
  refine at_drawn 39 rfl rfl [(5, .sv (I (kidsF t.k))), (7, .yes), (11, .yes), (25, .no), (27, .no)] [20, 21, 22] rfl ⟨hNO, hN0, hS, hA, kids93_fn _⟩ ?_
  refine run 400 rfl ?_
  exact at_ret rfl rfl [] ⟨rfl, rfl, rfl⟩ trivial

set_option maxRecDepth 100000 in
theorem right_d3 (t : Tm) (hA : (((rowsT t.kids).length : Int) == kidsF t.k) = true) (hS : seq t.s .empty = true) (hN0 : (t.n == 0) = false) (hNO : (t.k == 2) = true) (hPO : decide (0 < t.n) = false) : Gives Try.prog 68 [t.sv] (.ff) := by
  refine contract_of ty_ok [0, 1, 2, 3, 4, 5, 6, 7] Try.func68 rfl (by decide) Try.ntmps68 rfl fun z => ?_
  refine run 400 rfl ?_
  refine at_drawn 7 rfl rfl [] [20, 21, 22] rfl trivial ?_
  refine run 400 rfl ?_
  refine at_drawn 39 rfl rfl [(5, .sv (I (kidsF t.k))), (7, .yes), (11, .yes), (25, .no), (27, .yes), (32, .no)] [20, 21, 22] rfl ⟨hPO, hNO, hN0, hS, hA, kids93_fn _⟩ ?_
  refine run 400 rfl ?_
  exact at_ret rfl rfl [] ⟨rfl, rfl, rfl⟩ trivial

set_option maxRecDepth 100000 in
theorem right_d4 (t : Tm) (hA : (((rowsT t.kids).length : Int) == kidsF t.k) = true) (hS : seq t.s .empty = true) (hN0 : (t.n == 0) = false) (hNO : (t.k == 2) = true) (hPO : decide (0 < t.n) = true) : Gives Try.prog 68 [t.sv] (.bl (decide (t.n ≤ 1073741824))) := by
  refine contract_of ty_ok [0, 1, 2, 3, 4, 5, 6, 7] Try.func68 rfl (by decide) Try.ntmps68 rfl fun z => ?_
  refine run 400 rfl ?_
  refine at_drawn 7 rfl rfl [] [20, 21, 22] rfl trivial ?_
  refine run 400 rfl ?_
  refine at_drawn 39 rfl rfl [(5, .sv (I (kidsF t.k))), (7, .yes), (11, .yes), (25, .no), (27, .yes), (32, .yes)] [20, 21, 22] rfl ⟨hPO, hNO, hN0, hS, hA, kids93_fn _⟩ ?_
  refine run 400 rfl ?_
  exact at_ret rfl rfl [] ⟨rfl, rfl, rfl⟩ trivial

set_option maxRecDepth 100000 in
theorem right_e1 (t : Tm) (hA : (((rowsT t.kids).length : Int) == kidsF t.k) = true) (hS : seq t.s .empty = false) (hK : (t.k == 1) = true) (hB : decide ((t.s.size : Int) ≤ 1024) = true) (hN0 : (t.n == 0) = true) : Gives Try.prog 68 [t.sv] (.tt) := by
  refine contract_of ty_ok [0, 1, 2, 3, 4, 5, 6, 7] Try.func68 rfl (by decide) Try.ntmps68 rfl fun z => ?_
  refine run 400 rfl ?_
  refine at_drawn 7 rfl rfl [] [20, 21, 22] rfl trivial ?_
  refine run 400 rfl ?_
  refine at_drawn 39 rfl rfl [(5, .sv (I (kidsF t.k))), (7, .yes), (11, .no), (13, .yes), (21, .yes), (25, .yes)] [20, 21, 22] rfl ⟨hN0, hB, hK, hS, hA, kids93_fn _⟩ ?_
  refine run 400 rfl ?_
  exact at_ret rfl rfl [] ⟨rfl, rfl, rfl⟩ trivial

set_option maxRecDepth 100000 in
theorem right_e2 (t : Tm) (hA : (((rowsT t.kids).length : Int) == kidsF t.k) = true) (hS : seq t.s .empty = false) (hK : (t.k == 1) = true) (hB : decide ((t.s.size : Int) ≤ 1024) = true) (hN0 : (t.n == 0) = false) (hNO : (t.k == 2) = false) : Gives Try.prog 68 [t.sv] (.ff) := by
  refine contract_of ty_ok [0, 1, 2, 3, 4, 5, 6, 7] Try.func68 rfl (by decide) Try.ntmps68 rfl fun z => ?_
  refine run 400 rfl ?_
  refine at_drawn 7 rfl rfl [] [20, 21, 22] rfl trivial ?_
  refine run 400 rfl ?_
  refine at_drawn 39 rfl rfl [(5, .sv (I (kidsF t.k))), (7, .yes), (11, .no), (13, .yes), (21, .yes), (25, .no), (27, .no)] [20, 21, 22] rfl ⟨hNO, hN0, hB, hK, hS, hA, kids93_fn _⟩ ?_
  refine run 400 rfl ?_
  exact at_ret rfl rfl [] ⟨rfl, rfl, rfl⟩ trivial

set_option maxRecDepth 100000 in
theorem right_e3 (t : Tm) (hA : (((rowsT t.kids).length : Int) == kidsF t.k) = true) (hS : seq t.s .empty = false) (hK : (t.k == 1) = true) (hB : decide ((t.s.size : Int) ≤ 1024) = true) (hN0 : (t.n == 0) = false) (hNO : (t.k == 2) = true) (hPO : decide (0 < t.n) = false) : Gives Try.prog 68 [t.sv] (.ff) := by
  refine contract_of ty_ok [0, 1, 2, 3, 4, 5, 6, 7] Try.func68 rfl (by decide) Try.ntmps68 rfl fun z => ?_
  refine run 400 rfl ?_
  refine at_drawn 7 rfl rfl [] [20, 21, 22] rfl trivial ?_
  refine run 400 rfl ?_
  refine at_drawn 39 rfl rfl [(5, .sv (I (kidsF t.k))), (7, .yes), (11, .no), (13, .yes), (21, .yes), (25, .no), (27, .yes), (32, .no)] [20, 21, 22] rfl ⟨hPO, hNO, hN0, hB, hK, hS, hA, kids93_fn _⟩ ?_
  refine run 400 rfl ?_
  exact at_ret rfl rfl [] ⟨rfl, rfl, rfl⟩ trivial

set_option maxRecDepth 100000 in
theorem right_e4 (t : Tm) (hA : (((rowsT t.kids).length : Int) == kidsF t.k) = true) (hS : seq t.s .empty = false) (hK : (t.k == 1) = true) (hB : decide ((t.s.size : Int) ≤ 1024) = true) (hN0 : (t.n == 0) = false) (hNO : (t.k == 2) = true) (hPO : decide (0 < t.n) = true) : Gives Try.prog 68 [t.sv] (.bl (decide (t.n ≤ 1073741824))) := by
  refine contract_of ty_ok [0, 1, 2, 3, 4, 5, 6, 7] Try.func68 rfl (by decide) Try.ntmps68 rfl fun z => ?_
  refine run 400 rfl ?_
  refine at_drawn 7 rfl rfl [] [20, 21, 22] rfl trivial ?_
  refine run 400 rfl ?_
  refine at_drawn 39 rfl rfl [(5, .sv (I (kidsF t.k))), (7, .yes), (11, .no), (13, .yes), (21, .yes), (25, .no), (27, .yes), (32, .yes)] [20, 21, 22] rfl ⟨hPO, hNO, hN0, hB, hK, hS, hA, kids93_fn _⟩ ?_
  refine run 400 rfl ?_
  exact at_ret rfl rfl [] ⟨rfl, rfl, rfl⟩ trivial

theorem right_fn (t : Tm) : Gives Try.prog 68 [t.sv] (.bl (rightF t)) := by
  have e0 : ((t.kids.length : Int) == kidsF t.k) = (((rowsT t.kids).length : Int) == kidsF t.k) := by rw [rowsT_len]
  unfold rightF
  rw [e0]
  cases hA : (((rowsT t.kids).length : Int) == kidsF t.k) with
  | false => exact (right_c1 t hA).le (SVle.ff (by simp))
  | true =>
    cases hS : seq t.s .empty with
    | true =>
      cases hN0 : (t.n == 0) with
      | true => exact (right_d1 t hA hS hN0).le (SVle.tt (by simp))
      | false =>
        cases hNO : (t.k == 2) with
        | false => exact (right_d2 t hA hS hN0 hNO).le (SVle.ff (by simp))
        | true =>
          cases hPO : decide (0 < t.n) with
          | false => exact (right_d3 t hA hS hN0 hNO hPO).le (SVle.ff (by simp))
          | true => exact (right_d4 t hA hS hN0 hNO hPO).le (SVle.of_eq (by simp))
    | false =>
      cases hK : (t.k == 1) with
      | false => exact (right_c2 t hA hS hK).le (SVle.ff (by simp))
      | true =>
        cases hB : decide ((t.s.size : Int) ≤ 1024) with
        | false => exact (right_c3 t hA hS hK hB).le (SVle.ff (by simp))
        | true =>
          cases hN0 : (t.n == 0) with
          | true => exact (right_e1 t hA hS hK hB hN0).le (SVle.tt (by simp))
          | false =>
            cases hNO : (t.k == 2) with
            | false => exact (right_e2 t hA hS hK hB hN0 hNO).le (SVle.ff (by simp))
            | true =>
              cases hPO : decide (0 < t.n) with
              | false => exact (right_e3 t hA hS hK hB hN0 hNO hPO).le (SVle.ff (by simp))
              | true => exact (right_e4 t hA hS hK hB hN0 hNO hPO).le (SVle.of_eq (by simp))

end Go.Proofs.Ytmnmhehddbemkaa
