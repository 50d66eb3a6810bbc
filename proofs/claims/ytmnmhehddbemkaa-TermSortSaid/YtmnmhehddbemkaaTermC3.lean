/- The texts Draw, Plan, one behind the other: an executor over the translated code, contracts of functions, and their laws. -/

import Derived.Test.YtmnmhehddbemkaaTermC2
/- The proof engine, part 15: a region whose order is drawn. -/
namespace Go.Eng

/-- An operation's part in a plan: what it gives, the blocks that it makes. -/
structure PE where
  sv : SV
  new : List (Nat × SO)
  til : Option Nat := none
  eats : Option Nat := none
  wr : Bool := false

def envOf (sel : Nat → Bool) : Nat → List Oper → List PE → List (Nat × SV) → List (Nat × SV)
  | i, o :: os, p :: ps, env => put o.dst (bif sel i then p.sv else .any) (envOf sel (i + 1) os ps env)
  | i, o :: os, [], env => put o.dst .any (envOf sel (i + 1) os [] env)
  | _, [], _, env => env

/-- Nothing has used it up. -/
def tilOk (sel : Nat → Bool) : Option Nat → Bool
  | none => true
  | some j => !sel j

/-- Names that are left out. -/
def rm1K {α : Type} (s : Nat) : List (Nat × SO) → (List (Nat × SO) → α) → α
  | [], k => k []
  | (i, x) :: l, k => rm1K s l fun r => bif Nat.beq i s then k r else k ((i, x) :: r)
def rmOK {α : Type} : List Nat → List (Nat × SO) → (List (Nat × SO) → α) → α
  | [], own, k => k own
  | s :: st, own, k => rm1K s own fun r => rmOK st r k
def rm1 (s : Nat) : List (Nat × SO) → List (Nat × SO)
  | [] => []
  | (i, x) :: l => bif Nat.beq i s then rm1 s l else (i, x) :: rm1 s l
def rmO : List Nat → List (Nat × SO) → List (Nat × SO)
  | [], own => own
  | s :: st, own => rmO st (rm1 s own)
theorem rm1K_eq {α : Type} (s : Nat) : ∀ (l : List (Nat × SO)) (k : List (Nat × SO) → α), rm1K s l k = k (rm1 s l)
  | [], _ => rfl
  | (i, x) :: l, k => by
    simp only [rm1K, rm1, rm1K_eq s l]
    cases Nat.beq i s <;> rfl
theorem rmOK_eq {α : Type} : ∀ (st : List Nat) (l : List (Nat × SO)) (k : List (Nat × SO) → α), rmOK st l k = k (rmO st l)
  | [], _, _ => rfl
  | s :: st, l, k => by simp only [rmOK, rmO, rm1K_eq, rmOK_eq st]
theorem rm1_own {s k : Nat} {o : SO} : ∀ {l : List (Nat × SO)}, ownq (rm1 s l) k = some o → ownq l k = some o
  | [], h => h
  | (i, x) :: l, h => by
    simp only [rm1] at h
    cases hi : Nat.beq i s with
    | true =>
      simp only [hi, cond_true] at h
      simp only [ownq]
      have := rm1_own h
      cases hk : Nat.beq i k with
      | false => exact this
      | true =>
        exfalso
        have e1 := beq_true hi
        have e2 := beq_true hk
        subst e1; subst e2
        have none_of : ∀ l : List (Nat × SO), ownq (rm1 i l) i = none := by
          intro l
          induction l with
          | nil => rfl
          | cons y l ih =>
            obtain ⟨j, y⟩ := y
            simp only [rm1]
            cases hj : Nat.beq j i with
            | true => simpa using ih
            | false => simp [ownq, hj, ih]
        rw [none_of] at h
        cases h
    | false =>
      simp only [hi, cond_false, ownq] at h ⊢
      cases hk : Nat.beq i k with
      | true => simpa [hk] using h
      | false => simp only [hk, cond_false] at h ⊢; exact rm1_own h
theorem rmO_own {k : Nat} {o : SO} : ∀ {st : List Nat} {l : List (Nat × SO)}, ownq (rmO st l) k = some o → ownq l k = some o
  | [], _, h => h
  | _ :: _, _, h => rm1_own (rmO_own h)

theorem rm1_ne {s k : Nat} (h : k ≠ s) : ∀ {l : List (Nat × SO)}, ownq (rm1 s l) k = ownq l k
  | [] => rfl
  | (i, x) :: l => by
    simp only [rm1]
    cases hi : Nat.beq i s with
    | true =>
      have := beq_true hi
      subst this
      have hk : Nat.beq i k = false := by
        cases hb : Nat.beq i k with
        | false => rfl
        | true => exact absurd (beq_true hb).symm h
      simp [ownq, hk, rm1_ne h]
    | false =>
      simp only [cond_false, ownq, rm1_ne h]
theorem rm1_none (k : Nat) : ∀ l : List (Nat × SO), ownq (rm1 k l) k = none
  | [] => rfl
  | (j, y) :: l => by
    simp only [rm1]
    cases hj : Nat.beq j k with
    | true => simpa using rm1_none k l
    | false => simp [ownq, hj, rm1_none k l]

/-- But for what was used up. -/
def eatO : Option Nat → List (Nat × SO) → List (Nat × SO)
  | none, own => own
  | some k, own => rm1 k own

theorem eatO_iff {e : Option Nat} {k : Nat} {o : SO} {l : List (Nat × SO)} : ownq (eatO e l) k = some o ↔ ownq l k = some o ∧ e ≠ some k := by
  cases e with
  | none => simp [eatO]
  | some j =>
    simp only [eatO, ne_eq, Option.some.injEq]
    by_cases h : k = j
    · subst h
      simp [rm1_none]
    · rw [rm1_ne h]
      exact ⟨fun q => ⟨q, fun e => h e.symm⟩, fun q => q.1⟩
theorem eatO_none {e : Option Nat} {k : Nat} {l : List (Nat × SO)} (h : ownq l k = none) : ownq (eatO e l) k = none := by
  cases hq : ownq (eatO e l) k with
  | none => rfl
  | some o => rw [(eatO_iff.1 hq).1] at h; cases h

def ownOf (sel : Nat → Bool) : Nat → List PE → List (Nat × SO) → List (Nat × SO)
  | i, p :: ps, own => (bif sel i then (bif tilOk sel p.til then p.new else []) else []) ++ ownOf sel (i + 1) ps (bif sel i then eatO p.eats own else own)
  | _, [], own => own

/-- An operation stands directly behind another one. -/
def behind (o : Oper) (j : Nat) : Bool := o.after.toList.any fun e => Region.binds .any e && Nat.beq e.on j

def leE (env env' : List (Nat × SV)) : Prop := ∀ t, SVle (nth env t) (nth env' t)
def leO (own own' : List (Nat × SO)) : Prop := ∀ k o, ownq own' k = some o → ownq own k = some o

theorem at_le {E : Stc} {env env' : List (Nat × SV)} {own own' : List (Nat × SO)} {a : Act} {w : World} (h : At E env own a w) (he : leE env env') (ho : leO own own') : At E env' own' a w := by
  obtain ⟨hdf, g, H, hd⟩ := h
  refine ⟨hdf, g, H, { size := hd.size, den := fun t => he t g H _ (hd.den t), ok := fun k o hk => hd.ok k o (ho k o hk), inj := fun k j hk hj => hd.inj k j ?_ ?_, hp := hd.hp, base := hd.base }⟩
  · cases hq : ownq own' k with
    | none => rw [hq] at hk; cases hk
    | some o => rw [ho k o hq]; rfl
  · cases hq : ownq own' j with
    | none => rw [hq] at hj; cases hj
    | some o => rw [ho j o hq]; rfl

def add (sel : Nat → Bool) (i : Nat) : Nat → Bool := fun j => Nat.beq j i || sel j

/-- What is owed for one operation: from any state that knows what stands ahead of it. -/
def Cert (E : Stc) (ops : Array Oper) (pre : List Oper) (plan : List PE) (env0 : List (Nat × SV)) (own0 : List (Nat × SO)) (s : List Fr) (i : Nat) (o : Oper) (p : PE) : Prop :=
  ∀ sel : Nat → Bool, sel i = false → (∀ j, behind o j = true → sel j = true) → (∀ j oj k, pre[j]? = some oj → sel j = true → behind oj k = true → sel k = true) →
    ∀ a w, At E (envOf sel 0 pre plan env0) (ownOf sel 0 plan own0) a w →
      wpOp E.P ops (KK E s) i (fun a' w' => At E (put o.dst p.sv (envOf sel 0 pre plan env0)) (ownOf (add sel i) 0 plan own0) a' w') a w

def dsts : List Oper → List Nat
  | [] => []
  | o :: os => match o.dst with
    | some d => d :: dsts os
    | none => dsts os

def dstsOk (l : List Oper) : Bool := nod (dsts l)
  where
  nod : List Nat → Bool
  | [] => true
  | d :: ds => bif memB d ds then false else nod ds
  memB (d : Nat) : List Nat → Bool
  | [] => false
  | x :: xs => bif Nat.beq d x then true else memB d xs

theorem memB_false {d : Nat} : ∀ {l : List Nat}, dstsOk.memB d l = false → d ∉ l
  | [], _, h => by cases h
  | x :: xs, h, hm => by
    simp only [dstsOk.memB] at h
    cases hb : Nat.beq d x with
    | true => simp [hb] at h
    | false =>
      simp only [hb, cond_false] at h
      rcases List.mem_cons.1 hm with e | hm
      · exact beq_false hb e
      · exact memB_false h hm

theorem mem_dsts {d : Nat} : ∀ {l : List Oper} {i : Nat} {o : Oper}, l[i]? = some o → o.dst = some d → d ∈ dsts l
  | [], _, _, h, _ => by simp at h
  | x :: xs, 0, o, h, hd => by
    simp only [List.getElem?_cons_zero, Option.some.injEq] at h
    subst h
    simp [dsts, hd]
  | x :: xs, i + 1, o, h, hd => by
    have := mem_dsts (l := xs) (i := i) (by simpa using h) hd
    simp only [dsts]
    cases x.dst <;> simp [this]

theorem envOf_congr {sel sel' : Nat → Bool} : ∀ (pre : List Oper) (plan : List PE) (i : Nat) (env : List (Nat × SV)), (∀ j, i ≤ j → j < i + pre.length → sel j = sel' j) → envOf sel i pre plan env = envOf sel' i pre plan env
  | [], _, _, _, _ => by simp [envOf]
  | o :: os, [], i, env, h => by
    simp only [envOf]
    rw [envOf_congr os [] (i + 1) env (fun j h1 h2 => h j (by omega) (by simp at h2 ⊢; omega))]
  | o :: os, p :: ps, i, env, h => by
    simp only [envOf]
    rw [h i (Nat.le_refl _) (by simp), envOf_congr os ps (i + 1) env (fun j h1 h2 => h j (by omega) (by simp at h2 ⊢; omega))]

def tilsLt (N : Nat) (plan : List PE) : Prop := ∀ p ∈ plan, ∀ j, p.til = some j → j < N

theorem ownOf_congr {sel sel' : Nat → Bool} {N : Nat} (h : ∀ j, j < N → sel j = sel' j) : ∀ (plan : List PE) (i : Nat) (own : List (Nat × SO)), tilsLt N plan → i + plan.length ≤ N → ownOf sel i plan own = ownOf sel' i plan own
  | [], _, _, _, _ => rfl
  | p :: ps, i, own, ht, hl => by
    simp only [List.length_cons] at hl
    simp only [ownOf]
    have e : tilOk sel p.til = tilOk sel' p.til := by
      cases hp : p.til with
      | none => rfl
      | some j => simp only [tilOk]; rw [h j (ht p (by simp) j hp)]
    rw [h i (by omega), e, ownOf_congr h ps (i + 1) _ (fun q hq => ht q (by simp [hq])) (by omega)]

theorem nth_put (dst : Option Nat) (s : SV) (env : List (Nat × SV)) (t : Nat) : nth (put dst s env) t = if dst = some t then s else nth env t := by
  cases dst with
  | none => simp [put]
  | some d =>
    simp only [put, nth]
    cases hb : Nat.beq d t with
    | true => simp [beq_true hb]
    | false => simp [beq_false hb]

theorem nod_cons {o : Oper} {os : List Oper} (h : dstsOk (o :: os) = true) : dstsOk os = true ∧ ∀ d, o.dst = some d → d ∉ dsts os := by
  unfold dstsOk at *
  simp only [dsts] at h
  cases hd : o.dst with
  | none => simp only [hd] at h; exact ⟨h, fun d e => by cases e⟩
  | some d =>
    simp only [hd, dstsOk.nod] at h
    cases hm : dstsOk.memB d (dsts os) with
    | true => simp [hm] at h
    | false =>
      simp only [hm, cond_false] at h
      exact ⟨h, fun d' e => by cases e; exact memB_false hm⟩

/-- Adding one to the chosen ones. -/
theorem envOf_add {sel : Nat → Bool} : ∀ (pre : List Oper) (plan : List PE) (i0 i : Nat) (env : List (Nat × SV)) (o : Oper) (p : PE), dstsOk pre = true → pre[i]? = some o → plan[i]? = some p →
    leE (put o.dst p.sv (envOf sel i0 pre plan env)) (envOf (add sel (i0 + i)) i0 pre plan env)
  | [], _, _, _, _, _, _, _, h, _ => by simp at h
  | _ :: _, [], _, _, _, _, _, _, _, h => by simp at h
  | x :: xs, q :: ps, i0, 0, env, o, p, hd, ho, hp => by
    simp only [List.getElem?_cons_zero, Option.some.injEq] at ho hp
    subst ho; subst hp
    intro t
    simp only [Nat.add_zero, envOf]
    have e : envOf (add sel i0) (i0 + 1) xs ps env = envOf sel (i0 + 1) xs ps env := envOf_congr xs ps (i0 + 1) env fun j h1 _ => by
      have : Nat.beq j i0 = false := by
        cases hb : Nat.beq j i0 with
        | false => rfl
        | true => have := beq_true hb; omega
      simp [add, this]
    rw [e]
    have ea : add sel i0 i0 = true := by simp [add]
    rw [ea]
    simp only [cond_true, nth_put]
    split
    · exact SVle.refl _
    · exact SVle.refl _
  | x :: xs, q :: ps, i0, i + 1, env, o, p, hd, ho, hp => by
    obtain ⟨hd1, hd2⟩ := nod_cons hd
    have ih := envOf_add (sel := sel) xs ps (i0 + 1) i env o p hd1 (by simpa using ho) (by simpa using hp)
    rw [show i0 + 1 + i = i0 + (i + 1) from by omega] at ih
    intro t
    have ht := ih t
    simp only [envOf, nth_put] at *
    have ea : add sel (i0 + (i + 1)) i0 = sel i0 := by
      have : Nat.beq i0 (i0 + (i + 1)) = false := by
        cases hb : Nat.beq i0 (i0 + (i + 1)) with
        | false => rfl
        | true => have := beq_true hb; omega
      simp [add, this]
    rw [ea]
    by_cases h1 : o.dst = some t
    · rw [if_pos h1] at ht ⊢
      have hne : x.dst ≠ some t := fun e => hd2 t e (mem_dsts (l := xs) (i := i) (by simpa using ho) h1)
      rw [if_neg hne]
      exact ht
    · rw [if_neg h1] at ht ⊢
      split
      · exact SVle.refl _
      · exact ht

theorem ownq_append : ∀ (a b : List (Nat × SO)) (k : Nat), ownq (a ++ b) k = (ownq a k).or (ownq b k)
  | [], _, _ => rfl
  | (i, x) :: a, b, k => by
    simp only [List.cons_append, ownq]
    cases Nat.beq i k with
    | true => rfl
    | false => exact ownq_append a b k

def isAny : SV → Bool
  | .any => true
  | _ => false
theorem isAny_eq {s : SV} (h : isAny s = true) : s = .any := by
  cases s <;> first | rfl | cases h
theorem Dn.le' {cx : Cx} {g : Nat → Value} {H : Hp} {env : List (Nat × SV)} {own own' : List (Nat × SO)} {n : Nat} {tmps : Array Value} {w : World} (hd : Dn cx g H env own n tmps w) (ho : leO own own') : Dn cx g H env own' n tmps w :=
  { size := hd.size, den := hd.den, ok := fun k o hk => hd.ok k o (ho k o hk), hp := hd.hp, base := hd.base
    inj := fun k j hk hj => hd.inj k j (by
      cases hq : ownq own' k with
      | none => rw [hq] at hk; cases hk
      | some o => rw [ho k o hq]; rfl) (by
      cases hq : ownq own' j with
      | none => rw [hq] at hj; cases hj
      | some o => rw [ho j o hq]; rfl) }
def lenK {α β : Type} (l : List β) (k : Nat → α) : α :=
  match l with
  | [] => k 0
  | _ :: l => lenK l fun n => k (n + 1)
theorem lenK_eq {α β : Type} : ∀ (l : List β) (k : Nat → α), lenK l k = k l.length
  | [], _ => rfl
  | _ :: l, k => by simp only [lenK, lenK_eq l, List.length_cons]

def takesB (til : Option Nat) (j : Nat) (qt : Option Nat) : Bool := match til with
  | some t => Nat.beq t j && qt.isNone
  | none => false
/-- Later ones have not that name, but the one that takes the block over. -/
def newLater (til : Option Nat) (k : Nat) : Nat → List PE → Bool
  | _, [] => true
  | j, q :: qs => bif (ownq q.new k).isNone || takesB til j q.til then newLater til k (j + 1) qs else false
theorem newLater_spec {til : Option Nat} {k : Nat} : ∀ {qs : List PE} {j : Nat}, newLater til k j qs = true → ∀ i q, qs[i]? = some q → ownq q.new k = none ∨ (til = some (j + i) ∧ q.til = none)
  | [], _, _, i, q, h => by simp at h
  | x :: xs, j, hn, i, q, h => by
    simp only [newLater] at hn
    cases hc : (ownq x.new k).isNone || takesB til j x.til with
    | false => rw [hc] at hn; cases hn
    | true =>
      rw [hc, cond_true] at hn
      cases i with
      | zero =>
        simp only [List.getElem?_cons_zero, Option.some.injEq] at h
        subst h
        rw [Bool.or_eq_true] at hc
        refine hc.imp (fun h => by simpa using h) fun h => ?_
        cases til with
        | none => cases h
        | some t =>
          simp only [takesB, Bool.and_eq_true] at h
          exact ⟨by rw [beq_true h.1]; rfl, by simpa using h.2⟩
      | succ i =>
        have := newLater_spec hn i q (by simpa using h)
        rw [show j + (i + 1) = j + 1 + i from by omega]
        exact this

/-- The new blocks have names of their own; what is written has the name of an old one. -/
def newOkI (own0 : List (Nat × SO)) : Nat → List PE → Bool
  | _, [] => true
  | i, p :: ps => bif p.new.all (fun x => ((ownq own0 x.1).isNone || (p.til.isNone && p.wr)) && newLater p.til x.1 (i + 1) ps) then newOkI own0 (i + 1) ps else false
def newOk (own0 : List (Nat × SO)) (plan : List PE) : Bool := newOkI own0 0 plan

theorem ownq_mem {l : List (Nat × SO)} {k : Nat} {o : SO} (h : ownq l k = some o) : ∃ x ∈ l, x.1 = k := by
  induction l with
  | nil => simp [ownq] at h
  | cons y l ih =>
    obtain ⟨i, x⟩ := y
    simp only [ownq] at h
    cases hb : Nat.beq i k with
    | true => exact ⟨(i, x), by simp, beq_true hb⟩
    | false =>
      simp only [hb, cond_false] at h
      obtain ⟨z, hz, e⟩ := ih h
      exact ⟨z, by simp [hz], e⟩

theorem newOk_cons {own0 : List (Nat × SO)} {p : PE} {ps : List PE} {i : Nat} (h : newOkI own0 i (p :: ps) = true) : newOkI own0 (i + 1) ps = true ∧ ∀ k o, ownq p.new k = some o → (ownq own0 k = none ∨ (p.til = none ∧ p.wr = true)) ∧ ∀ j q, ps[j]? = some q → ownq q.new k = none ∨ (p.til = some (i + 1 + j) ∧ q.til = none) := by
  simp only [newOkI] at h
  cases hc : p.new.all (fun x => ((ownq own0 x.1).isNone || (p.til.isNone && p.wr)) && newLater p.til x.1 (i + 1) ps) with
  | false => simp [hc] at h
  | true =>
    simp only [hc, cond_true] at h
    refine ⟨h, fun k o hk => ?_⟩
    obtain ⟨x, hx, e⟩ := ownq_mem hk
    have := List.all_eq_true.1 hc x hx
    rw [Bool.and_eq_true, Bool.or_eq_true, Bool.and_eq_true, e] at this
    exact ⟨this.1.imp (fun h => by simpa using h) (fun h => ⟨by simpa using h.1, h.2⟩), newLater_spec this.2⟩

theorem newOkI_own {own0 : List (Nat × SO)} : ∀ {plan : List PE} {i0 i : Nat} {p : PE} {k : Nat} {o : SO}, newOkI own0 i0 plan = true → plan[i]? = some p → ownq p.new k = some o → ownq own0 k = none ∨ (p.til = none ∧ p.wr = true)
  | [], _, _, _, _, _, _, h, _ => by simp at h
  | q :: ps, _, 0, p, k, o, hn, h, hk => by
    simp only [List.getElem?_cons_zero, Option.some.injEq] at h
    subst h
    exact ((newOk_cons hn).2 k o hk).1
  | q :: ps, _, i + 1, p, k, o, hn, h, hk => newOkI_own (newOk_cons hn).1 (by simpa using h) hk
theorem newOk_own {own0 : List (Nat × SO)} {plan : List PE} {i : Nat} {p : PE} {k : Nat} {o : SO} (hn : newOk own0 plan = true) (h : plan[i]? = some p) (hk : ownq p.new k = some o) : ownq own0 k = none ∨ (p.til = none ∧ p.wr = true) := newOkI_own hn h hk

theorem newOkI_ne {own0 : List (Nat × SO)} : ∀ {plan : List PE} {i0 i j : Nat} {p q : PE} {k : Nat} {o o' : SO}, newOkI own0 i0 plan = true → plan[i]? = some p → plan[j]? = some q → ownq p.new k = some o → ownq q.new k = some o' → i = j ∨ p.til = some (i0 + j) ∨ q.til = some (i0 + i)
  | [], _, _, _, _, _, _, _, _, _, h, _, _, _ => by simp at h
  | x :: ps, _, 0, 0, p, q, k, o, o', hn, h, h', hk, hk' => .inl rfl
  | x :: ps, i0, 0, j + 1, p, q, k, o, o', hn, h, h', hk, hk' => by
    simp only [List.getElem?_cons_zero, Option.some.injEq] at h
    subst h
    rcases ((newOk_cons hn).2 k o hk).2 j q (by simpa using h') with h | h
    · rw [h] at hk'; cases hk'
    · exact .inr (.inl (by rw [h.1]; congr 1; omega))
  | x :: ps, i0, i + 1, 0, p, q, k, o, o', hn, h, h', hk, hk' => by
    simp only [List.getElem?_cons_zero, Option.some.injEq] at h'
    subst h'
    rcases ((newOk_cons hn).2 k o' hk').2 i p (by simpa using h) with h | h
    · rw [h] at hk; cases hk
    · exact .inr (.inr (by rw [h.1]; congr 1; omega))
  | x :: ps, i0, i + 1, j + 1, p, q, k, o, o', hn, h, h', hk, hk' => by
    rcases newOkI_ne (newOk_cons hn).1 (i := i) (j := j) (by simpa using h) (by simpa using h') hk hk' with e | e | e
    · exact .inl (by omega)
    · exact .inr (.inl (by rw [e]; congr 1; omega))
    · exact .inr (.inr (by rw [e]; congr 1; omega))
theorem newOk_ne {own0 : List (Nat × SO)} {plan : List PE} {i j : Nat} {p q : PE} {k : Nat} {o o' : SO} (hn : newOk own0 plan = true) (h : plan[i]? = some p) (h' : plan[j]? = some q) (hk : ownq p.new k = some o) (hk' : ownq q.new k = some o') : i = j ∨ p.til = some j ∨ q.til = some i := by
  have := newOkI_ne hn h h' hk hk'
  simpa using this

theorem newOkI_mono {own0 own1 : List (Nat × SO)} (h : ∀ k, ownq own0 k = none → ownq own1 k = none) : ∀ {ps : List PE} {i : Nat}, newOkI own0 i ps = true → newOkI own1 i ps = true
  | [], _, _ => rfl
  | p :: ps, i, hn => by
    simp only [newOkI] at hn ⊢
    cases hc : p.new.all (fun x => ((ownq own0 x.1).isNone || (p.til.isNone && p.wr)) && newLater p.til x.1 (i + 1) ps) with
    | false => rw [hc] at hn; cases hn
    | true =>
      rw [hc, cond_true] at hn
      have : p.new.all (fun x => ((ownq own1 x.1).isNone || (p.til.isNone && p.wr)) && newLater p.til x.1 (i + 1) ps) = true := by
        rw [List.all_eq_true] at hc ⊢
        intro x hx
        have := hc x hx
        rw [Bool.and_eq_true, Bool.or_eq_true] at this ⊢
        exact ⟨this.1.imp (fun q => by rw [Option.isNone_iff_eq_none] at q ⊢; exact h _ q) id, this.2⟩
      rw [this, cond_true]
      exact newOkI_mono h hn

/-- What is owned: what was, and what the chosen ones made. -/
theorem ownOf_iffI {sel : Nat → Bool} {k : Nat} {o : SO} : ∀ (plan : List PE) (i0 : Nat) {own0 : List (Nat × SO)}, newOkI own0 i0 plan = true →
    (ownq (ownOf sel i0 plan own0) k = some o ↔ (ownq own0 k = some o ∧ ∀ i p, plan[i]? = some p → sel (i0 + i) = true → (tilOk sel p.til = true → ownq p.new k = none) ∧ p.eats ≠ some k) ∨
      ∃ i p, plan[i]? = some p ∧ sel (i0 + i) = true ∧ tilOk sel p.til = true ∧ ownq p.new k = some o)
  | [], i0, _, _ => by simp [ownOf]
  | q :: ps, i0, own0, hn => by
    obtain ⟨hn1, hnew⟩ := newOk_cons hn
    have hn2 : newOkI (bif sel i0 then eatO q.eats own0 else own0) (i0 + 1) ps = true := newOkI_mono (fun k hk => by cases sel i0 <;> first | exact hk | exact eatO_none hk) hn1
    have ih := ownOf_iffI (sel := sel) (k := k) (o := o) ps (i0 + 1) hn2
    have hbase : ownq (bif sel i0 then eatO q.eats own0 else own0) k = some o ↔ ownq own0 k = some o ∧ (sel i0 = true → q.eats ≠ some k) := by
      cases sel i0 with
      | false => simp
      | true => simpa using eatO_iff
    simp only [ownOf, ownq_append]
    cases hq : ownq (bif sel i0 then (bif tilOk sel q.til then q.new else []) else []) k with
    | some x =>
      have key : sel i0 = true ∧ tilOk sel q.til = true ∧ ownq q.new k = some x := by
        cases hs : sel i0 with
        | false => simp [hs, ownq] at hq
        | true =>
          cases ht : tilOk sel q.til with
          | false => simp [hs, ht, ownq] at hq
          | true => exact ⟨rfl, rfl, by simpa [hs, ht] using hq⟩
      obtain ⟨k1, k2, k3⟩ := key
      simp only [Option.some_or, Option.some.injEq]
      constructor
      · rintro rfl
        exact .inr ⟨0, q, rfl, by simpa using k1, k2, k3⟩
      · rintro (⟨h, hall⟩ | ⟨i, p, h1, h2, h3, h4⟩)
        · have := (hall 0 q rfl (by simpa using k1)).1 k2
          rw [k3] at this
          cases this
        · cases i with
          | zero =>
            simp only [List.getElem?_cons_zero, Option.some.injEq] at h1
            subst h1
            rw [k3] at h4
            simpa using h4
          | succ i =>
            rcases (hnew k x k3).2 i p (by simpa using h1) with e | e
            · rw [e] at h4
              cases h4
            · rw [e.1] at k2
              simp only [tilOk] at k2
              rw [show i0 + (i + 1) = i0 + 1 + i from by omega] at h2
              rw [h2] at k2
              cases k2
    | none =>
      have key : sel i0 = true → tilOk sel q.til = true → ownq q.new k = none := by
        intro k1 k2
        simpa [k1, k2] using hq
      rw [Option.none_or, ih, hbase]
      constructor
      · rintro (⟨⟨h, heat⟩, hall⟩ | ⟨i, p, h1, h2, h3⟩)
        · refine .inl ⟨h, fun i p h1 h2 => ?_⟩
          cases i with
          | zero =>
            simp only [List.getElem?_cons_zero, Option.some.injEq] at h1
            subst h1
            exact ⟨key (by simpa using h2), heat (by simpa using h2)⟩
          | succ i => exact hall i p (by simpa using h1) (by rw [show i0 + 1 + i = i0 + (i + 1) from by omega]; exact h2)
        · exact .inr ⟨i + 1, p, by simpa using h1, by rw [show i0 + (i + 1) = i0 + 1 + i from by omega]; exact h2, h3⟩
      · rintro (⟨h, hall⟩ | ⟨i, p, h1, h2, h3, h4⟩)
        · exact .inl ⟨⟨h, fun hs => (hall 0 q rfl (by simpa using hs)).2⟩, fun i p h1 h2 => hall (i + 1) p (by simpa using h1) (by rw [show i0 + (i + 1) = i0 + 1 + i from by omega]; exact h2)⟩
        · cases i with
          | zero =>
            simp only [List.getElem?_cons_zero, Option.some.injEq] at h1
            subst h1
            rw [key (by simpa using h2) h3] at h4
            cases h4
          | succ i => exact .inr ⟨i, p, by simpa using h1, by rw [show i0 + 1 + i = i0 + (i + 1) from by omega]; exact h2, h3, h4⟩

theorem ownOf_iff {sel : Nat → Bool} {k : Nat} {o : SO} (plan : List PE) (i0 : Nat) {own0 : List (Nat × SO)} (hn : newOk own0 plan = true) (h0 : i0 = 0 := by rfl) :
    (ownq (ownOf sel i0 plan own0) k = some o ↔ (ownq own0 k = some o ∧ ∀ i p, plan[i]? = some p → sel (i0 + i) = true → (tilOk sel p.til = true → ownq p.new k = none) ∧ p.eats ≠ some k) ∨
      ∃ i p, plan[i]? = some p ∧ sel (i0 + i) = true ∧ tilOk sel p.til = true ∧ ownq p.new k = some o) := by
  subst h0
  exact ownOf_iffI plan 0 hn

theorem add_ne {sel : Nat → Bool} {i j : Nat} (h : j ≠ i) : add sel i j = sel j := by
  have : Nat.beq j i = false := by
    cases hb : Nat.beq j i with
    | false => rfl
    | true => exact absurd (beq_true hb) h
  simp [add, this]

theorem tilOk_add {sel : Nat → Bool} {i : Nat} {t : Option Nat} (h : tilOk (add sel i) t = true) : tilOk sel t = true := by
  cases t with
  | none => rfl
  | some j =>
    simp only [tilOk, add] at h ⊢
    cases hs : sel j with
    | false => rfl
    | true => simp [hs] at h

theorem add_mono {sel : Nat → Bool} {i j : Nat} (h : sel j = true) : add sel i j = true := by simp [add, h]

def isTok : Option SO → Bool
  | some (.tok _) => true
  | _ => false

/-- What is used up was there, is used up once, and not made anew. -/
def eatOk (own0 : List (Nat × SO)) (plan : List PE) : Bool :=
  plan.all fun p => match p.eats with
    | none => true
    | some k => isTok (ownq own0 k) && plan.all fun q => (ownq q.new k).isNone
def eatU : List PE → Bool
  | [] => true
  | p :: ps => (match p.eats with
    | none => true
    | some k => ps.all fun q => match q.eats with
      | none => true
      | some j => !Nat.beq j k) && eatU ps

theorem eatOk_spec {own0 : List (Nat × SO)} {plan : List PE} (h : eatOk own0 plan = true) {p : PE} (hp : p ∈ plan) {k : Nat} (hk : p.eats = some k) : (∃ sz, ownq own0 k = some (.tok sz)) ∧ ∀ q ∈ plan, ownq q.new k = none := by
  have := List.all_eq_true.1 h p hp
  rw [hk] at this
  simp only [Bool.and_eq_true] at this
  refine ⟨?_, fun q hq => by simpa using List.all_eq_true.1 this.2 q hq⟩
  cases ho : ownq own0 k with
  | none => rw [ho] at this; simp [isTok] at this
  | some x =>
    cases x with
    | tok sz => exact ⟨sz, rfl⟩
    | cells t c => rw [ho] at this; simp [isTok] at this
    | obj f => rw [ho] at this; simp [isTok] at this
    | buf c n => rw [ho] at this; simp [isTok] at this

theorem eatU_spec : ∀ {plan : List PE} {i j : Nat} {p q : PE} {k : Nat}, eatU plan = true → plan[i]? = some p → plan[j]? = some q → p.eats = some k → q.eats = some k → i = j
  | [], _, _, _, _, _, _, h, _, _, _ => by simp at h
  | x :: ps, i, j, p, q, k, hu, h1, h2, e1, e2 => by
    simp only [eatU, Bool.and_eq_true] at hu
    obtain ⟨hu1, hu2⟩ := hu
    have no : ∀ (j : Nat) (q : PE), ps[j]? = some q → x.eats = some k → q.eats = some k → False := by
      intro j q hj ex eq'
      rw [ex] at hu1
      have := List.all_eq_true.1 hu1 q (List.mem_of_getElem? hj)
      rw [eq'] at this
      simp at this
    cases i with
    | zero =>
      simp only [List.getElem?_cons_zero, Option.some.injEq] at h1
      subst h1
      cases j with
      | zero => rfl
      | succ j => exact (no j q (by simpa using h2) e1 e2).elim
    | succ i =>
      cases j with
      | zero =>
        simp only [List.getElem?_cons_zero, Option.some.injEq] at h2
        subst h2
        exact (no i p (by simpa using h1) e2 e1).elim
      | succ j =>
        have := eatU_spec hu2 (by simpa using h1) (by simpa using h2) e1 e2
        omega

theorem ownOf_add {sel : Nat → Bool} {own0 : List (Nat × SO)} (plan : List PE) (i : Nat) (p : PE) (hn : newOk own0 plan = true) (he : eatOk own0 plan = true) (hp : plan[i]? = some p) (htil : ∀ j, p.til = some j → sel j = false) :
    leO (p.new ++ eatO p.eats (ownOf sel 0 plan own0)) (ownOf (add sel i) 0 plan own0) := by
  intro k o hk
  rw [ownq_append]
  rcases (ownOf_iff plan 0 hn).1 hk with ⟨h, hall⟩ | ⟨j, q, h1, h2, h3, h4⟩
  · have none_of : ∀ j q, plan[j]? = some q → add sel i (0 + j) = true → ownq q.new k = none := by
      intro j q hq hs
      cases hx : ownq q.new k with
      | none => rfl
      | some x =>
        rcases newOk_own hn hq hx with e | ⟨e, _⟩
        · rw [h] at e; cases e
        · have := (hall j q hq hs).1 (by rw [e]; rfl)
          rw [hx] at this
          cases this
    rw [none_of i p hp (by simp [add]), Option.none_or]
    refine eatO_iff.2 ⟨(ownOf_iff plan 0 hn).2 (.inl ⟨h, fun j q hq hs => ⟨fun _ => none_of j q hq (add_mono hs), (hall j q hq (add_mono hs)).2⟩⟩), (hall i p hp (by simp [add])).2⟩
  · by_cases e : j = i
    · subst e
      rw [hp] at h1
      cases h1
      rw [h4]
      rfl
    · have : ownq p.new k = none := by
        cases hx : ownq p.new k with
        | none => rfl
        | some x =>
          rw [Nat.zero_add, add_ne e] at h2
          rcases newOk_ne hn hp h1 hx h4 with e' | e' | e'
          · exact absurd e'.symm e
          · rw [htil j e'] at h2; cases h2
          · rw [e'] at h3
            simp [tilOk, add] at h3
      rw [this, Option.none_or]
      rw [Nat.zero_add] at h2
      rw [add_ne e] at h2
      refine eatO_iff.2 ⟨(ownOf_iff plan 0 hn).2 (.inr ⟨j, q, h1, by rw [Nat.zero_add]; exact h2, tilOk_add h3, h4⟩), fun hek => ?_⟩
      have := (eatOk_spec he (List.mem_of_getElem? hp) hek).2 q (List.mem_of_getElem? h1)
      rw [h4] at this
      cases this

/-- From one operation back to another one, over those behind which it stands. -/
inductive Reach (get : Nat → Option Oper) : Nat → Nat → Prop
  | one {i j : Nat} {o : Oper} (h : get i = some o) (hb : behind o j = true) : Reach get i j
  | step {i j k : Nat} {o : Oper} (h : get i = some o) (hb : behind o k = true) (hr : Reach get k j) : Reach get i j

theorem reach_listed {get : Nat → Option Oper} {L : Nat → Bool} (hc : ∀ i o k, get i = some o → L i = true → behind o k = true → L k = true) {i m : Nat} (hr : Reach get i m) (h : ∀ o, get i = some o → ∀ k, behind o k = true → L k = true) : L m = true := by
  induction hr with
  | one h1 hb => exact h _ h1 _ hb
  | step h1 hb _ ih => exact ih fun o ho k hk => hc _ _ _ ho (h _ h1 _ hb) hk

def maskOf (ms : List Nat) : List Edge → Nat
  | [] => 0
  | e :: es => bif Region.binds .any e then Nat.lor (Nat.lor (Nat.pow 2 e.on) (ms.getD e.on 0)) (maskOf ms es) else maskOf ms es

def sufGo (n : Nat) : Nat → List Nat → List Oper → Bool
  | _, _, [] => true
  | i, ms, o :: os => bif (bif Nat.ble n i then Nat.beq (maskOf ms o.after.toList) (Nat.sub (Nat.pow 2 i) 1) else true) then sufGo n (i + 1) (ms ++ [maskOf ms o.after.toList]) os else false

theorem maskOf_spec {get : Nat → Option Oper} {ms : List Nat} (hm : ∀ (k x : Nat), ms[k]? = some x → ∀ j, x.testBit j = true → Reach get k j) {i : Nat} {o : Oper} (ho : get i = some o) :
    ∀ es : List Edge, (∀ e ∈ es, e ∈ o.after.toList) → ∀ j, (maskOf ms es).testBit j = true → Reach get i j
  | [], _, j, h => by simp [maskOf] at h
  | e :: es, hes, j, h => by
    have ih := maskOf_spec hm ho es (fun e he => hes e (by simp [he])) j
    simp only [maskOf] at h
    cases hb : Region.binds .any e with
    | false => rw [hb] at h; exact ih h
    | true =>
      rw [hb] at h
      have hbe : behind o e.on = true := List.any_eq_true.2 ⟨e, hes e (by simp), by rw [hb]; simp⟩
      have h' : ((2 ^ e.on ||| ms.getD e.on 0) ||| maskOf ms es).testBit j = true := h
      rw [Nat.testBit_or, Nat.testBit_or, Bool.or_eq_true, Bool.or_eq_true] at h'
      rcases h' with (h' | h') | h'
      · rw [Nat.testBit_two_pow] at h'
        have : e.on = j := by simpa using h'
        subst this
        exact .one ho hbe
      · cases hg : ms[e.on]? with
        | none => rw [List.getD_eq_getElem?_getD, hg] at h'; simp at h'
        | some x =>
          rw [List.getD_eq_getElem?_getD, hg] at h'
          exact .step ho hbe (hm _ _ hg j h')
      · exact ih h'

theorem sufGo_spec {all : List Oper} {n : Nat} : ∀ (os : List Oper) (i : Nat) (ms : List Nat), sufGo n i ms os = true → ms.length = i → (∀ k, os[k]? = all[i + k]?) → (∀ (k x : Nat), ms[k]? = some x → ∀ j, x.testBit j = true → Reach (fun i => all[i]?) k j) →
    ∀ k o, os[k]? = some o → n ≤ i + k → ∀ j, j < i + k → Reach (fun i => all[i]?) (i + k) j
  | [], _, _, _, _, _, _, k, o, h => by simp at h
  | x :: xs, i, ms, hs, hl, hall, hm, k, o, h => by
    simp only [sufGo] at hs
    cases hc : (bif Nat.ble n i then Nat.beq (maskOf ms x.after.toList) (Nat.sub (Nat.pow 2 i) 1) else true) with
    | false => rw [hc] at hs; cases hs
    | true =>
      rw [hc, cond_true] at hs
      have hx : all[i]? = some x := by have := hall 0; simpa using this.symm
      have hmask := maskOf_spec (get := fun i => all[i]?) hm hx x.after.toList (fun _ h => h)
      cases k with
      | zero =>
        intro hn j hj
        rw [Nat.add_zero] at hn hj ⊢
        rw [Nat.ble_eq_true_of_le hn, cond_true] at hc
        have e := beq_true hc
        refine hmask j ?_
        rw [e]
        show (2 ^ i - 1).testBit j = true
        rw [Nat.testBit_two_pow_sub_one]
        simpa using hj
      | succ k =>
        intro hn j hj
        have := sufGo_spec xs (i + 1) (ms ++ [maskOf ms x.after.toList]) hs (by simp [hl]) (fun k => by have := hall (k + 1); rw [show i + 1 + k = i + (k + 1) from by omega]; simpa using this) (fun q y hq => by
          by_cases hlt : q < ms.length
          · rw [List.getElem?_append_left hlt] at hq
            exact hm q y hq
          · rw [List.getElem?_append_right (by omega)] at hq
            have : q - ms.length = 0 := by
              cases hz : q - ms.length with
              | zero => rfl
              | succ z => rw [hz] at hq; simp at hq
            rw [this] at hq
            simp only [List.getElem?_cons_zero, Option.some.injEq] at hq
            subst hq
            obtain rfl : q = i := by omega
            exact hmask) k o (by simpa using h) (by omega) j (by omega)
        rw [show i + (k + 1) = i + 1 + k from by omega]
        exact this

def sufOk (n : Nat) (all : List Oper) : Bool := sufGo n 0 [] all

theorem sufOk_spec {n : Nat} {all : List Oper} (h : sufOk n all = true) {i : Nat} {o : Oper} (ho : all[i]? = some o) (hn : n ≤ i) {j : Nat} (hj : j < i) : Reach (fun i => all[i]?) i j := by
  have := sufGo_spec (all := all) all 0 [] h rfl (fun k => by simp) (fun k x hx => by simp at hx) i o ho (by omega) j (by omega)
  simpa using this

/-- Whoever binds stands ahead. -/
def aheadOk : Nat → List Oper → Bool
  | _, [] => true
  | i, o :: os => bif o.after.toList.all (fun e => !Region.binds .any e || Nat.blt e.on i) then aheadOk (i + 1) os else false

theorem aheadOk_spec : ∀ (l : List Oper) (i k : Nat) (o : Oper), aheadOk i l = true → l[k]? = some o → ∀ j, behind o j = true → j < i + k
  | [], _, _, _, _, h => by simp at h
  | x :: xs, i, 0, o, hs, h => by
    simp only [List.getElem?_cons_zero, Option.some.injEq] at h
    subst h
    simp only [aheadOk] at hs
    cases hc : x.after.toList.all (fun e => !Region.binds .any e || Nat.blt e.on i) with
    | false => simp [hc] at hs
    | true =>
      intro j hj
      obtain ⟨e, he, hb⟩ := List.any_eq_true.1 hj
      rw [Bool.and_eq_true] at hb
      have := List.all_eq_true.1 hc e he
      rw [hb.1] at this
      simp only [Bool.not_true, Bool.false_or] at this
      rw [← beq_true hb.2]
      have := Nat.blt_eq.mp this
      omega
  | x :: xs, i, k + 1, o, hs, h => by
    simp only [aheadOk] at hs
    cases hc : x.after.toList.all (fun e => !Region.binds .any e || Nat.blt e.on i) with
    | false => simp [hc] at hs
    | true =>
      simp only [hc, cond_true] at hs
      intro j hj
      have := aheadOk_spec xs (i + 1) k o hs (by simpa using h) j hj
      omega

theorem ready_iff {ops : Array Oper} {listed : Array Bool} {j : Nat} : j ∈ Region.ready .any ops listed ↔
    listed.getD j true = false ∧ ∃ o, ops[j]? = some o ∧ ∀ k, behind o k = true → listed.getD k false = true := by
  rw [mem_ready]
  constructor
  · rintro ⟨h1, o, ho, h⟩
    refine ⟨h1, o, ho, fun k hk => ?_⟩
    obtain ⟨e, he, hb⟩ := List.any_eq_true.1 hk
    rw [Bool.and_eq_true] at hb
    rw [← beq_true hb.2]
    exact h e (by simpa using he) hb.1
  · rintro ⟨h1, o, ho, h⟩
    refine ⟨h1, o, ho, fun e he hb => h e.on ?_⟩
    exact List.any_eq_true.2 ⟨e, by simpa using he, by rw [hb]; simp⟩

/-- The region, in whatever order. -/
theorem wpAny_plan (E : Stc) (ops : Array Oper) (pre suf : List Oper) (plan : List PE) (env0 : List (Nat × SV)) (own0 : List (Nat × SO)) (s : List Fr) (nx : List Nat)
    (hops : ops.toList = pre ++ suf) (hlen : plan.length = pre.length) (hdst : dstsOk pre = true) (htil : tilsLt pre.length plan) (hsuf : sufOk pre.length (pre ++ suf) = true) (hah : aheadOk 0 (pre ++ suf) = true)
    (cert : ∀ i o p, pre[i]? = some o → plan[i]? = some p → Cert E ops pre plan env0 own0 s i o p)
    (hS : Sat E (.ops ops.toList suf) s (envOf (fun _ => true) 0 pre plan env0) (ownOf (fun _ => true) 0 plan own0) nx) :
    ∀ (fuel : Nat) (listed : Array Bool) (a : Act) (w : World), listed.size = ops.size →
      ((∃ i, i < pre.length ∧ listed.getD i false = false) ∧ (∀ i, pre.length ≤ i → listed.getD i false = false) ∧
          (∀ j oj k, pre[j]? = some oj → listed.getD j false = true → behind oj k = true → listed.getD k false = true) ∧
          (listed.toList.filter (!·)).length ≤ fuel ∧ At E (envOf (fun i => listed.getD i false) 0 pre plan env0) (ownOf (fun i => listed.getD i false) 0 plan own0) a w) ∨
      (∃ k, k ≤ suf.length ∧ (∀ i, i < pre.length + k → listed.getD i false = true) ∧ (∀ i, pre.length + k ≤ i → listed.getD i false = false) ∧ suf.length - k ≤ fuel ∧ wpList E.P ops (KK E s) (suf.drop k) a w) →
      wpAny E.P .any ops (KK E s) fuel listed a w := by
  have hget : ∀ i : Nat, ops[i]? = (pre ++ suf)[i]? := fun i => by rw [← hops]; simp
  have hsize : ops.size = pre.length + suf.length := by rw [← Array.length_toList, hops, List.length_append]
  have hd : ∀ (listed : Array Bool) (i : Nat), listed.size = ops.size → i < ops.size → listed.getD i true = listed.getD i false := by
    intro listed i h1 h2
    simp [h1, h2]
  -- the second phase
  have second : ∀ (fuel : Nat) (listed : Array Bool) (a : Act) (w : World) (k : Nat), listed.size = ops.size → k ≤ suf.length → (∀ i, i < pre.length + k → listed.getD i false = true) →
      (∀ i, pre.length + k ≤ i → listed.getD i false = false) → suf.length - k ≤ fuel → wpList E.P ops (KK E s) (suf.drop k) a w → wpAny E.P .any ops (KK E s) fuel listed a w := by
    intro fuel
    induction fuel with
    | zero =>
      intro listed a w k hls hk h1 h2 hf hw
      have hkk : k = suf.length := by omega
      subst hkk
      rw [List.drop_length] at hw
      refine ⟨?_, hw⟩
      apply List.eq_nil_iff_forall_not_mem.2
      intro j hj
      obtain ⟨hj1, o, ho, _⟩ := ready_iff.1 hj
      have hlt : j < ops.size := (Array.getElem?_eq_some_iff.1 ho).1
      rw [hd listed j hls hlt, h1 j (by omega)] at hj1
      cases hj1
    | succ fuel ih =>
      intro listed a w k hls hk h1 h2 hf hw
      by_cases hke : k = suf.length
      · subst hke
        rw [List.drop_length] at hw
        have hr : Region.ready .any ops listed = [] := by
          apply List.eq_nil_iff_forall_not_mem.2
          intro j hj
          obtain ⟨hj1, o, ho, _⟩ := ready_iff.1 hj
          have hlt : j < ops.size := (Array.getElem?_eq_some_iff.1 ho).1
          rw [hd listed j hls hlt, h1 j (by omega)] at hj1
          cases hj1
        exact ⟨fun _ => hw, by rw [hr]; simp⟩
      · have hlt : k < suf.length := by omega
        have hok : suf[k]? = some suf[k] := List.getElem?_eq_getElem hlt
        have hdk : suf.drop k = suf[k] :: suf.drop (k + 1) := List.drop_eq_getElem_cons hlt
        have hop : ops[pre.length + k]? = some suf[k] := by
          rw [hget, List.getElem?_append_right (by omega)]
          simp
        have hready : ∀ j, j ∈ Region.ready .any ops listed ↔ j = pre.length + k := by
          intro j
          rw [ready_iff]
          constructor
          · rintro ⟨hj1, o, ho, hb⟩
            have hjl : j < ops.size := (Array.getElem?_eq_some_iff.1 ho).1
            rw [hd listed j hls hjl] at hj1
            have hjge : pre.length + k ≤ j := by
              rcases Nat.lt_or_ge j (pre.length + k) with h | h
              · rw [h1 j h] at hj1; cases hj1
              · exact h
            rcases Nat.lt_or_ge (pre.length + k) j with h | h
            · exfalso
              have hoj0 : (pre ++ suf)[j]? = some o := by rw [← hget]; exact ho
              have := reach_listed (get := fun i => (pre ++ suf)[i]?) (L := fun i => listed.getD i false) (fun i o k' hi hL hb' => h1 k' (by
                have hlt' := aheadOk_spec (pre ++ suf) 0 i o hah hi k' hb'
                rcases Nat.lt_or_ge i (pre.length + k) with h' | h'
                · omega
                · simp only [h2 i h'] at hL
                  cases hL)) (sufOk_spec hsuf hoj0 (by omega) h) (fun o' ho' k' hk' => by
                rw [hoj0] at ho'
                cases ho'
                exact hb k' hk')
              simp only [h2 _ (Nat.le_refl _)] at this
              cases this
            · omega
          · rintro rfl
            have hjl : pre.length + k < ops.size := by omega
            refine ⟨by rw [hd listed _ hls hjl]; exact h2 _ (Nat.le_refl _), suf[k], hop, fun j hj => h1 j ?_⟩
            have := aheadOk_spec (pre ++ suf) 0 (pre.length + k) suf[k] hah (by rw [← hget]; exact hop) j hj
            omega
        refine ⟨fun h0 => ?_, fun j hj => ?_⟩
        · have := (hready (pre.length + k)).2 rfl
          rw [h0] at this
          cases this
        · obtain rfl := (hready j).1 hj
          rw [hdk] at hw
          have key : ∀ a w, wpList E.P ops (KK E s) (suf.drop (k + 1)) a w → wpAny E.P .any ops (KK E s) fuel (listed.setIfInBounds (pre.length + k) true) a w := by
            intro a w hw
            refine ih _ a w (k + 1) (by simpa using hls) (by omega) (fun i hi => ?_) (fun i hi => ?_) (by omega) hw
            · by_cases e : i = pre.length + k
              · subst e
                have : pre.length + k < listed.size := by omega
                simp [this]
              · rw [getD_set_ne false (Ne.symm e)]; exact h1 i (by omega)
            · rw [getD_set_ne false (by omega)]; exact h2 i (by omega)
          unfold wpOp
          rw [hop]
          simp only
          unfold wpList at hw
          split
          · rename_i hwant
            rw [if_pos hwant] at hw
            exact hw.imp (Oper.wp_mono key) id
          · rename_i hwant
            rw [if_neg hwant] at hw
            exact key _ _ hw
  intro fuel
  induction fuel with
  | zero =>
    intro listed a w hls h
    rcases h with ⟨⟨i, hi, hli⟩, _, _, hf, _⟩ | ⟨k, hk, h1, h2, hf, hw⟩
    · exfalso
      have hil : i < listed.size := by omega
      have : false ∈ listed.toList := by
        have e : listed.getD i false = listed[i] := by simp [hil]
        rw [e] at hli
        rw [← hli]
        exact Array.mem_toList_iff.2 (Array.getElem_mem hil)
      have hm : false ∈ listed.toList.filter (!·) := List.mem_filter.2 ⟨this, rfl⟩
      have := List.length_pos_of_mem hm
      omega
    · exact second 0 listed a w k hls hk h1 h2 hf hw
  | succ fuel ih =>
    intro listed a w hls h
    rcases h with ⟨⟨i, hi, hli⟩, hsf, hcl, hf, hat⟩ | ⟨k, hk, h1, h2, hf, hw⟩
    · -- the first phase
      -- the least that is left may come
      have hleast : ∃ m, m < pre.length ∧ listed.getD m false = false ∧ ∀ j, j < m → listed.getD j false = true := by
        have : ∀ n, n ≤ pre.length → (∀ j, j < n → listed.getD j false = true) ∨ ∃ m, m < n ∧ listed.getD m false = false ∧ ∀ j, j < m → listed.getD j false = true := by
          intro n
          induction n with
          | zero => intro _; exact .inl fun j hj => absurd hj (Nat.not_lt_zero j)
          | succ n ihn =>
            intro hn
            rcases ihn (by omega) with h | ⟨m, hm, h1, h2⟩
            · cases hc : listed.getD n false with
              | true =>
                refine .inl fun j hj => ?_
                rcases Nat.lt_or_ge j n with h' | h'
                · exact h j h'
                · have : j = n := by omega
                  subst this
                  exact hc
              | false => exact .inr ⟨n, by omega, hc, h⟩
            · exact .inr ⟨m, by omega, h1, h2⟩
        rcases this pre.length (Nat.le_refl _) with h | ⟨m, hm, h1, h2⟩
        · rw [h i hi] at hli; cases hli
        · exact ⟨m, hm, h1, h2⟩
      obtain ⟨m, hm, hlm, hbm⟩ := hleast
      have hom : ops[m]? = some pre[m] := by
        rw [hget, List.getElem?_append_left hm]
        exact List.getElem?_eq_getElem hm
      have hmr : m ∈ Region.ready .any ops listed := by
        refine ready_iff.2 ⟨by rw [hd listed m hls (by omega)]; exact hlm, pre[m], hom, fun j hj => hbm j ?_⟩
        have := aheadOk_spec (pre ++ suf) 0 m pre[m] hah (by rw [← hget]; exact hom) j hj
        omega
      refine ⟨fun h0 => (by rw [h0] at hmr; cases hmr), fun j hj => ?_⟩
      obtain ⟨hj1, o, ho, hb⟩ := ready_iff.1 hj
      have hjl : j < ops.size := (Array.getElem?_eq_some_iff.1 ho).1
      rw [hd listed j hls hjl] at hj1
      have hjp : j < pre.length := by
        rcases Nat.lt_or_ge j pre.length with h | h
        · exact h
        · exfalso
          have hoj0 : (pre ++ suf)[j]? = some o := by rw [← hget]; exact ho
          have := reach_listed (get := fun i => (pre ++ suf)[i]?) (L := fun i => listed.getD i false) (fun i o k' hi hL hb' => by
            rcases Nat.lt_or_ge i pre.length with h' | h'
            · rw [List.getElem?_append_left h'] at hi
              exact hcl i o k' hi hL hb'
            · simp only [hsf i h'] at hL
              cases hL) (sufOk_spec hsuf hoj0 h (show m < j by omega)) (fun o' ho' k' hk' => by
            rw [hoj0] at ho'
            cases ho'
            exact hb k' hk')
          simp only [hlm] at this
          cases this
      have hoj : pre[j]? = some o := by
        rw [hget, List.getElem?_append_left hjp] at ho
        exact ho
      have hpj : plan[j]? = some plan[j] := List.getElem?_eq_getElem (by omega)
      have hc := cert j o plan[j] hoj hpj (fun i => listed.getD i false) hj1 hb hcl a w hat
      refine wpOp_mono (fun a' w' hat' => ?_) hc
      have hsel : ∀ i, i < pre.length → (listed.setIfInBounds j true).getD i false = add (fun i => listed.getD i false) j i := by
        intro i hip
        by_cases e : i = j
        · subst e
          have : i < listed.size := by omega
          simp [this, add]
        · rw [getD_set_ne false (Ne.symm e)]
          have : Nat.beq i j = false := by
            cases hb : Nat.beq i j with
            | false => rfl
            | true => exact absurd (beq_true hb) e
          simp [add, this]
      have hat2 : At E (envOf (fun i => (listed.setIfInBounds j true).getD i false) 0 pre plan env0) (ownOf (fun i => (listed.setIfInBounds j true).getD i false) 0 plan own0) a' w' := by
        rw [envOf_congr (sel' := add (fun i => listed.getD i false) j) pre plan 0 env0 (fun i _ hi => hsel i (by omega)), ownOf_congr (sel' := add (fun i => listed.getD i false) j) hsel plan 0 own0 htil (by omega)]
        refine at_le hat' ?_ fun _ _ h => h
        have := envOf_add (sel := fun i => listed.getD i false) pre plan 0 j env0 o plan[j] hdst hoj hpj
        rw [Nat.zero_add] at this
        exact this
      have hcount : ((listed.setIfInBounds j true).toList.filter (!·)).length ≤ fuel := by
        have hjls : j < listed.toList.length := by simpa using (by omega : j < listed.size)
        have e1 : (listed.setIfInBounds j true).toList = listed.toList.set j true := by simp
        have e2 : listed.toList = listed.toList.take j ++ listed.toList[j] :: listed.toList.drop (j + 1) := by
          rw [← List.drop_eq_getElem_cons hjls, List.take_append_drop]
        have e3 : listed.toList.set j true = listed.toList.take j ++ true :: listed.toList.drop (j + 1) := List.set_eq_take_append_cons_drop.trans (if_pos hjls)
        have e4 : listed.toList[j] = false := by
          have : listed.getD j false = listed[j]'(by omega) := by simp [show j < listed.size by omega]
          rw [this] at hj1
          simpa using hj1
        rw [e1, e3]
        rw [e2, e4] at hf
        simp only [List.filter_append, List.filter_cons, List.length_append] at hf ⊢
        simp at hf ⊢
        omega
      refine ih _ a' w' (by simpa using hls) ?_
      by_cases hall : ∃ i, i < pre.length ∧ (listed.setIfInBounds j true).getD i false = false
      · refine .inl ⟨hall, fun i hi => by rw [getD_set_ne false (by omega)]; exact hsf i hi, fun i oi k hoi hli hk => ?_, hcount, hat2⟩
        by_cases e : i = j
        · subst e
          rw [hoj] at hoi
          cases hoi
          exact getD_set_true (hb k hk)
        · rw [getD_set_ne false (Ne.symm e)] at hli
          exact getD_set_true (hcl i oi k hoi hli hk)
      · refine .inr ⟨0, Nat.zero_le _, fun i hi => ?_, fun i hi => by rw [getD_set_ne false (by omega)]; exact hsf i (by omega), ?_, ?_⟩
        · cases hc : (listed.setIfInBounds j true).getD i false with
          | true => rfl
          | false => exact absurd ⟨i, by omega, hc⟩ hall
        · -- all that is left are those behind
          have hle : suf.length ≤ ((listed.setIfInBounds j true).toList.filter (!·)).length := by
            have e5 : (listed.setIfInBounds j true).toList.drop pre.length = List.replicate suf.length false := by
              apply List.ext_getElem?
              intro i
              rw [List.getElem?_drop, List.getElem?_replicate]
              by_cases hi : i < suf.length
              · rw [if_pos hi]
                have hlt : pre.length + i < (listed.setIfInBounds j true).size := by simp; omega
                have : (listed.setIfInBounds j true).getD (pre.length + i) false = false := by
                  rw [getD_set_ne false (by omega)]; exact hsf _ (by omega)
                rw [Array.getElem?_toList, Array.getElem?_eq_getElem hlt]
                have e6 : (listed.setIfInBounds j true).getD (pre.length + i) false = (listed.setIfInBounds j true)[pre.length + i] := by
                  rw [Array.getD_eq_getD_getElem?, Array.getElem?_eq_getElem hlt]; rfl
                rw [← e6, this]
              · rw [if_neg hi]
                apply List.getElem?_eq_none
                simp
                omega
            have e7 : ((listed.setIfInBounds j true).toList.filter (!·)).length = (((listed.setIfInBounds j true).toList.take pre.length).filter (!·)).length + (((listed.setIfInBounds j true).toList.drop pre.length).filter (!·)).length := by
              rw [← List.length_append, ← List.filter_append, List.take_append_drop]
            rw [e7, e5]
            simp
          omega
        · refine hS a' w' ?_
          rw [envOf_congr (sel' := fun i => (listed.setIfInBounds j true).getD i false) pre plan 0 env0 (fun i _ hi => ?_), ownOf_congr (sel' := fun i => (listed.setIfInBounds j true).getD i false) (N := pre.length) (fun i hi => ?_) plan 0 own0 htil (by omega)]
          · exact hat2
          · cases hc : (listed.setIfInBounds j true).getD i false with
            | true => rfl
            | false => exact absurd ⟨i, by omega, hc⟩ hall
          · cases hc : (listed.setIfInBounds j true).getD i false with
            | true => rfl
            | false => exact absurd ⟨i, by omega, hc⟩ hall
    · exact second (fuel + 1) listed a w k hls hk h1 h2 hf hw

end Go.Eng
/- The proof engine, part 16: a plan for a region whose order is drawn, reckoned. -/
namespace Go.Eng

inductive Ans where
  | sv (s : SV)
  | yes
  | no
  | val (s : SV)
  | gro (s : SV)
  | tok (sz : Nat) (rows : List (List DV)) (til : Option Nat)
  | use (k sz : Nat) (rows : List (List DV))
  | eat (k sz : Nat) (rows : List (List DV)) (til : Option Nat)
  | eatc (k sz : Nat) (rows : List (List DV)) (til : Option Nat)
  | met (k : Nat) (so : SO) (s : SV)
  | put (k : Nat) (so : SO)
  | forget
  | late (til : Nat)
  | set (b : Nat) (cs : List SV)

inductive PlanR where
  | ok (plan : List PE) (env : List (Nat × SV)) (own : List (Nat × SO)) (ob : List Prop)
  | stuck (i : Nat)

section
variable {α : Type}

def putK (dst : Option Nat) (s : SV) (env : List (Nat × SV)) (k : List (Nat × SV) → α) : α :=
  match dst with
  | some d => k ((d, s) :: env)
  | none => k env
theorem putK_eq (dst : Option Nat) (s : SV) (env : List (Nat × SV)) (k : List (Nat × SV) → α) : putK dst s env k = k (put dst s env) := by cases dst <;> rfl

def envOfK (sel : Nat → Bool) : Nat → List Oper → List PE → List (Nat × SV) → (List (Nat × SV) → α) → α
  | i, o :: os, p :: ps, env, k => envOfK sel (i + 1) os ps env fun r => match p with
    | ⟨s, _, _, _, _⟩ => bif sel i then putK o.dst s r k else putK o.dst .any r k
  | i, o :: os, [], env, k => envOfK sel (i + 1) os [] env fun r => putK o.dst .any r k
  | _, [], _, env, k => k env
theorem envOfK_eq (sel : Nat → Bool) : ∀ (i : Nat) (os : List Oper) (ps : List PE) (env : List (Nat × SV)) (k : List (Nat × SV) → α), envOfK sel i os ps env k = k (envOf sel i os ps env)
  | i, o :: os, p :: ps, env, k => by
    simp only [envOfK, envOf, envOfK_eq sel (i + 1) os ps, putK_eq]
    cases sel i <;> rfl
  | i, o :: os, [], env, k => by simp only [envOfK, envOf, envOfK_eq sel (i + 1) os [], putK_eq]
  | _, [], _, _, _ => by simp [envOfK, envOf]

def ownOfK : List PE → List (Nat × SO) → (List (Nat × SO) → α) → α
  | ⟨_, l, t, e, _⟩ :: ps, own, k => match e with
    | some j => rm1K j own fun own => ownOfK ps own fun r => match t, l with
      | some _, _ => k r
      | none, [x] => k (x :: r)
      | none, l => k (l ++ r)
    | none => ownOfK ps own fun r => match t, l with
      | some _, _ => k r
      | none, [x] => k (x :: r)
      | none, l => k (l ++ r)
  | [], own, k => k own
theorem ownOfK_eq : ∀ (i : Nat) (ps : List PE) (own : List (Nat × SO)) (k : List (Nat × SO) → α), ownOfK ps own k = k (ownOf (fun _ => true) i ps own)
  | i, ⟨s, l, t, e, _⟩ :: ps, own, k => by
    cases e with
    | some j =>
      simp only [ownOfK, rm1K_eq, ownOf, ownOfK_eq (i + 1) ps, cond_true, eatO]
      cases t with
      | some j => rfl
      | none => match l with
        | [] => rfl
        | [x] => rfl
        | x :: y :: l => rfl
    | none =>
      simp only [ownOfK, ownOf, ownOfK_eq (i + 1) ps, cond_true, eatO]
      cases t with
      | some j => rfl
      | none => match l with
        | [] => rfl
        | [x] => rfl
        | x :: y :: l => rfl
  | _, [], _, _ => rfl

def appK (ps : List PE) (p : PE) (k : List PE → α) : α :=
  match ps with
  | [] => k [p]
  | x :: xs => appK xs p fun r => k (x :: r)
theorem appK_eq (p : PE) : ∀ (ps : List PE) (k : List PE → α), appK ps p k = k (ps ++ [p])
  | [], _ => rfl
  | x :: xs, k => by simp only [appK, appK_eq p xs, List.cons_append]

def ansK (i : Nat) (k : Ans → α) (f : α) : List (Nat × Ans) → α
  | [] => f
  | (j, a) :: l => bif Nat.beq j i then k a else ansK i k f l
def ansq (i : Nat) : List (Nat × Ans) → Option Ans
  | [] => none
  | (j, a) :: l => bif Nat.beq j i then some a else ansq i l
theorem ansK_eq (i : Nat) (k : Ans → α) (f : α) : ∀ l, ansK i k f l = match ansq i l with | some a => k a | none => f
  | [] => rfl
  | (j, a) :: l => by
    simp only [ansK, ansq]
    cases Nat.beq j i with
    | true => rfl
    | false => exact ansK_eq i k f l
def ansSv (a : Option Ans) (k : SV → α) (f : α) : α :=
  match a with
  | some (.sv s) => k s
  | _ => f
def ansBl (a : Option Ans) (v : SV) (k : α) (ky kn : Bool → α) (f : α) : α :=
  match a, v with
  | none, _ => k
  | some .yes, .bl c => ky c
  | some .no, .bl c => kn c
  | _, _ => f
def ansqK (i : Nat) (l : List (Nat × Ans)) (k : Option Ans → α) : α := ansK i (fun a => k (some a)) (k none) l
theorem ansqK_eq (i : Nat) (l : List (Nat × Ans)) (k : Option Ans → α) : ansqK i l k = k (ansq i l) := by
  unfold ansqK
  rw [ansK_eq]
  cases ansq i l <;> rfl
end

/-- The block that an operation makes. -/
def newOfK {α : Type} (T : Nat → TI) (o : Op) (env : List (Nat × SV)) (k : Nat → List SV → α) (f : α) : α :=
  match o with
  | .alloc t => match (T t).kd, (T t).zok with
    | .other, _ => f
    | _, true => constsK (T t).zero fun cs => bif SV.ones cs then k t cs else f
    | _, _ => f
  | .box t x => evK env x fun s => cellsK s (fun cs => k t cs) f
  | _ => f

/-- A new block, whose cells are told. -/
theorem Dn.new' {cx : Cx} {g : Nat → Value} {H : Hp} {env : List (Nat × SV)} {own : List (Nat × SO)} {n : Nat} {tmps : Array Value} {w : World} {k t : Nat} {cs : List SV} {vs : List Value}
    (h : Dn cx g H env own n tmps w) (hm : cx.m0 ≤ k) (hcs : SV.noKs k cs = true) (hE : freshE k env = true) (hO : freshO k own = true) (hd : Dens g H cs vs) (h1 : ∀ v ∈ vs, v.oneCell' = true) :
    Dn cx (upd g k (.pointer (some ⟨w.heap.size, 0, none⟩))) H env ((k, .cells t cs) :: own) n tmps (w.alloc (.cells vs.toArray t)) := by
  have hne : ∀ i, i ≠ k → upd g k (.pointer (some ⟨w.heap.size, 0, none⟩)) i = g i := fun i hi => upd_ne _ _ _ i hi
  have h' := h.grown (w' := w.alloc (.cells vs.toArray t)) rfl rfl rfl (by simp) (fun b hb => heap_alloc_lt w _ hb)
  refine { size := h.size, den := fun x => Den.upd hne _ _ (freshE_nth x hE) (h.den x), ok := fun j o hj => ?_, inj := fun i j hi hj b hbi hbj => ?_, hp := h'.hp, base := { h'.base with fix := fun j hj => by rw [hne j (by omega)]; exact h.base.fix j hj } }
  · simp only [ownq] at hj
    cases hb : Nat.beq k j with
    | true =>
      have := beq_true hb
      subst this
      simp only [hb, cond_true, Option.some.injEq] at hj
      subst hj
      exact ⟨w.heap.size, vs, upd_same _ _ _, Dens.upd hne cs vs hcs hd, h1, heap_alloc_new w _, fun o => Hp.on_new h.hp o, .inl h.base.size⟩
    | false =>
      simp only [hb, cond_false] at hj
      exact (h'.ok j o hj).upd (freshO_own hO hj)
  · have key : ∀ j b, (ownq ((k, SO.cells t cs) :: own) j).isSome = true → blkOf (upd g k (.pointer (some ⟨w.heap.size, 0, none⟩)) j) = some b → (j = k ∧ b = w.heap.size) ∨ (j ≠ k ∧ (ownq own j).isSome = true ∧ blkOf (g j) = some b ∧ b < w.heap.size) := by
      intro j b hj hb
      by_cases hjk : j = k
      · subst hjk
        rw [upd_same] at hb
        simp only [blkOf, Option.some.injEq] at hb
        exact .inl ⟨rfl, hb.symm⟩
      · have hbf : Nat.beq k j = false := by
          cases hb' : Nat.beq k j with
          | false => rfl
          | true => exact absurd (beq_true hb').symm hjk
        simp only [ownq, hbf, cond_false] at hj
        rw [hne j hjk] at hb
        cases ho : ownq own j with
        | none => rw [ho] at hj; simp at hj
        | some o => exact .inr ⟨hjk, by rw [ho] at hj; exact hj, hb, (h.ok j o ho).blk_lt hb⟩
    rcases key i b hi hbi with ⟨e1, e2⟩ | ⟨n1, o1, b1, l1⟩ <;> rcases key j b hj hbj with ⟨e3, e4⟩ | ⟨n2, o2, b2, l2⟩
    · rw [e1, e3]
    · omega
    · omega
    · exact h.inj i j o1 o2 b b1 b2

theorem Dens.anys {g : Nat → Value} {H : Hp} : ∀ (vs : List Value), Dens g H (List.replicate vs.length .any) vs
  | [] => trivial
  | _ :: vs => ⟨trivial, Dens.anys vs⟩

/-- A writing into a block that nobody else touches meanwhile. -/
def DoesW (P : Program) (o : Oper) (env : List (Nat × SV)) (own : List (Nat × SO)) (k ty : Nat) (old new : List SV) : Prop :=
  ∀ (cx : Cx) (g : Nat → Value) (H : Hp) (n : Nat) (own' : List (Nat × SO)) (env' : List (Nat × SV)) (a : Act) (w : World), Dn cx g H env own n a.tmps w → Dn cx g H env' own' n a.tmps w → ownq own' k = some (.cells ty old) →
    ∃ w', (execOp a.eval o).run P w = .ok .skip w' ∧ Dn cx g H env' (setOwn k (.cells ty new) own') n a.tmps w'

theorem doesW_store {P : Program} {env : List (Nat × SV)} {own : List (Nat × SO)} {o : Oper} {t k off ty : Nat} {x y : Operand} {cs new : List SV} (ho : o.op = .store t x y) (hx : ev env x = .ptr k off)
    (hy : cellsOf (ev env y) = some new) (hs : (tiOf P t).kd ≠ .other) (hl : new.length = (tiOf P t).size) (hf : off + new.length ≤ cs.length) :
    DoesW P o env own k ty cs (splice new off cs) := by
  intro cx g H n own' env' a w hd hd' hk
  obtain ⟨b, vs, hg, hv, hw, hone⟩ := hd'.cells hk
  have hp := hd.ev x
  rw [hx] at hp
  obtain ⟨b', hg', he⟩ := hp
  have : b' = b := by rw [hg] at hg'; simpa using hg'.symm
  subst this
  obtain ⟨i, d, hsp⟩ := ti_spec hs
  have hn := cellsOf_den hy (hd.ev y)
  have hn1 := cellsOf_ones hy
  refine ⟨_, ?_, hd'.write hk hg (hn.splice (off := off) hv) ?_⟩
  · have hlen := hn.length
    have hlen2 := hv.length
    have := run_storeCells_at (P := P) b' off ty (a.eval y).cells.toList 0 vs.toArray w hw (by simp only [Nat.add_zero, List.size_toArray]; omega) (hn.oneCells hn1)
    have hsz : ((a.eval y).cells.size ≠ i.size) = False := by
      rw [hsp.size] at hl
      rw [← Array.length_toList, hlen, hl]
      simp
    simp only [Nat.add_zero] at this
    simp [execOp, ho, Instr.storeAt, Instr.sureAddr, he, storeVar, run_sizeOf' hsp.info, hsz, this, splice]
  · intro v hv'
    unfold Eng.splice at hv'
    rcases List.mem_append.1 hv' with hv' | hv'
    · rcases List.mem_append.1 hv' with hv' | hv'
      · exact hone v (List.mem_of_mem_take hv')
      · exact hn.oneCells hn1 v hv'
    · exact hone v (List.mem_of_mem_drop hv')

/-- A call that may write one of the own blocks, which nobody else touches meanwhile. -/
def DoesM (P : Program) (o : Oper) (env : List (Nat × SV)) (own : List (Nat × SO)) (k : Nat) (so so' : SO) (v : SV) : Prop :=
  ∀ (cx : Cx) (g : Nat → Value) (H : Hp) (n : Nat) (own' : List (Nat × SO)) (env' : List (Nat × SV)) (a : Act) (w : World), Dn cx g H env own n a.tmps w → Dn cx g H env' own' n a.tmps w → ownq own' k = some so →
    ∃ f vs, (execOp a.eval o).run P w = .ok (.enter f vs) w ∧ Calls P f vs w fun e w' => match e with
      | .returned x => ∃ H', Den g H' v x ∧ Dn cx g H' env' (setOwn k so' own') n a.tmps w'
      | _ => False

/-- A call that uses up a token, and hands back another one. -/
def DoesC (P : Program) (o : Oper) (env : List (Nat × SV)) (own : List (Nat × SO)) (k sz : Nat) (rows : List (List DV)) : Prop :=
  ∀ (cx : Cx) (g : Nat → Value) (H : Hp) (n : Nat) (own' own2 : List (Nat × SO)) (env' : List (Nat × SV)) (a : Act) (w : World), Dn cx g H env own n a.tmps w → Dn cx g H env' own' n a.tmps w → ownq own' k = some (.tok sz) → lessO k own' own2 →
    ∃ f vs, (execOp a.eval o).run P w = .ok (.enter f vs) w ∧ Calls P f vs w fun e w' => match e with
      | .returned x => ∃ H', DenD H' (.lst sz rows) x ∧ Dn cx g H' env' own2 n a.tmps w' ∧ Spare w' H' sz x (fun b => cx.mine b ∧ ∀ j o, ownq own2 j = some o → blkOf (g j) ≠ some b)
      | _ => False

theorem doesC_call {P : Program} {o : Oper} {env : List (Nat × SV)} {own : List (Nat × SO)} {k sz f : Nat} {rows : List (List DV)} {args : List SV} (hC : Contract P f 1 [(0, .tok sz)] args fun s post => s = .gl 1 sz rows ∧ post = [(1, .tok sz)]) (hc : callK o.op env (fun f l => some (f, l)) none = some (f, rens (fun _ => k) args)) : DoesC P o env own k sz rows := by
  intro cx g H n own' own2 env' a w hd hd' hk hless
  obtain ⟨vs, hv, hr⟩ := run_call (P := P) hd hC.1 hc
  refine ⟨f, vs.toArray, hr, ?_⟩
  have hpre : pres (fun _ => k) own' [(0, .tok sz)] := ⟨hk, trivial⟩
  have hv' : Dens (fun j => g ((fun _ => k) j)) H args vs := Dens.unren (g' := g) (r := fun _ => k) (fun _ => rfl) args vs hv
  have key : ∀ i, (ownq [(0, SO.tok sz)] i).isSome = true → i = 0 := by
    intro i hi
    cases i with
    | zero => rfl
    | succ i => exact absurd hi (by show ¬ (false = true); simp)
  have hok : ∀ j o, ownq [(0, SO.tok sz)] j = some o → OwnOk (fun _ => True) (fun _ => g k) H w j o := by
    intro j o hj
    have h0 := key j (by rw [hj]; rfl)
    subst h0
    have e : SO.tok sz = o := by simpa [ownq] using hj
    subst e
    obtain ⟨ad, q, c, e, q1, hle, q2⟩ := hd'.ok k _ hk
    refine ⟨ad, q, c, e, q1, hle, fun p hpa hlt => ?_⟩
    obtain ⟨q3, _, q5⟩ := q2 p hpa hlt
    exact ⟨q3, trivial, q5⟩
  have hinj : InjOn (fun _ => g k) [(0, SO.tok sz)] := by
    intro i j hi hj _ _ _
    rw [key i hi, key j hj]
  have hcall := hC.2 (fun _ => g k) H w vs hd'.hp hok hinj hv'
  refine hcall.mono fun e w' he => ?_
  cases e with
  | panicked c => exact he.elim
  | outgrown => exact he.elim
  | returned x =>
    obtain ⟨g', H', sv, post, ⟨rfl, rfl⟩, hx, hok', _, hon, hb⟩ := he
    obtain ⟨hd2, hother⟩ := hd'.left (r := fun _ => k) (own2 := own2) hpre hb hon (fun j o hj => ⟨(hless j o hj).2, fun i _ => (hless j o hj).1⟩)
    obtain ⟨hx1, hx2⟩ := hx
    obtain ⟨ad, q, c, e, q1, hle, q2⟩ := hok' 1 (.tok sz) rfl
    rw [← hx2] at e
    refine ⟨H', hx1, hd2, ad, q, c, e, q1, hle, fun p hpa hlt => ?_⟩
    obtain ⟨q3, q4, q5⟩ := q2 p hpa hlt
    exact ⟨q3, hother _ q4, q5⟩

theorem doesM_call {P : Program} {o : Oper} {env : List (Nat × SV)} {own : List (Nat × SO)} {k f : Nat} {so so' : SO} {v : SV} {args : List SV} (hC : Contract P f 1 [(0, so)] args fun s post => s = v ∧ post = [(0, so')]) (hc : callK o.op env (fun f l => some (f, l)) none = some (f, rens (fun _ => k) args))
    (h1 : v.lt 1 = true := by rfl) (h2 : cellsLt 1 [(0, so')] = true := by rfl) (h3 : ren (fun _ => k) v = v := by rfl) (h4 : renO (fun _ => k) so = so := by rfl) (h5 : renO (fun _ => k) so' = so' := by rfl) : DoesM P o env own k so so' v := by
  intro cx g H n own' env' a w hd hd' hk
  obtain ⟨vs, hv, hr⟩ := run_call (P := P) hd hC.1 hc
  have hpre : pres (fun _ => k) own' [(0, so)] := ⟨by rw [h4]; exact hk, trivial⟩
  have hv' : Dens (fun j => g ((fun _ => k) j)) H args vs := Dens.unren (g' := g) (r := fun _ => k) (fun _ => rfl) args vs hv
  have key : ∀ i, (ownq [(0, so)] i).isSome = true → i = 0 := by
    intro i hi
    cases i with
    | zero => rfl
    | succ i => exact absurd hi (by show ¬ (false = true); simp)
  have hok : ∀ j o, ownq [(0, so)] j = some o → OwnOk (fun _ => True) (fun _ => g k) H w j o := by
    intro j o hj
    have h0 := key j (by rw [hj]; rfl)
    subst h0
    have e : so = o := by simpa [ownq] using hj
    subst e
    have := hd'.ok k _ hk
    cases so with
    | cells ty cs =>
      obtain ⟨b, ws, e, q1, q2, q3, q4, q5⟩ := this
      simp only [renO, SO.cells.injEq, true_and] at h4
      exact ⟨b, ws, e, Dens.unren (g' := g) (r := fun _ => k) (fun _ => rfl) cs ws (by rw [h4]; exact q1), q2, q3, q4, trivial⟩
    | tok sz =>
      obtain ⟨ad, q, c, e, q1, hle, q2⟩ := this
      refine ⟨ad, q, c, e, q1, hle, fun p hpa hlt => ?_⟩
      obtain ⟨q3, _, q5⟩ := q2 p hpa hlt
      exact ⟨q3, trivial, q5⟩
    | obj q =>
      obtain ⟨r, o, e, q1, q2, q3, _⟩ := this
      exact ⟨r, o, e, q1, q2, q3, trivial⟩
    | buf rw nn =>
      rcases this with ⟨ty, b, ws, e, q1, q2, q3, q4, q5⟩ | ⟨e, q1⟩
      · exact .inl ⟨ty, b, ws, e, Dens.plain g _ H rw nn ws q1, q2, q3, q4, trivial⟩
      · exact .inr ⟨e, q1⟩
  have hinj : InjOn (fun _ => g k) [(0, so)] := by
    intro i j hi hj _ _ _
    rw [key i hi, key j hj]
  have hcall := hC.2 (fun _ => g k) H w vs hd'.hp hok hinj hv'
  refine ⟨f, vs.toArray, hr, hcall.mono fun e w' he => ?_⟩
  cases e with
  | panicked c => exact he.elim
  | outgrown => exact he.elim
  | returned x =>
    obtain ⟨sv, post, ⟨rfl, rfl⟩, hb⟩ := hd'.called (r := fun _ => k) hpre (fun k hk => by
      obtain rfl : k = 0 := by omega
      rfl) he
    obtain ⟨H', hv2, hd2⟩ := hb h1 h2 rfl
    rw [h3] at hv2
    refine ⟨H', hv2, ?_⟩
    simp only [posts, h5] at hd2
    exact hd2

/-- What is written is forgotten at once. -/
theorem doesW_any {P : Program} {env : List (Nat × SV)} {own : List (Nat × SO)} {o : Oper} {t k off ty m : Nat} {x y : Operand} {new : List SV} (ho : o.op = .store t x y) (hx : ev env x = .ptr k off)
    (hy : cellsOf (ev env y) = some new) (hs : (tiOf P t).kd ≠ .other) (hl : new.length = (tiOf P t).size) (hf : off + new.length ≤ m) :
    DoesW P o env own k ty (anys m) (anys m) := by
  intro cx g H n own' env' a w hd hd' hk
  obtain ⟨w', hr, hd2⟩ := doesW_store (P := P) (ty := ty) ho hx hy hs hl (by simpa [anys] using hf : off + new.length ≤ (anys m).length) cx g H n own' env' a w hd hd' hk
  refine ⟨w', hr, ?_⟩
  have hk2 : ownq (setOwn k (.cells ty (splice new off (anys m))) own') k = some (.cells ty (splice new off (anys m))) := by rw [ownq_setOwn, if_pos rfl, hk]; rfl
  obtain ⟨b, vs, e, hv, hone, hw, hH, hm⟩ := hd2.ok k _ hk2
  have hlen : vs.length = m := by
    rw [hv.length, splice_length (by simpa [anys] using hf)]
    simp [anys]
  have hd3 := hd2.write (new := anys m) hk2 e (by have := Dens.anys (g := g) (H := H) vs; rw [hlen] at this; exact this) hone
  rw [setRow_self w' b vs.toArray ty (0, 0) hw] at hd3
  refine hd3.le' (fun j o hj => ?_)
  rw [ownq_setOwn] at hj ⊢
  by_cases hjk : j = k
  · subst hjk
    rw [if_pos rfl, hk] at hj
    rw [if_pos rfl, hk2]
    exact hj
  · rw [if_neg hjk] at hj ⊢
    rw [ownq_setOwn, if_neg hjk]
    exact hj

/-- Whether a part makes a block whose cells are forgotten. -/
def isAnyP (b : Nat) : PE → Option (Nat × Nat)
  | ⟨.ptr c 0, [(d, .cells t cs)], none, none, false⟩ => bif Nat.beq b c && (Nat.beq b d && cs.all isAny) then some (t, cs.length) else none
  | _ => none
/-- Which part made it. -/
def anyAt (b : Nat) (o : Oper) : Nat → List PE → Option (Nat × Nat × Nat)
  | _, [] => none
  | j, p :: ps => match isAnyP b p with
    | some (t, m) => bif behind o j then some (j, t, m) else anyAt b o (j + 1) ps
    | none => anyAt b o (j + 1) ps

theorem isAnyP_spec {b : Nat} {p : PE} {t m : Nat} (h : isAnyP b p = some (t, m)) : p = ⟨.ptr b 0, [(b, .cells t (anys m))], none, none, false⟩ := by
  unfold isAnyP at h
  split at h
  · rename_i c d t' cs
    cases hc : (Nat.beq b c && (Nat.beq b d && cs.all isAny)) with
    | false => rw [hc] at h; cases h
    | true =>
      rw [hc, cond_true] at h
      simp only [Option.some.injEq, Prod.mk.injEq] at h
      obtain ⟨rfl, rfl⟩ := h
      simp only [Bool.and_eq_true] at hc
      obtain ⟨h1, h2, h3⟩ := hc
      have e : cs = anys cs.length := by
        unfold anys
        exact List.eq_replicate_iff.2 ⟨rfl, fun x hx => isAny_eq (List.all_eq_true.1 h3 x hx)⟩
      rw [← beq_true h1, ← beq_true h2, ← e]
  · cases h

theorem anyAt_spec {b : Nat} {o : Oper} : ∀ (ps : List PE) (j0 : Nat) {j t m : Nat}, anyAt b o j0 ps = some (j, t, m) → j0 ≤ j ∧ ps[j - j0]? = some ⟨.ptr b 0, [(b, .cells t (anys m))], none, none, false⟩ ∧ behind o j = true
  | [], _, _, _, _, h => by simp [anyAt] at h
  | p :: ps, j0, j, t, m, h => by
    have rec' : anyAt b o (j0 + 1) ps = some (j, t, m) → j0 ≤ j ∧ (p :: ps)[j - j0]? = some ⟨.ptr b 0, [(b, .cells t (anys m))], none, none, false⟩ ∧ behind o j = true := by
      intro h
      obtain ⟨h1, h2, h3⟩ := anyAt_spec ps (j0 + 1) h
      refine ⟨by omega, ?_, h3⟩
      rw [show j - j0 = (j - (j0 + 1)) + 1 from by omega]
      simpa using h2
    simp only [anyAt] at h
    cases hp : isAnyP b p with
    | none => rw [hp] at h; exact rec' h
    | some q =>
      obtain ⟨t', m'⟩ := q
      rw [hp] at h
      simp only at h
      cases hb : behind o j0 with
      | false => rw [hb] at h; exact rec' h
      | true =>
        rw [hb, cond_true] at h
        simp only [Option.some.injEq, Prod.mk.injEq] at h
        obtain ⟨rfl, rfl, rfl⟩ := h
        refine ⟨Nat.le_refl _, ?_, hb⟩
        rw [Nat.sub_self, ← isAnyP_spec hp]
        rfl

/-- Which part made the block that is taken over here. -/
def isLateP (b i : Nat) (p : PE) : Option (Nat × List SV) := match p with
  | ⟨.ptr c 0, [(d, .cells ty cs)], some t, none, false⟩ => bif Nat.beq b c && (Nat.beq b d && Nat.beq t i) then some (ty, cs) else none
  | _ => none
def lateAt (b i : Nat) (o : Oper) : Nat → List PE → Option (Nat × Nat × List SV)
  | _, [] => none
  | j, p :: ps => match isLateP b i p with
    | some (t, m) => bif behind o j then some (j, t, m) else lateAt b i o (j + 1) ps
    | none => lateAt b i o (j + 1) ps
theorem isLateP_spec {b i : Nat} {p : PE} {t : Nat} {cs : List SV} (h : isLateP b i p = some (t, cs)) : p = ⟨.ptr b 0, [(b, .cells t cs)], some i, none, false⟩ := by
  unfold isLateP at h
  split at h
  · rename_i c d ty cs' t'
    cases hc : (Nat.beq b c && (Nat.beq b d && Nat.beq t' i)) with
    | false => rw [hc] at h; cases h
    | true =>
      rw [hc, cond_true] at h
      simp only [Option.some.injEq, Prod.mk.injEq] at h
      obtain ⟨rfl, rfl⟩ := h
      simp only [Bool.and_eq_true] at hc
      obtain ⟨h1, h2, h3⟩ := hc
      rw [← beq_true h1, ← beq_true h2, beq_true h3]
  · cases h
theorem lateAt_spec {b i : Nat} {o : Oper} : ∀ (ps : List PE) (j0 : Nat) {j t : Nat} {cs : List SV}, lateAt b i o j0 ps = some (j, t, cs) → j0 ≤ j ∧ ps[j - j0]? = some ⟨.ptr b 0, [(b, .cells t cs)], some i, none, false⟩ ∧ behind o j = true
  | [], _, _, _, _, h => by simp [lateAt] at h
  | p :: ps, j0, j, t, cs, h => by
    have rec' : lateAt b i o (j0 + 1) ps = some (j, t, cs) → j0 ≤ j ∧ (p :: ps)[j - j0]? = some ⟨.ptr b 0, [(b, .cells t cs)], some i, none, false⟩ ∧ behind o j = true := by
      intro h
      obtain ⟨h1, h2, h3⟩ := lateAt_spec ps (j0 + 1) h
      refine ⟨by omega, ?_, h3⟩
      rw [show j - j0 = (j - (j0 + 1)) + 1 from by omega]
      simpa using h2
    simp only [lateAt] at h
    cases hp : isLateP b i p with
    | none => rw [hp] at h; exact rec' h
    | some q =>
      obtain ⟨t', m'⟩ := q
      rw [hp] at h
      simp only at h
      cases hb : behind o j0 with
      | false => rw [hb] at h; exact rec' h
      | true =>
        rw [hb, cond_true] at h
        simp only [Option.some.injEq, Prod.mk.injEq] at h
        obtain ⟨rfl, rfl, rfl⟩ := h
        refine ⟨Nat.le_refl _, ?_, hb⟩
        rw [Nat.sub_self, ← isLateP_spec hp]
        rfl

/-- The same, of whatever is owned. -/
def DoesWS (P : Program) (o : Oper) (env : List (Nat × SV)) (own : List (Nat × SO)) (k : Nat) (old new : SO) : Prop :=
  ∀ (cx : Cx) (g : Nat → Value) (H : Hp) (n : Nat) (own' : List (Nat × SO)) (env' : List (Nat × SV)) (a : Act) (w : World), Dn cx g H env own n a.tmps w → Dn cx g H env' own' n a.tmps w → ownq own' k = some old →
    ∃ w', (execOp a.eval o).run P w = .ok .skip w' ∧ Dn cx g H env' (setOwn k new own') n a.tmps w'

theorem doesWS_buf {P : Program} {o : Oper} {env : List (Nat × SV)} {own : List (Nat × SO)} {k off : Nat} {x : Operand} {rw' rw2 : List (List DV)} {nn n2 : Nat} (hx : ev env x = .ptr k off) (h : ∀ ty, DoesW P o env own k ty (bufC rw' nn) (bufC rw2 n2)) : DoesWS P o env own k (.buf rw' nn) (.buf rw2 n2) := by
  intro cx g H n own' env' a w hd hd' hk
  have hp := hd.ev x
  rw [hx] at hp
  obtain ⟨b, hg, _⟩ := hp
  obtain ⟨ty, hd2⟩ := hd'.openB hk hg
  have hk' : ownq (setOwn k (.cells ty (bufC rw' nn)) own') k = some (.cells ty (bufC rw' nn)) := by rw [ownq_setOwn, if_pos rfl, hk]; rfl
  obtain ⟨w', h1, h2⟩ := h ty cx g H n _ env' a w hd hd2 hk'
  have h3 := h2.closeB (k := k) (ty := ty) (rw' := rw2) (nn := n2) (by rw [ownq_setOwn, if_pos rfl, hk']; rfl)
  rw [setOwn_setOwn, setOwn_setOwn] at h3
  exact ⟨w', h1, h3⟩

def stoK {α : Type} (T : Nat → TI) (t : Nat) (x y : Operand) (env : List (Nat × SV)) (own : List (Nat × SO)) (k : Nat → SO → α) (f : α) : α :=
  evK env x fun s => match s with
    | .ptr b off => ownK b (fun so => match so with
      | .cells ty cs => evK env y fun sv => cellsK sv (fun new => match (T t).kd with
        | .other => f
        | _ => bif Nat.beq new.length (T t).size then spliceK new off cs (fun r => k b (.cells ty r)) f else f) f
      | _ => f) f own
    | _ => f

theorem stoK_out {α : Type} {P : Program} {T : Nat → TI} (hT : ∀ t, T t = tiOf P t) {o : Oper} {t : Nat} {x y : Operand} (ho : o.op = .store t x y) (env : List (Nat × SV)) (own own1 : List (Nat × SO)) (k : Nat → SO → α) (f : α) :
    stoK T t x y env own k f = f ∨ ∃ b old new, stoK T t x y env own k f = k b new ∧ DoesWS P o env own1 b old new ∧ ownq own b = some old ∧ isTok (some old) = false := by
  have hT' : T = tiOf P := funext hT
  subst hT'
  simp only [stoK, evK_eq, ownK_eq, cellsK_eq, spliceK_eq']
  split
  · rename_i b off hx
    cases hk : ownq own b with
    | none => exact .inl rfl
    | some so =>
      cases so with
      | cells ty cs =>
        simp only
        cases hy : cellsOf (ev env y) with
        | none => exact .inl rfl
        | some new =>
          simp only
          split
          · exact .inl rfl
          · rename_i hs
            cases hl : Nat.beq new.length (tiOf P t).size with
            | false => exact .inl rfl
            | true =>
              simp only [cond_true]
              split
              · rename_i hf
                exact .inr ⟨b, .cells ty cs, _, rfl, doesW_store ho hx hy (fun e => hs e) (beq_true hl) hf, hk, rfl⟩
              · exact .inl rfl
      | buf rw nn => exact .inl rfl
      | tok sz => exact .inl rfl
      | obj q => exact .inl rfl
  · exact .inl rfl

/-- Which part made the token that is used up here. -/
def usesAt (k sz i : Nat) (o : Oper) : Nat → List PE → Option Nat
  | _, [] => none
  | j, ⟨_, [(b, .tok c)], some t, _, _⟩ :: ps => bif Nat.beq b k && Nat.beq c sz && Nat.beq t i && behind o j then some j else usesAt k sz i o (j + 1) ps
  | j, _ :: ps => usesAt k sz i o (j + 1) ps

theorem usesAt_spec {k sz i : Nat} {o : Oper} : ∀ (ps : List PE) (j0 j : Nat), usesAt k sz i o j0 ps = some j → ∃ p, j0 ≤ j ∧ ps[j - j0]? = some p ∧ p.new = [(k, .tok sz)] ∧ p.til = some i ∧ behind o j = true
  | [], _, _, h => by simp [usesAt] at h
  | p :: ps, j0, j, h => by
    have rec' : usesAt k sz i o (j0 + 1) ps = some j → ∃ p', j0 ≤ j ∧ (p :: ps)[j - j0]? = some p' ∧ p'.new = [(k, .tok sz)] ∧ p'.til = some i ∧ behind o j = true := by
      intro h
      obtain ⟨p', h1, h2, h3⟩ := usesAt_spec ps (j0 + 1) j h
      refine ⟨p', by omega, ?_, h3⟩
      rw [show j - j0 = (j - (j0 + 1)) + 1 from by omega]
      simpa using h2
    obtain ⟨sv, new, til, eats, wr⟩ := p
    cases til with
    | none => exact rec' (by simpa only [usesAt] using h)
    | some t =>
      match new, rec', h with
      | [], rec', h => exact rec' (by simpa only [usesAt] using h)
      | _ :: _ :: _, rec', h => exact rec' (by simpa only [usesAt] using h)
      | [(b, .cells _ _)], rec', h => exact rec' (by simpa only [usesAt] using h)
      | [(b, .obj _)], rec', h => exact rec' (by simpa only [usesAt] using h)
      | [(b, .buf _ _)], rec', h => exact rec' (by simpa only [usesAt] using h)
      | [(b, .tok c)], rec', h =>
        simp only [usesAt] at h
        cases hc : (Nat.beq b k && Nat.beq c sz && Nat.beq t i && behind o j0) with
        | true =>
          simp only [hc, cond_true, Option.some.injEq] at h
          subst h
          simp only [Bool.and_eq_true] at hc
          obtain ⟨⟨⟨h1, h2⟩, h3⟩, h4⟩ := hc
          exact ⟨_, Nat.le_refl _, by rw [Nat.sub_self]; rfl, by rw [beq_true h1, beq_true h2], by rw [beq_true h3], h4⟩
        | false =>
          simp only [hc, cond_false] at h
          exact rec' h

def planK (P : Program) (T : Nat → TI) (m0 n : Nat) (all pre : List Oper) (ans : List (Nat × Ans)) (env0 : List (Nat × SV)) (own0 ownS : List (Nat × SO)) :
    Nat → List Oper → List PE → List Nat → List Prop → (List PE → List Prop → PlanR) → PlanR
  | _, [], ps, _, ob, k => k ps ob
  | i, o :: rest, ps, nx, ob, k =>
    bif dstLt o.dst n then
      envOfK (behind o) 0 pre ps env0 fun env =>
        guardK all o.guard env
          (ansqK i ans fun an => match an with
          | some (.val v) => appK ps ⟨v, [], none, none, false⟩ fun ps => planK P T m0 n all pre ans env0 own0 ownS (i + 1) rest ps nx (DoesV P o env own0 v :: ob) k
          | some (.gro v) => appK ps ⟨v, [], none, none, false⟩ fun ps => planK P T m0 n all pre ans env0 own0 ownS (i + 1) rest ps nx (DoesG P o env own0 v :: ob) k
          | some (.tok sz rows til) => (match nx with
            | [] => .stuck i
            | b :: nx => appK ps ⟨.gl b sz rows, [(b, .tok sz)], til, none, false⟩ fun ps => planK P T m0 n all pre ans env0 own0 ownS (i + 1) rest ps nx (DoesT P o env own0 sz rows :: ob) k)
          | some (.use q sz rows) => (match usesAt q sz i o 0 ps with
            | none => .stuck i
            | some _ => appK ps ⟨.lst sz rows, [], none, none, false⟩ fun ps => planK P T m0 n all pre ans env0 own0 ownS (i + 1) rest ps nx (DoesU P o env own0 q sz rows :: ob) k)
          | some (.eat q sz rows til) => ownK q (fun so => match so, nx with
            | .tok c, b :: nx => bif Nat.beq c sz then appK ps ⟨.gl b sz rows, [(b, .tok sz)], til, some q, false⟩ fun ps => planK P T m0 n all pre ans env0 own0 ownS (i + 1) rest ps nx (DoesU P o env own0 q sz rows :: ob) k else .stuck i
            | _, _ => .stuck i) (.stuck i) ownS
          | some (.eatc q sz rows til) => ownK q (fun so => match so, nx with
            | .tok c, b :: nx => bif Nat.beq c sz then appK ps ⟨.gl b sz rows, [(b, .tok sz)], til, some q, false⟩ fun ps => planK P T m0 n all pre ans env0 own0 ownS (i + 1) rest ps nx (DoesC P o env own0 q sz rows :: ob) k else .stuck i
            | _, _ => .stuck i) (.stuck i) ownS
          | some (.met q so' v) => ownK q (fun so => appK ps ⟨v, [(q, so')], none, none, true⟩ fun ps => planK P T m0 n all pre ans env0 own0 ownS (i + 1) rest ps nx (DoesM P o env own0 q so so' v :: ob) k) (.stuck i) ownS
          | some (.late tl) => newOfK T o.op env (fun t cs => match nx with
            | [] => .stuck i
            | b :: nx => appK ps ⟨.ptr b 0, [(b, .cells t cs)], some tl, none, false⟩ fun ps => planK P T m0 n all pre ans env0 own0 ownS (i + 1) rest ps nx ob k) (.stuck i)
          | some (.set b cs') => (match o.dst with
            | some _ => .stuck i
            | none => (match lateAt b i o 0 ps with
              | none => .stuck i
              | some (_, ty, cs) => appK ps ⟨.any, [(b, .cells ty cs')], none, none, true⟩ fun ps => planK P T m0 n all pre ans env0 own0 ownS (i + 1) rest ps nx (DoesW P o env own0 b ty cs cs' :: ob) k))
          | some (.put q so') => (match o.dst with
            | some _ => .stuck i
            | none => ownK q (fun so => bif isTok (some so) then .stuck i else appK ps ⟨.any, [(q, so')], none, none, true⟩ fun ps => planK P T m0 n all pre ans env0 own0 ownS (i + 1) rest ps nx (DoesWS P o env own0 q so so' :: ob) k) (.stuck i) ownS)
          | _ => match o.op with
          | .call { callee := .value x, args, argTypes := _ } =>
            callK (.call { callee := .value x, args, argTypes := #[] }) env (fun f l => ansqK i ans fun a => ansSv a (fun s => appK ps ⟨s, [], none, none, false⟩ fun ps => planK P T m0 n all pre ans env0 own0 ownS (i + 1) rest ps nx (Gives P f l s :: ob) k) (.stuck i)) (.stuck i)
          | .store t x y => (match o.dst with
            | some _ => .stuck i
            | none => match an with
              | some .forget => evK env x fun s => (match s with
                | .ptr b off => (match anyAt b o 0 ps with
                  | none => .stuck i
                  | some (_, _, m) => evK env y fun sv => cellsK sv (fun new => match (T t).kd with
                    | .other => .stuck i
                    | _ => bif Nat.beq new.length (T t).size && Nat.ble (off + new.length) m then appK ps ⟨.any, [], none, none, false⟩ fun ps => planK P T m0 n all pre ans env0 own0 ownS (i + 1) rest ps nx ob k else .stuck i) (.stuck i))
                | _ => .stuck i)
              | _ => stoK T t x y env ownS (fun b r => appK ps ⟨.any, [(b, r)], none, none, true⟩ fun ps => planK P T m0 n all pre ans env0 own0 ownS (i + 1) rest ps nx ob k) (.stuck i))
          | .alloc t => newOfK T (.alloc t) env (fun t cs => match nx with
            | [] => .stuck i
            | b :: nx => (match an with
              | some .forget => lenK cs fun m => appK ps ⟨.ptr b 0, [(b, .cells t (anys m))], none, none, false⟩ fun ps => planK P T m0 n all pre ans env0 own0 ownS (i + 1) rest ps nx ob k
              | _ => appK ps ⟨.ptr b 0, [(b, .cells t cs)], none, none, false⟩ fun ps => planK P T m0 n all pre ans env0 own0 ownS (i + 1) rest ps nx ob k)) (.stuck i)
          | .box t x => newOfK T (.box t x) env (fun t cs => match nx with
            | [] => .stuck i
            | b :: nx => appK ps ⟨.ptr b 0, [(b, .cells t cs)], none, none, false⟩ fun ps => planK P T m0 n all pre ans env0 own0 ownS (i + 1) rest ps nx ob k) (.stuck i)
          | op => op1 T m0 op env own0 [] (fun v => ansqK i ans fun a => ansBl a v (appK ps ⟨v, [], none, none, false⟩ fun ps => planK P T m0 n all pre ans env0 own0 ownS (i + 1) rest ps nx ob k)
              (fun c => appK ps ⟨.tt, [], none, none, false⟩ fun ps => planK P T m0 n all pre ans env0 own0 ownS (i + 1) rest ps nx ((c = true) :: ob) k)
              (fun c => appK ps ⟨.ff, [], none, none, false⟩ fun ps => planK P T m0 n all pre ans env0 own0 ownS (i + 1) rest ps nx ((c = false) :: ob) k) (.stuck i))
            (fun _ _ _ => .stuck i) (fun _ => .stuck i)
            (fun p v => appK ps ⟨v, [], none, none, false⟩ fun ps => planK P T m0 n all pre ans env0 own0 ownS (i + 1) rest ps nx (p :: ob) k) (.stuck i))
          (appK ps ⟨.tup [], [], none, none, false⟩ fun ps => planK P T m0 n all pre ans env0 own0 ownS (i + 1) rest ps nx ob k)
          (.stuck i)
    else .stuck i

/-- What is owed for one operation, where it stands. -/
inductive Loc (E : Stc) (all : List Oper) (pl : List PE) (i : Nat) (env : List (Nat × SV)) (own0 ownS : List (Nat × SO)) (o : Oper) : PE → Prop
  | skip (h : ∀ a w, At E env own0 a w → Region.wanted o (yielded all.toArray a.tmps) = false) : Loc E all pl i env own0 ownS o ⟨.tup [], [], none, none, false⟩
  | val (v s : SV) (h : ∀ a w, At E env own0 a w → Region.wanted o (yielded all.toArray a.tmps) = true) (hd : DoesV E.P o env own0 v) (hl : SVle v s) : Loc E all pl i env own0 ownS o ⟨s, [], none, none, false⟩
  | gro (v : SV) (h : ∀ a w, At E env own0 a w → Region.wanted o (yielded all.toArray a.tmps) = true) (hd : DoesG E.P o env own0 v) : Loc E all pl i env own0 ownS o ⟨v, [], none, none, false⟩
  | tok (b sz : Nat) (rows : List (List DV)) (til : Option Nat) (h : ∀ a w, At E env own0 a w → Region.wanted o (yielded all.toArray a.tmps) = true) (hd : DoesT E.P o env own0 sz rows) : Loc E all pl i env own0 ownS o ⟨.gl b sz rows, [(b, .tok sz)], til, none, false⟩
  | use (k sz j : Nat) (rows : List (List DV)) (p' : PE) (h : ∀ a w, At E env own0 a w → Region.wanted o (yielded all.toArray a.tmps) = true) (hd : DoesU E.P o env own0 k sz rows) (hp : pl[j]? = some p') (hn : p'.new = [(k, .tok sz)])
      (ht : p'.til = some i) (hb : behind o j = true) : Loc E all pl i env own0 ownS o ⟨.lst sz rows, [], none, none, false⟩
  | eat (k sz b : Nat) (rows : List (List DV)) (til : Option Nat) (h : ∀ a w, At E env own0 a w → Region.wanted o (yielded all.toArray a.tmps) = true) (hd : DoesU E.P o env own0 k sz rows) (hk : ownq ownS k = some (.tok sz)) :
      Loc E all pl i env own0 ownS o ⟨.gl b sz rows, [(b, .tok sz)], til, some k, false⟩
  | eatc (k sz b : Nat) (rows : List (List DV)) (til : Option Nat) (h : ∀ a w, At E env own0 a w → Region.wanted o (yielded all.toArray a.tmps) = true) (hd : DoesC E.P o env own0 k sz rows) (hk : ownq ownS k = some (.tok sz)) :
      Loc E all pl i env own0 ownS o ⟨.gl b sz rows, [(b, .tok sz)], til, some k, false⟩
  | newL (b t : Nat) (cs : List SV) (tl : Nat) (h : ∀ a w, At E env own0 a w → Region.wanted o (yielded all.toArray a.tmps) = true) (hd : DoesN E.P o env own0 t cs) (h1 : SV.ones cs = true) : Loc E all pl i env own0 ownS o ⟨.ptr b 0, [(b, .cells t cs)], some tl, none, false⟩
  | stSet (b ty j : Nat) (cs cs' : List SV) (h : ∀ a w, At E env own0 a w → Region.wanted o (yielded all.toArray a.tmps) = true) (hd : DoesW E.P o env own0 b ty cs cs') (hp : pl[j]? = some ⟨.ptr b 0, [(b, .cells ty cs)], some i, none, false⟩) (hb : behind o j = true) (ho : o.dst = none) :
      Loc E all pl i env own0 ownS o ⟨.any, [(b, .cells ty cs')], none, none, true⟩
  | met (b : Nat) (so so' : SO) (v : SV) (h : ∀ a w, At E env own0 a w → Region.wanted o (yielded all.toArray a.tmps) = true) (hd : DoesM E.P o env own0 b so so' v) (hk : ownq ownS b = some so) :
      Loc E all pl i env own0 ownS o ⟨v, [(b, so')], none, none, true⟩
  | newAny (b t : Nat) (cs : List SV) (h : ∀ a w, At E env own0 a w → Region.wanted o (yielded all.toArray a.tmps) = true) (hd : DoesN E.P o env own0 t cs) (h1 : SV.ones cs = true) : Loc E all pl i env own0 ownS o ⟨.ptr b 0, [(b, .cells t (anys cs.length))], none, none, false⟩
  | stAny (b ty m j : Nat) (h : ∀ a w, At E env own0 a w → Region.wanted o (yielded all.toArray a.tmps) = true) (hd : DoesW E.P o env own0 b ty (anys m) (anys m)) (hp : pl[j]? = some ⟨.ptr b 0, [(b, .cells ty (anys m))], none, none, false⟩) (hb : behind o j = true) (ho : o.dst = none) :
      Loc E all pl i env own0 ownS o ⟨.any, [], none, none, false⟩
  | sto (b : Nat) (old new : SO) (h : ∀ a w, At E env own0 a w → Region.wanted o (yielded all.toArray a.tmps) = true) (hd : DoesWS E.P o env own0 b old new) (hk : ownq ownS b = some old) (ht : isTok (some old) = false) (ho : o.dst = none) :
      Loc E all pl i env own0 ownS o ⟨.any, [(b, new)], none, none, true⟩
  | new (b t : Nat) (cs : List SV) (h : ∀ a w, At E env own0 a w → Region.wanted o (yielded all.toArray a.tmps) = true) (hd : DoesN E.P o env own0 t cs) (h1 : SV.ones cs = true) : Loc E all pl i env own0 ownS o ⟨.ptr b 0, [(b, .cells t cs)], none, none, false⟩
  | call (f : Nat) (args : List SV) (s : SV) (h : ∀ a w, At E env own0 a w → Region.wanted o (yielded all.toArray a.tmps) = true) (hc : callK o.op env (fun f l => some (f, l)) none = some (f, args)) (hf : Gives E.P f args s) : Loc E all pl i env own0 ownS o ⟨s, [], none, none, false⟩

def Locs (E : Stc) (all pre : List Oper) (env0 : List (Nat × SV)) (own0 ownS : List (Nat × SO)) (plan : List PE) : Nat → List Oper → Prop
  | _, [] => True
  | i, o :: os => (dstLt o.dst E.n = true ∧ ∃ p, plan[i]? = some p ∧ Loc E all plan i (envOf (behind o) 0 pre (plan.take i) env0) own0 ownS o p) ∧ Locs E all pre env0 own0 ownS plan (i + 1) os

theorem callK_out {α : Type} (o : Op) (env : List (Nat × SV)) (k : Nat → List SV → α) (f : α) :
    callK o env k f = f ∨ ∃ q l, callK o env (fun f l => some (f, l)) none = some (q, l) ∧ callK o env k f = k q l := by
  unfold callK
  split
  · simp only [evK_eq, evsK_eq]
    split
    · exact .inr ⟨_, _, rfl, rfl⟩
    · exact .inl rfl
  · exact .inl rfl

theorem newOfK_out {α : Type} {E : Stc} (o : Oper) (env : List (Nat × SV)) (own : List (Nat × SO)) (k : Nat → List SV → α) (f : α) :
    newOfK E.T o.op env k f = f ∨ ∃ t cs, newOfK E.T o.op env k f = k t cs ∧ DoesN E.P o env own t cs ∧ SV.ones cs = true := by
  have hT' : E.T = tiOf E.P := funext E.hT
  rw [hT']
  unfold newOfK
  split
  · rename_i t ho
    simp only [constsK_eq]
    split
    · exact .inl rfl
    · rename_i hz hk
      cases h1 : SV.ones (constsS (tiOf E.P t).zero) with
      | false => exact .inl rfl
      | true => exact .inr ⟨t, _, rfl, doesN_alloc ho (fun e => hk e) hz, h1⟩
    · exact .inl rfl
  · rename_i t x ho
    simp only [evK_eq, cellsK_eq]
    cases hc : cellsOf (ev env x) with
    | none => exact .inl rfl
    | some cs => exact .inr ⟨t, cs, rfl, doesN_box ho hc, cellsOf_ones hc⟩
  · exact .inl rfl

theorem planK_sound (E : Stc) (all pre : List Oper) (ans : List (Nat × Ans)) (env0 : List (Nat × SV)) (own0 ownS : List (Nat × SO)) (k : List PE → List Prop → PlanR) (plan : List PE) (env : List (Nat × SV)) (own : List (Nat × SO)) (ob' : List Prop) (R : Prop)
    (hk : ∀ ps ob, k ps ob = .ok plan env own ob' → All ob' → ps = plan ∧ All ob ∧ R) :
    ∀ (rest : List Oper) (i : Nat) (ps : List PE) (nx : List Nat) (ob : List Prop), ps.length = i → planK E.P E.T E.cx.m0 E.n all pre ans env0 own0 ownS i rest ps nx ob k = .ok plan env own ob' → All ob' →
      All ob ∧ (∃ q, plan = ps ++ q) ∧ plan.length = i + rest.length ∧ Locs E all pre env0 own0 ownS plan i rest ∧ R := by
  intro rest
  induction rest with
  | nil =>
    intro i ps nx ob hi h ha
    obtain ⟨h1, h2, h3⟩ := hk ps ob h ha
    subst h1
    exact ⟨h2, ⟨[], by simp⟩, by simpa using hi, trivial, h3⟩
  | cons o rest ih =>
    intro i ps nx ob hi h ha
    simp only [planK, envOfK_eq, appK_eq, ansqK_eq] at h
    cases hd : dstLt o.dst E.n with
    | false => simp [hd] at h
    | true =>
      simp only [hd, cond_true] at h
      -- going on behind a part
      have next : ∀ (p : PE) (nx : List Nat) (ob1 : List Prop), planK E.P E.T E.cx.m0 E.n all pre ans env0 own0 ownS (i + 1) rest (ps ++ [p]) nx ob1 k = .ok plan env own ob' →
          (All ob1 → ∀ pl, (∃ q, pl = ps ++ q) → Loc E all pl i (envOf (behind o) 0 pre ps env0) own0 ownS o p) → All ob1 ∧ (∃ q, plan = ps ++ q) ∧ plan.length = i + (o :: rest).length ∧ Locs E all pre env0 own0 ownS plan i (o :: rest) ∧ R := by
        intro p nx ob1 hp hl
        obtain ⟨h1, ⟨q, h2⟩, h3, h4, h5⟩ := ih (i + 1) (ps ++ [p]) nx ob1 (by simp [hi]) hp ha
        refine ⟨h1, ⟨p :: q, by rw [h2]; simp⟩, by rw [h3, List.length_cons]; omega, ⟨⟨hd, p, ?_, ?_⟩, h4⟩, h5⟩
        · rw [h2, List.append_assoc, List.getElem?_append_right (by omega)]
          simp [hi]
        · have : plan.take i = ps := by rw [h2, List.append_assoc, ← hi]; simp
          rw [this]
          exact hl h1 plan ⟨p :: q, by rw [h2]; simp⟩
      rcases guardK_wanted (E := E) (all := all) (o := o) (env := envOf (behind o) 0 pre ps env0) (own := own0) with ⟨hy, hw⟩ | ⟨hy, hw⟩ | hy
      · rw [hy] at h
        split at h
        · rename_i v _
          obtain ⟨h1, h2⟩ := next _ _ _ h fun hall _ _ => .val v v hw (all_cons hall).1 (SVle.refl v)
          exact ⟨(all_cons h1).2, h2⟩
        · rename_i v _
          obtain ⟨h1, h2⟩ := next _ _ _ h fun hall _ _ => .gro v hw (all_cons hall).1
          exact ⟨(all_cons h1).2, h2⟩
        · rename_i sz rows til _
          cases nx with
          | nil => cases h
          | cons b nx =>
            obtain ⟨h1, h2⟩ := next _ _ _ h fun hall _ _ => .tok b sz rows til hw (all_cons hall).1
            exact ⟨(all_cons h1).2, h2⟩
        · rename_i q sz rows _
          cases hu : usesAt q sz i o 0 ps with
          | none => rw [hu] at h; cases h
          | some j =>
            rw [hu] at h
            obtain ⟨p', _, u1, u2, u3, u4⟩ := usesAt_spec ps 0 j hu
            rw [Nat.sub_zero] at u1
            obtain ⟨h1, h2⟩ := next _ _ _ h fun hall pl hpl => .use q sz j rows p' hw (all_cons hall).1 (by
              obtain ⟨r, rfl⟩ := hpl
              rw [List.getElem?_append_left (List.getElem?_eq_some_iff.1 u1).1]
              exact u1) u2 u3 u4
            exact ⟨(all_cons h1).2, h2⟩
        · rename_i q sz rows til _
          rw [ownK_eq] at h
          cases ho : ownq ownS q with
          | none => rw [ho] at h; cases h
          | some so =>
            rw [ho] at h
            cases so with
            | cells t c => cases h
            | obj f => cases h
            | buf c nn => cases h
            | tok c =>
              cases nx with
              | nil => cases h
              | cons b nx =>
                simp only at h
                cases hc : Nat.beq c sz with
                | false => rw [hc] at h; cases h
                | true =>
                  rw [hc, cond_true] at h
                  have := beq_true hc
                  subst this
                  obtain ⟨h1, h2⟩ := next _ _ _ h fun hall _ _ => .eat q c b rows til hw (all_cons hall).1 ho
                  exact ⟨(all_cons h1).2, h2⟩
        · rename_i q sz rows til _
          rw [ownK_eq] at h
          cases ho : ownq ownS q with
          | none => rw [ho] at h; cases h
          | some so =>
            rw [ho] at h
            cases so with
            | cells t c => cases h
            | obj f => cases h
            | buf c nn => cases h
            | tok c =>
              cases nx with
              | nil => cases h
              | cons b nx =>
                simp only at h
                cases hc : Nat.beq c sz with
                | false => rw [hc] at h; cases h
                | true =>
                  rw [hc, cond_true] at h
                  have := beq_true hc
                  subst this
                  obtain ⟨h1, h2⟩ := next _ _ _ h fun hall _ _ => .eatc q c b rows til hw (all_cons hall).1 ho
                  exact ⟨(all_cons h1).2, h2⟩
        · rename_i q so' v _
          rw [ownK_eq] at h
          cases ho : ownq ownS q with
          | none => rw [ho] at h; cases h
          | some so =>
            rw [ho] at h
            obtain ⟨h1, h2⟩ := next _ _ _ h fun hall _ _ => .met q so so' v hw (all_cons hall).1 ho
            exact ⟨(all_cons h1).2, h2⟩
        · rename_i tl _
          rcases newOfK_out (E := E) o (envOf (behind o) 0 pre ps env0) own0 (fun t cs => match nx with
            | [] => PlanR.stuck i
            | b :: nx => appK ps ⟨.ptr b 0, [(b, .cells t cs)], some tl, none, false⟩ fun ps => planK E.P E.T E.cx.m0 E.n all pre ans env0 own0 ownS (i + 1) rest ps nx ob k) (.stuck i) with e | ⟨t, cs, e, hN, h1c⟩
          · simp only [appK_eq] at e
            rw [e] at h; cases h
          · simp only [appK_eq] at e
            rw [e] at h
            cases nx with
            | nil => cases h
            | cons b nx =>
              obtain ⟨h1, h2⟩ := next _ _ _ h fun hall _ _ => .newL b t cs tl hw hN h1c
              exact ⟨h1, h2⟩
        · rename_i b cs' _
          split at h
          · cases h
          · rename_i hdst
            cases hu : lateAt b i o 0 ps with
            | none => rw [hu] at h; cases h
            | some q =>
              obtain ⟨j, ty, cs⟩ := q
              rw [hu] at h
              obtain ⟨_, u1, u2⟩ := lateAt_spec ps 0 hu
              rw [Nat.sub_zero] at u1
              obtain ⟨h1, h2⟩ := next _ _ _ h fun hall pl hpl => .stSet b ty j cs cs' hw (all_cons hall).1 (by
                obtain ⟨r, rfl⟩ := hpl
                rw [List.getElem?_append_left (List.getElem?_eq_some_iff.1 u1).1]
                exact u1) u2 hdst
              exact ⟨(all_cons h1).2, h2⟩
        · rename_i q so' _
          split at h
          · cases h
          · rename_i hdst
            rw [ownK_eq] at h
            cases ho : ownq ownS q with
            | none => rw [ho] at h; cases h
            | some so =>
              rw [ho] at h
              simp only at h
              cases ht : isTok (some so) with
              | true => rw [ht] at h; cases h
              | false =>
                rw [ht, cond_false] at h
                obtain ⟨h1, h2⟩ := next _ _ _ h fun hall _ _ => .sto q so so' hw (all_cons hall).1 ho ht hdst
                exact ⟨(all_cons h1).2, h2⟩
        split at h
        · rename_i x args ats ho
          rcases callK_out (.call { callee := .value x, args, argTypes := #[] }) (envOf (behind o) 0 pre ps env0) (fun f l => ansSv (ansq i ans) (fun s => planK E.P E.T E.cx.m0 E.n all pre ans env0 own0 ownS (i + 1) rest (ps ++ [⟨s, [], none, none, false⟩]) nx (Gives E.P f l s :: ob) k) (.stuck i)) (.stuck i) with hc | ⟨q, l, hq, hc⟩
          · rw [hc] at h; cases h
          · rw [hc] at h
            have hcall : callK o.op (envOf (behind o) 0 pre ps env0) (fun f l => some (f, l)) none = some (q, l) := by rw [ho]; exact hq
            unfold ansSv at h
            split at h
            · rename_i s _
              obtain ⟨h1, h2⟩ := next _ _ _ h fun hall _ _ => .call q l s hw hcall (all_cons hall).1
              exact ⟨(all_cons h1).2, h2⟩
            · cases h
        · rename_i t x y ho
          split at h
          · cases h
          · rename_i hdst
            split at h
            · rename_i hforget
              simp only [evK_eq, cellsK_eq] at h
              split at h
              · rename_i b off hx
                split at h
                · cases h
                · rename_i j ty m hat
                  obtain ⟨_, hat1, hat2⟩ := anyAt_spec ps 0 hat
                  rw [Nat.sub_zero] at hat1
                  cases hy : cellsOf (ev (envOf (behind o) 0 pre ps env0) y) with
                  | none => rw [hy] at h; cases h
                  | some new =>
                    rw [hy] at h
                    simp only at h
                    split at h
                    · cases h
                    · rename_i hkd
                      cases hc : (Nat.beq new.length (E.T t).size && Nat.ble (off + new.length) m) with
                      | false => rw [hc] at h; cases h
                      | true =>
                        rw [hc, cond_true] at h
                        rw [Bool.and_eq_true] at hc
                        exact next _ _ _ h fun _ pl hpl => .stAny b ty m j hw (doesW_any ho hx hy (by rw [← E.hT t]; exact fun e => hkd e) (by rw [← E.hT t]; exact beq_true hc.1) (Nat.le_of_ble_eq_true hc.2)) (by
                          obtain ⟨r, rfl⟩ := hpl
                          rw [List.getElem?_append_left (List.getElem?_eq_some_iff.1 hat1).1]
                          exact hat1) hat2 hdst
              · cases h
            rcases stoK_out (P := E.P) E.hT ho (envOf (behind o) 0 pre ps env0) ownS own0 (fun b r => planK E.P E.T E.cx.m0 E.n all pre ans env0 own0 ownS (i + 1) rest (ps ++ [PE.mk .any [(b, r)] none none true]) nx ob k) (.stuck i) with hc | ⟨b, old, new, hc, hW, hk, htk⟩
            · rw [hc] at h; cases h
            · rw [hc] at h
              exact next _ _ _ h fun _ _ _ => .sto b old new hw hW hk htk hdst
        · rename_i t ho
          simp only [lenK_eq] at h
          rcases newOfK_out (E := E) o (envOf (behind o) 0 pre ps env0) own0 (fun t cs => match nx with
            | [] => PlanR.stuck i
            | b :: nx => (match ansq i ans with
              | some .forget => planK E.P E.T E.cx.m0 E.n all pre ans env0 own0 ownS (i + 1) rest (ps ++ [PE.mk (.ptr b 0) [(b, SO.cells t (anys cs.length))] none none false]) nx ob k
              | _ => planK E.P E.T E.cx.m0 E.n all pre ans env0 own0 ownS (i + 1) rest (ps ++ [PE.mk (.ptr b 0) [(b, SO.cells t cs)] none none false]) nx ob k)) (.stuck i) with hc | ⟨t', cs, hc, hN, h1⟩
          · rw [ho] at hc; rw [hc] at h; cases h
          · rw [ho] at hc
            rw [hc] at h
            cases nx with
            | nil => cases h
            | cons b nx =>
              simp only at h
              split at h
              · exact next _ _ _ h fun _ _ _ => .newAny b t' cs hw hN h1
              · exact next _ _ _ h fun _ _ _ => .new b t' cs hw hN h1
        · rename_i t x ho
          rcases newOfK_out (E := E) o (envOf (behind o) 0 pre ps env0) own0 (fun t cs => match nx with
            | [] => PlanR.stuck i
            | b :: nx => planK E.P E.T E.cx.m0 E.n all pre ans env0 own0 ownS (i + 1) rest (ps ++ [PE.mk (.ptr b 0) [(b, SO.cells t cs)] none none false]) nx ob k) (.stuck i) with hc | ⟨t', cs, hc, hN, h1⟩
          · rw [ho] at hc; rw [hc] at h; cases h
          · rw [ho] at hc
            rw [hc] at h
            cases nx with
            | nil => cases h
            | cons b nx => exact next _ _ _ h fun _ _ _ => .new b t' cs hw hN h1
        · have key := op1_sound (α := PlanR) (P := E.P) (m0 := E.cx.m0) (env := envOf (behind o) 0 pre ps env0) (own := own0) (nx := [])
            (kv := fun v => ansBl (ansq i ans) v (planK E.P E.T E.cx.m0 E.n all pre ans env0 own0 ownS (i + 1) rest (ps ++ [⟨v, [], none, none, false⟩]) nx ob k)
              (fun c => planK E.P E.T E.cx.m0 E.n all pre ans env0 own0 ownS (i + 1) rest (ps ++ [⟨.tt, [], none, none, false⟩]) nx ((c = true) :: ob) k)
              (fun c => planK E.P E.T E.cx.m0 E.n all pre ans env0 own0 ownS (i + 1) rest (ps ++ [⟨.ff, [], none, none, false⟩]) nx ((c = false) :: ob) k) (.stuck i))
            (ko := fun _ _ _ => .stuck i) (ks := fun _ => .stuck i)
            (kp := fun p v => planK E.P E.T E.cx.m0 E.n all pre ans env0 own0 ownS (i + 1) rest (ps ++ [⟨v, [], none, none, false⟩]) nx (p :: ob) k) (f := .stuck i) E.hT o
          rw [h] at key
          generalize hr : PlanR.ok plan env own ob' = r0 at key
          cases key with
          | f => cases hr
          | v v hD =>
            unfold ansBl at hr
            split at hr
            · exact next _ _ _ hr.symm fun _ _ _ => .val _ _ hw hD (SVle.refl _)
            · rename_i c _
              obtain ⟨h1, h2⟩ := next _ _ _ hr.symm fun hall _ _ => .val (.bl c) .tt hw hD (by
                have := (all_cons hall).1
                subst this
                exact fun _ _ _ h => h)
              exact ⟨(all_cons h1).2, h2⟩
            · rename_i c _
              obtain ⟨h1, h2⟩ := next _ _ _ hr.symm fun hall _ _ => .val (.bl c) .ff hw hD (by
                have := (all_cons hall).1
                subst this
                exact fun _ _ _ h => h)
              exact ⟨(all_cons h1).2, h2⟩
            · cases hr
          | o v own1 nx1 hD => cases hr
          | s own1 hD => cases hr
          | p p v hD =>
            obtain ⟨h1, h2⟩ := next _ _ _ hr.symm fun hall _ _ => .val v v hw (hD (all_cons hall).1) (SVle.refl v)
            exact ⟨(all_cons h1).2, h2⟩
      · rw [hy] at h
        exact next _ _ _ h fun _ _ _ => .skip hw
      · rw [hy] at h
        cases h

end Go.Eng
