/- The proof engine, part 15: a region whose order is drawn. -/
import Derived.Test.YtmnmhehddbemkaaLst2
namespace Go.Eng

/-- An operation's part in a plan: what it gives, the blocks that it makes. -/
structure PE where
  sv : SV
  new : List (Nat × SO)
  til : Option Nat := none
  eats : Option Nat := none
  wr : Bool := false

def envOf (sel : Nat → Bool) : Nat → List Oper → List PE → List (Nat × SV) → List (Nat × SV)
  | i, o :: os, p :: ps, env => put o.dst (bif sel i then p.sv else .any) (envOf sel (i + 1) os ps env)
  | i, o :: os, [], env => put o.dst .any (envOf sel (i + 1) os [] env)
  | _, [], _, env => env

/-- Nothing has used it up. -/
def tilOk (sel : Nat → Bool) : Option Nat → Bool
  | none => true
  | some j => !sel j

/-- Names that are left out. -/
def rm1K {α : Type} (s : Nat) : List (Nat × SO) → (List (Nat × SO) → α) → α
  | [], k => k []
  | (i, x) :: l, k => rm1K s l fun r => bif Nat.beq i s then k r else k ((i, x) :: r)
def rmOK {α : Type} : List Nat → List (Nat × SO) → (List (Nat × SO) → α) → α
  | [], own, k => k own
  | s :: st, own, k => rm1K s own fun r => rmOK st r k
def rm1 (s : Nat) : List (Nat × SO) → List (Nat × SO)
  | [] => []
  | (i, x) :: l => bif Nat.beq i s then rm1 s l else (i, x) :: rm1 s l
def rmO : List Nat → List (Nat × SO) → List (Nat × SO)
  | [], own => own
  | s :: st, own => rmO st (rm1 s own)
theorem rm1K_eq {α : Type} (s : Nat) : ∀ (l : List (Nat × SO)) (k : List (Nat × SO) → α), rm1K s l k = k (rm1 s l)
  | [], _ => rfl
  | (i, x) :: l, k => by
    simp only [rm1K, rm1, rm1K_eq s l]
    cases Nat.beq i s <;> rfl
theorem rmOK_eq {α : Type} : ∀ (st : List Nat) (l : List (Nat × SO)) (k : List (Nat × SO) → α), rmOK st l k = k (rmO st l)
  | [], _, _ => rfl
  | s :: st, l, k => by simp only [rmOK, rmO, rm1K_eq, rmOK_eq st]
theorem rm1_own {s k : Nat} {o : SO} : ∀ {l : List (Nat × SO)}, ownq (rm1 s l) k = some o → ownq l k = some o
  | [], h => h
  | (i, x) :: l, h => by
    simp only [rm1] at h
    cases hi : Nat.beq i s with
    | true =>
      simp only [hi, cond_true] at h
      simp only [ownq]
      have := rm1_own h
      cases hk : Nat.beq i k with
      | false => exact this
      | true =>
        exfalso
        have e1 := beq_true hi
        have e2 := beq_true hk
        subst e1; subst e2
        have none_of : ∀ l : List (Nat × SO), ownq (rm1 i l) i = none := by
          intro l
          induction l with
          | nil => rfl
          | cons y l ih =>
            obtain ⟨j, y⟩ := y
            simp only [rm1]
            cases hj : Nat.beq j i with
            | true => simpa using ih
            | false => simp [ownq, hj, ih]
        rw [none_of] at h
        cases h
    | false =>
      simp only [hi, cond_false, ownq] at h ⊢
      cases hk : Nat.beq i k with
      | true => simpa [hk] using h
      | false => simp only [hk, cond_false] at h ⊢; exact rm1_own h
theorem rmO_own {k : Nat} {o : SO} : ∀ {st : List Nat} {l : List (Nat × SO)}, ownq (rmO st l) k = some o → ownq l k = some o
  | [], _, h => h
  | _ :: _, _, h => rm1_own (rmO_own h)

theorem rm1_ne {s k : Nat} (h : k ≠ s) : ∀ {l : List (Nat × SO)}, ownq (rm1 s l) k = ownq l k
  | [] => rfl
  | (i, x) :: l => by
    simp only [rm1]
    cases hi : Nat.beq i s with
    | true =>
      have := beq_true hi
      subst this
      have hk : Nat.beq i k = false := by
        cases hb : Nat.beq i k with
        | false => rfl
        | true => exact absurd (beq_true hb).symm h
      simp [ownq, hk, rm1_ne h]
    | false =>
      simp only [cond_false, ownq, rm1_ne h]
theorem rm1_none (k : Nat) : ∀ l : List (Nat × SO), ownq (rm1 k l) k = none
  | [] => rfl
  | (j, y) :: l => by
    simp only [rm1]
    cases hj : Nat.beq j k with
    | true => simpa using rm1_none k l
    | false => simp [ownq, hj, rm1_none k l]

/-- But for what was used up. -/
def eatO : Option Nat → List (Nat × SO) → List (Nat × SO)
  | none, own => own
  | some k, own => rm1 k own

theorem eatO_iff {e : Option Nat} {k : Nat} {o : SO} {l : List (Nat × SO)} : ownq (eatO e l) k = some o ↔ ownq l k = some o ∧ e ≠ some k := by
  cases e with
  | none => simp [eatO]
  | some j =>
    simp only [eatO, ne_eq, Option.some.injEq]
    by_cases h : k = j
    · subst h
      simp [rm1_none]
    · rw [rm1_ne h]
      exact ⟨fun q => ⟨q, fun e => h e.symm⟩, fun q => q.1⟩
theorem eatO_none {e : Option Nat} {k : Nat} {l : List (Nat × SO)} (h : ownq l k = none) : ownq (eatO e l) k = none := by
  cases hq : ownq (eatO e l) k with
  | none => rfl
  | some o => rw [(eatO_iff.1 hq).1] at h; cases h

def ownOf (sel : Nat → Bool) : Nat → List PE → List (Nat × SO) → List (Nat × SO)
  | i, p :: ps, own => (bif sel i then (bif tilOk sel p.til then p.new else []) else []) ++ ownOf sel (i + 1) ps (bif sel i then eatO p.eats own else own)
  | _, [], own => own

/-- An operation stands directly behind another one. -/
def behind (o : Oper) (j : Nat) : Bool := o.after.toList.any fun e => Region.binds .any e && Nat.beq e.on j

def leE (env env' : List (Nat × SV)) : Prop := ∀ t, SVle (nth env t) (nth env' t)
def leO (own own' : List (Nat × SO)) : Prop := ∀ k o, ownq own' k = some o → ownq own k = some o

theorem at_le {E : Stc} {env env' : List (Nat × SV)} {own own' : List (Nat × SO)} {a : Act} {w : World} (h : At E env own a w) (he : leE env env') (ho : leO own own') : At E env' own' a w := by
  obtain ⟨hdf, g, H, hd⟩ := h
  refine ⟨hdf, g, H, { size := hd.size, den := fun t => he t g H _ (hd.den t), ok := fun k o hk => hd.ok k o (ho k o hk), inj := fun k j hk hj => hd.inj k j ?_ ?_, hp := hd.hp, base := hd.base }⟩
  · cases hq : ownq own' k with
    | none => rw [hq] at hk; cases hk
    | some o => rw [ho k o hq]; rfl
  · cases hq : ownq own' j with
    | none => rw [hq] at hj; cases hj
    | some o => rw [ho j o hq]; rfl

def add (sel : Nat → Bool) (i : Nat) : Nat → Bool := fun j => Nat.beq j i || sel j

/-- What is owed for one operation: from any state that knows what stands ahead of it. -/
def Cert (E : Stc) (ops : Array Oper) (pre : List Oper) (plan : List PE) (env0 : List (Nat × SV)) (own0 : List (Nat × SO)) (s : List Fr) (i : Nat) (o : Oper) (p : PE) : Prop :=
  ∀ sel : Nat → Bool, sel i = false → (∀ j, behind o j = true → sel j = true) → (∀ j oj k, pre[j]? = some oj → sel j = true → behind oj k = true → sel k = true) →
    ∀ a w, At E (envOf sel 0 pre plan env0) (ownOf sel 0 plan own0) a w →
      wpOp E.P ops (KK E s) i (fun a' w' => At E (put o.dst p.sv (envOf sel 0 pre plan env0)) (ownOf (add sel i) 0 plan own0) a' w') a w

def dsts : List Oper → List Nat
  | [] => []
  | o :: os => match o.dst with
    | some d => d :: dsts os
    | none => dsts os

def dstsOk (l : List Oper) : Bool := nod (dsts l)
  where
  nod : List Nat → Bool
  | [] => true
  | d :: ds => bif memB d ds then false else nod ds
  memB (d : Nat) : List Nat → Bool
  | [] => false
  | x :: xs => bif Nat.beq d x then true else memB d xs

theorem memB_false {d : Nat} : ∀ {l : List Nat}, dstsOk.memB d l = false → d ∉ l
  | [], _, h => by cases h
  | x :: xs, h, hm => by
    simp only [dstsOk.memB] at h
    cases hb : Nat.beq d x with
    | true => simp [hb] at h
    | false =>
      simp only [hb, cond_false] at h
      rcases List.mem_cons.1 hm with e | hm
      · exact beq_false hb e
      · exact memB_false h hm

theorem mem_dsts {d : Nat} : ∀ {l : List Oper} {i : Nat} {o : Oper}, l[i]? = some o → o.dst = some d → d ∈ dsts l
  | [], _, _, h, _ => by simp at h
  | x :: xs, 0, o, h, hd => by
    simp only [List.getElem?_cons_zero, Option.some.injEq] at h
    subst h
    simp [dsts, hd]
  | x :: xs, i + 1, o, h, hd => by
    have := mem_dsts (l := xs) (i := i) (by simpa using h) hd
    simp only [dsts]
    cases x.dst <;> simp [this]

theorem envOf_congr {sel sel' : Nat → Bool} : ∀ (pre : List Oper) (plan : List PE) (i : Nat) (env : List (Nat × SV)), (∀ j, i ≤ j → j < i + pre.length → sel j = sel' j) → envOf sel i pre plan env = envOf sel' i pre plan env
  | [], _, _, _, _ => by simp [envOf]
  | o :: os, [], i, env, h => by
    simp only [envOf]
    rw [envOf_congr os [] (i + 1) env (fun j h1 h2 => h j (by omega) (by simp at h2 ⊢; omega))]
  | o :: os, p :: ps, i, env, h => by
    simp only [envOf]
    rw [h i (Nat.le_refl _) (by simp), envOf_congr os ps (i + 1) env (fun j h1 h2 => h j (by omega) (by simp at h2 ⊢; omega))]

def tilsLt (N : Nat) (plan : List PE) : Prop := ∀ p ∈ plan, ∀ j, p.til = some j → j < N

theorem ownOf_congr {sel sel' : Nat → Bool} {N : Nat} (h : ∀ j, j < N → sel j = sel' j) : ∀ (plan : List PE) (i : Nat) (own : List (Nat × SO)), tilsLt N plan → i + plan.length ≤ N → ownOf sel i plan own = ownOf sel' i plan own
  | [], _, _, _, _ => rfl
  | p :: ps, i, own, ht, hl => by
    simp only [List.length_cons] at hl
    simp only [ownOf]
    have e : tilOk sel p.til = tilOk sel' p.til := by
      cases hp : p.til with
      | none => rfl
      | some j => simp only [tilOk]; rw [h j (ht p (by simp) j hp)]
    rw [h i (by omega), e, ownOf_congr h ps (i + 1) _ (fun q hq => ht q (by simp [hq])) (by omega)]

theorem nth_put (dst : Option Nat) (s : SV) (env : List (Nat × SV)) (t : Nat) : nth (put dst s env) t = if dst = some t then s else nth env t := by
  cases dst with
  | none => simp [put]
  | some d =>
    simp only [put, nth]
    cases hb : Nat.beq d t with
    | true => simp [beq_true hb]
    | false => simp [beq_false hb]

theorem nod_cons {o : Oper} {os : List Oper} (h : dstsOk (o :: os) = true) : dstsOk os = true ∧ ∀ d, o.dst = some d → d ∉ dsts os := by
  unfold dstsOk at *
  simp only [dsts] at h
  cases hd : o.dst with
  | none => simp only [hd] at h; exact ⟨h, fun d e => by cases e⟩
  | some d =>
    simp only [hd, dstsOk.nod] at h
    cases hm : dstsOk.memB d (dsts os) with
    | true => simp [hm] at h
    | false =>
      simp only [hm, cond_false] at h
      exact ⟨h, fun d' e => by cases e; exact memB_false hm⟩

/-- Adding one to the chosen ones. -/
theorem envOf_add {sel : Nat → Bool} : ∀ (pre : List Oper) (plan : List PE) (i0 i : Nat) (env : List (Nat × SV)) (o : Oper) (p : PE), dstsOk pre = true → pre[i]? = some o → plan[i]? = some p →
    leE (put o.dst p.sv (envOf sel i0 pre plan env)) (envOf (add sel (i0 + i)) i0 pre plan env)
  | [], _, _, _, _, _, _, _, h, _ => by simp at h
  | _ :: _, [], _, _, _, _, _, _, _, h => by simp at h
  | x :: xs, q :: ps, i0, 0, env, o, p, hd, ho, hp => by
    simp only [List.getElem?_cons_zero, Option.some.injEq] at ho hp
    subst ho; subst hp
    intro t
    simp only [Nat.add_zero, envOf]
    have e : envOf (add sel i0) (i0 + 1) xs ps env = envOf sel (i0 + 1) xs ps env := envOf_congr xs ps (i0 + 1) env fun j h1 _ => by
      have : Nat.beq j i0 = false := by
        cases hb : Nat.beq j i0 with
        | false => rfl
        | true => have := beq_true hb; omega
      simp [add, this]
    rw [e]
    have ea : add sel i0 i0 = true := by simp [add]
    rw [ea]
    simp only [cond_true, nth_put]
    split
    · exact SVle.refl _
    · exact SVle.refl _
  | x :: xs, q :: ps, i0, i + 1, env, o, p, hd, ho, hp => by
    obtain ⟨hd1, hd2⟩ := nod_cons hd
    have ih := envOf_add (sel := sel) xs ps (i0 + 1) i env o p hd1 (by simpa using ho) (by simpa using hp)
    rw [show i0 + 1 + i = i0 + (i + 1) from by omega] at ih
    intro t
    have ht := ih t
    simp only [envOf, nth_put] at *
    have ea : add sel (i0 + (i + 1)) i0 = sel i0 := by
      have : Nat.beq i0 (i0 + (i + 1)) = false := by
        cases hb : Nat.beq i0 (i0 + (i + 1)) with
        | false => rfl
        | true => have := beq_true hb; omega
      simp [add, this]
    rw [ea]
    by_cases h1 : o.dst = some t
    · rw [if_pos h1] at ht ⊢
      have hne : x.dst ≠ some t := fun e => hd2 t e (mem_dsts (l := xs) (i := i) (by simpa using ho) h1)
      rw [if_neg hne]
      exact ht
    · rw [if_neg h1] at ht ⊢
      split
      · exact SVle.refl _
      · exact ht

theorem ownq_append : ∀ (a b : List (Nat × SO)) (k : Nat), ownq (a ++ b) k = (ownq a k).or (ownq b k)
  | [], _, _ => rfl
  | (i, x) :: a, b, k => by
    simp only [List.cons_append, ownq]
    cases Nat.beq i k with
    | true => rfl
    | false => exact ownq_append a b k

def isAny : SV → Bool
  | .any => true
  | _ => false
theorem isAny_eq {s : SV} (h : isAny s = true) : s = .any := by
  cases s <;> first | rfl | cases h
theorem Dn.le' {cx : Cx} {g : Nat → Value} {H : Hp} {env : List (Nat × SV)} {own own' : List (Nat × SO)} {n : Nat} {tmps : Array Value} {w : World} (hd : Dn cx g H env own n tmps w) (ho : leO own own') : Dn cx g H env own' n tmps w :=
  { size := hd.size, den := hd.den, ok := fun k o hk => hd.ok k o (ho k o hk), hp := hd.hp, base := hd.base
    inj := fun k j hk hj => hd.inj k j (by
      cases hq : ownq own' k with
      | none => rw [hq] at hk; cases hk
      | some o => rw [ho k o hq]; rfl) (by
      cases hq : ownq own' j with
      | none => rw [hq] at hj; cases hj
      | some o => rw [ho j o hq]; rfl) }
def lenK {α β : Type} (l : List β) (k : Nat → α) : α :=
  match l with
  | [] => k 0
  | _ :: l => lenK l fun n => k (n + 1)
theorem lenK_eq {α β : Type} : ∀ (l : List β) (k : Nat → α), lenK l k = k l.length
  | [], _ => rfl
  | _ :: l, k => by simp only [lenK, lenK_eq l, List.length_cons]

/-- The new blocks have names of their own; what is written has the name of an old one. -/
def newOk (own0 : List (Nat × SO)) : List PE → Bool
  | [] => true
  | p :: ps => bif p.new.all (fun x => ((ownq own0 x.1).isNone || (p.til.isNone && p.wr)) && ps.all fun q => (ownq q.new x.1).isNone) then newOk own0 ps else false

theorem ownq_mem {l : List (Nat × SO)} {k : Nat} {o : SO} (h : ownq l k = some o) : ∃ x ∈ l, x.1 = k := by
  induction l with
  | nil => simp [ownq] at h
  | cons y l ih =>
    obtain ⟨i, x⟩ := y
    simp only [ownq] at h
    cases hb : Nat.beq i k with
    | true => exact ⟨(i, x), by simp, beq_true hb⟩
    | false =>
      simp only [hb, cond_false] at h
      obtain ⟨z, hz, e⟩ := ih h
      exact ⟨z, by simp [hz], e⟩

theorem newOk_cons {own0 : List (Nat × SO)} {p : PE} {ps : List PE} (h : newOk own0 (p :: ps) = true) : newOk own0 ps = true ∧ ∀ k o, ownq p.new k = some o → (ownq own0 k = none ∨ (p.til = none ∧ p.wr = true)) ∧ ∀ q ∈ ps, ownq q.new k = none := by
  simp only [newOk] at h
  cases hc : p.new.all (fun x => ((ownq own0 x.1).isNone || (p.til.isNone && p.wr)) && ps.all fun q => (ownq q.new x.1).isNone) with
  | false => simp [hc] at h
  | true =>
    simp only [hc, cond_true] at h
    refine ⟨h, fun k o hk => ?_⟩
    obtain ⟨x, hx, e⟩ := ownq_mem hk
    have := List.all_eq_true.1 hc x hx
    rw [Bool.and_eq_true, Bool.or_eq_true, Bool.and_eq_true, e] at this
    refine ⟨this.1.imp (fun h => by simpa using h) (fun h => ⟨by simpa using h.1, h.2⟩), fun q hq => ?_⟩
    have := List.all_eq_true.1 this.2 q hq
    simpa using this

theorem newOk_own {own0 : List (Nat × SO)} : ∀ {plan : List PE} {i : Nat} {p : PE} {k : Nat} {o : SO}, newOk own0 plan = true → plan[i]? = some p → ownq p.new k = some o → ownq own0 k = none ∨ (p.til = none ∧ p.wr = true)
  | [], _, _, _, _, _, h, _ => by simp at h
  | q :: ps, 0, p, k, o, hn, h, hk => by
    simp only [List.getElem?_cons_zero, Option.some.injEq] at h
    subst h
    exact ((newOk_cons hn).2 k o hk).1
  | q :: ps, i + 1, p, k, o, hn, h, hk => newOk_own (newOk_cons hn).1 (by simpa using h) hk

theorem newOk_ne {own0 : List (Nat × SO)} : ∀ {plan : List PE} {i j : Nat} {p q : PE} {k : Nat} {o o' : SO}, newOk own0 plan = true → plan[i]? = some p → plan[j]? = some q → ownq p.new k = some o → ownq q.new k = some o' → i = j
  | [], _, _, _, _, _, _, _, _, h, _, _, _ => by simp at h
  | x :: ps, 0, 0, p, q, k, o, o', hn, h, h', hk, hk' => rfl
  | x :: ps, 0, j + 1, p, q, k, o, o', hn, h, h', hk, hk' => by
    simp only [List.getElem?_cons_zero, Option.some.injEq] at h
    subst h
    have := ((newOk_cons hn).2 k o hk).2 q (List.mem_of_getElem? (by simpa using h'))
    rw [this] at hk'
    cases hk'
  | x :: ps, i + 1, 0, p, q, k, o, o', hn, h, h', hk, hk' => by
    simp only [List.getElem?_cons_zero, Option.some.injEq] at h'
    subst h'
    have := ((newOk_cons hn).2 k o' hk').2 p (List.mem_of_getElem? (by simpa using h))
    rw [this] at hk
    cases hk
  | x :: ps, i + 1, j + 1, p, q, k, o, o', hn, h, h', hk, hk' => by
    have := newOk_ne (newOk_cons hn).1 (i := i) (j := j) (by simpa using h) (by simpa using h') hk hk'
    omega

theorem newOk_mono {own0 own1 : List (Nat × SO)} (h : ∀ k, ownq own0 k = none → ownq own1 k = none) : ∀ {ps : List PE}, newOk own0 ps = true → newOk own1 ps = true
  | [], _ => rfl
  | p :: ps, hn => by
    simp only [newOk] at hn ⊢
    cases hc : p.new.all (fun x => ((ownq own0 x.1).isNone || (p.til.isNone && p.wr)) && ps.all fun q => (ownq q.new x.1).isNone) with
    | false => rw [hc] at hn; cases hn
    | true =>
      rw [hc, cond_true] at hn
      have : p.new.all (fun x => ((ownq own1 x.1).isNone || (p.til.isNone && p.wr)) && ps.all fun q => (ownq q.new x.1).isNone) = true := by
        rw [List.all_eq_true] at hc ⊢
        intro x hx
        have := hc x hx
        rw [Bool.and_eq_true, Bool.or_eq_true] at this ⊢
        exact ⟨this.1.imp (fun q => by rw [Option.isNone_iff_eq_none] at q ⊢; exact h _ q) id, this.2⟩
      rw [this, cond_true]
      exact newOk_mono h hn

/-- What is owned: what was, and what the chosen ones made. -/
theorem ownOf_iff {sel : Nat → Bool} {k : Nat} {o : SO} : ∀ (plan : List PE) (i0 : Nat) {own0 : List (Nat × SO)}, newOk own0 plan = true →
    (ownq (ownOf sel i0 plan own0) k = some o ↔ (ownq own0 k = some o ∧ ∀ i p, plan[i]? = some p → sel (i0 + i) = true → (tilOk sel p.til = true → ownq p.new k = none) ∧ p.eats ≠ some k) ∨
      ∃ i p, plan[i]? = some p ∧ sel (i0 + i) = true ∧ tilOk sel p.til = true ∧ ownq p.new k = some o)
  | [], i0, _, _ => by simp [ownOf]
  | q :: ps, i0, own0, hn => by
    obtain ⟨hn1, hnew⟩ := newOk_cons hn
    have hn2 : newOk (bif sel i0 then eatO q.eats own0 else own0) ps = true := newOk_mono (fun k hk => by cases sel i0 <;> first | exact hk | exact eatO_none hk) hn1
    have ih := ownOf_iff (sel := sel) (k := k) (o := o) ps (i0 + 1) hn2
    have hbase : ownq (bif sel i0 then eatO q.eats own0 else own0) k = some o ↔ ownq own0 k = some o ∧ (sel i0 = true → q.eats ≠ some k) := by
      cases sel i0 with
      | false => simp
      | true => simpa using eatO_iff
    simp only [ownOf, ownq_append]
    cases hq : ownq (bif sel i0 then (bif tilOk sel q.til then q.new else []) else []) k with
    | some x =>
      have key : sel i0 = true ∧ tilOk sel q.til = true ∧ ownq q.new k = some x := by
        cases hs : sel i0 with
        | false => simp [hs, ownq] at hq
        | true =>
          cases ht : tilOk sel q.til with
          | false => simp [hs, ht, ownq] at hq
          | true => exact ⟨rfl, rfl, by simpa [hs, ht] using hq⟩
      obtain ⟨k1, k2, k3⟩ := key
      simp only [Option.some_or, Option.some.injEq]
      constructor
      · rintro rfl
        exact .inr ⟨0, q, rfl, by simpa using k1, k2, k3⟩
      · rintro (⟨h, hall⟩ | ⟨i, p, h1, h2, h3, h4⟩)
        · have := (hall 0 q rfl (by simpa using k1)).1 k2
          rw [k3] at this
          cases this
        · cases i with
          | zero =>
            simp only [List.getElem?_cons_zero, Option.some.injEq] at h1
            subst h1
            rw [k3] at h4
            simpa using h4
          | succ i =>
            have := (hnew k x k3).2 p (List.mem_of_getElem? (by simpa using h1))
            rw [this] at h4
            cases h4
    | none =>
      have key : sel i0 = true → tilOk sel q.til = true → ownq q.new k = none := by
        intro k1 k2
        simpa [k1, k2] using hq
      rw [Option.none_or, ih, hbase]
      constructor
      · rintro (⟨⟨h, heat⟩, hall⟩ | ⟨i, p, h1, h2, h3⟩)
        · refine .inl ⟨h, fun i p h1 h2 => ?_⟩
          cases i with
          | zero =>
            simp only [List.getElem?_cons_zero, Option.some.injEq] at h1
            subst h1
            exact ⟨key (by simpa using h2), heat (by simpa using h2)⟩
          | succ i => exact hall i p (by simpa using h1) (by rw [show i0 + 1 + i = i0 + (i + 1) from by omega]; exact h2)
        · exact .inr ⟨i + 1, p, by simpa using h1, by rw [show i0 + (i + 1) = i0 + 1 + i from by omega]; exact h2, h3⟩
      · rintro (⟨h, hall⟩ | ⟨i, p, h1, h2, h3, h4⟩)
        · exact .inl ⟨⟨h, fun hs => (hall 0 q rfl (by simpa using hs)).2⟩, fun i p h1 h2 => hall (i + 1) p (by simpa using h1) (by rw [show i0 + (i + 1) = i0 + 1 + i from by omega]; exact h2)⟩
        · cases i with
          | zero =>
            simp only [List.getElem?_cons_zero, Option.some.injEq] at h1
            subst h1
            rw [key (by simpa using h2) h3] at h4
            cases h4
          | succ i => exact .inr ⟨i, p, by simpa using h1, by rw [show i0 + 1 + i = i0 + (i + 1) from by omega]; exact h2, h3, h4⟩

theorem add_ne {sel : Nat → Bool} {i j : Nat} (h : j ≠ i) : add sel i j = sel j := by
  have : Nat.beq j i = false := by
    cases hb : Nat.beq j i with
    | false => rfl
    | true => exact absurd (beq_true hb) h
  simp [add, this]

theorem tilOk_add {sel : Nat → Bool} {i : Nat} {t : Option Nat} (h : tilOk (add sel i) t = true) : tilOk sel t = true := by
  cases t with
  | none => rfl
  | some j =>
    simp only [tilOk, add] at h ⊢
    cases hs : sel j with
    | false => rfl
    | true => simp [hs] at h

theorem add_mono {sel : Nat → Bool} {i j : Nat} (h : sel j = true) : add sel i j = true := by simp [add, h]

def isTok : Option SO → Bool
  | some (.tok _) => true
  | _ => false

/-- What is used up was there, is used up once, and not made anew. -/
def eatOk (own0 : List (Nat × SO)) (plan : List PE) : Bool :=
  plan.all fun p => match p.eats with
    | none => true
    | some k => isTok (ownq own0 k) && plan.all fun q => (ownq q.new k).isNone
def eatU : List PE → Bool
  | [] => true
  | p :: ps => (match p.eats with
    | none => true
    | some k => ps.all fun q => match q.eats with
      | none => true
      | some j => !Nat.beq j k) && eatU ps

theorem eatOk_spec {own0 : List (Nat × SO)} {plan : List PE} (h : eatOk own0 plan = true) {p : PE} (hp : p ∈ plan) {k : Nat} (hk : p.eats = some k) : (∃ sz, ownq own0 k = some (.tok sz)) ∧ ∀ q ∈ plan, ownq q.new k = none := by
  have := List.all_eq_true.1 h p hp
  rw [hk] at this
  simp only [Bool.and_eq_true] at this
  refine ⟨?_, fun q hq => by simpa using List.all_eq_true.1 this.2 q hq⟩
  cases ho : ownq own0 k with
  | none => rw [ho] at this; simp [isTok] at this
  | some x =>
    cases x with
    | tok sz => exact ⟨sz, rfl⟩
    | cells t c => rw [ho] at this; simp [isTok] at this
    | obj f => rw [ho] at this; simp [isTok] at this

theorem eatU_spec : ∀ {plan : List PE} {i j : Nat} {p q : PE} {k : Nat}, eatU plan = true → plan[i]? = some p → plan[j]? = some q → p.eats = some k → q.eats = some k → i = j
  | [], _, _, _, _, _, _, h, _, _, _ => by simp at h
  | x :: ps, i, j, p, q, k, hu, h1, h2, e1, e2 => by
    simp only [eatU, Bool.and_eq_true] at hu
    obtain ⟨hu1, hu2⟩ := hu
    have no : ∀ (j : Nat) (q : PE), ps[j]? = some q → x.eats = some k → q.eats = some k → False := by
      intro j q hj ex eq'
      rw [ex] at hu1
      have := List.all_eq_true.1 hu1 q (List.mem_of_getElem? hj)
      rw [eq'] at this
      simp at this
    cases i with
    | zero =>
      simp only [List.getElem?_cons_zero, Option.some.injEq] at h1
      subst h1
      cases j with
      | zero => rfl
      | succ j => exact (no j q (by simpa using h2) e1 e2).elim
    | succ i =>
      cases j with
      | zero =>
        simp only [List.getElem?_cons_zero, Option.some.injEq] at h2
        subst h2
        exact (no i p (by simpa using h1) e2 e1).elim
      | succ j =>
        have := eatU_spec hu2 (by simpa using h1) (by simpa using h2) e1 e2
        omega

theorem ownOf_add {sel : Nat → Bool} {own0 : List (Nat × SO)} (plan : List PE) (i : Nat) (p : PE) (hn : newOk own0 plan = true) (he : eatOk own0 plan = true) (hp : plan[i]? = some p) :
    leO (p.new ++ eatO p.eats (ownOf sel 0 plan own0)) (ownOf (add sel i) 0 plan own0) := by
  intro k o hk
  rw [ownq_append]
  rcases (ownOf_iff plan 0 hn).1 hk with ⟨h, hall⟩ | ⟨j, q, h1, h2, h3, h4⟩
  · have none_of : ∀ j q, plan[j]? = some q → add sel i (0 + j) = true → ownq q.new k = none := by
      intro j q hq hs
      cases hx : ownq q.new k with
      | none => rfl
      | some x =>
        rcases newOk_own hn hq hx with e | ⟨e, _⟩
        · rw [h] at e; cases e
        · have := (hall j q hq hs).1 (by rw [e]; rfl)
          rw [hx] at this
          cases this
    rw [none_of i p hp (by simp [add]), Option.none_or]
    refine eatO_iff.2 ⟨(ownOf_iff plan 0 hn).2 (.inl ⟨h, fun j q hq hs => ⟨fun _ => none_of j q hq (add_mono hs), (hall j q hq (add_mono hs)).2⟩⟩), (hall i p hp (by simp [add])).2⟩
  · by_cases e : j = i
    · subst e
      rw [hp] at h1
      cases h1
      rw [h4]
      rfl
    · have : ownq p.new k = none := by
        cases hx : ownq p.new k with
        | none => rfl
        | some x => exact absurd (newOk_ne hn hp h1 hx h4).symm e
      rw [this, Option.none_or]
      rw [Nat.zero_add] at h2
      rw [add_ne e] at h2
      refine eatO_iff.2 ⟨(ownOf_iff plan 0 hn).2 (.inr ⟨j, q, h1, by rw [Nat.zero_add]; exact h2, tilOk_add h3, h4⟩), fun hek => ?_⟩
      have := (eatOk_spec he (List.mem_of_getElem? hp) hek).2 q (List.mem_of_getElem? h1)
      rw [h4] at this
      cases this

/-- From one operation back to another one, over those behind which it stands. -/
inductive Reach (get : Nat → Option Oper) : Nat → Nat → Prop
  | one {i j : Nat} {o : Oper} (h : get i = some o) (hb : behind o j = true) : Reach get i j
  | step {i j k : Nat} {o : Oper} (h : get i = some o) (hb : behind o k = true) (hr : Reach get k j) : Reach get i j

theorem reach_listed {get : Nat → Option Oper} {L : Nat → Bool} (hc : ∀ i o k, get i = some o → L i = true → behind o k = true → L k = true) {i m : Nat} (hr : Reach get i m) (h : ∀ o, get i = some o → ∀ k, behind o k = true → L k = true) : L m = true := by
  induction hr with
  | one h1 hb => exact h _ h1 _ hb
  | step h1 hb _ ih => exact ih fun o ho k hk => hc _ _ _ ho (h _ h1 _ hb) hk

def maskOf (ms : List Nat) : List Edge → Nat
  | [] => 0
  | e :: es => bif Region.binds .any e then Nat.lor (Nat.lor (Nat.pow 2 e.on) (ms.getD e.on 0)) (maskOf ms es) else maskOf ms es

def sufGo (n : Nat) : Nat → List Nat → List Oper → Bool
  | _, _, [] => true
  | i, ms, o :: os => bif (bif Nat.ble n i then Nat.beq (maskOf ms o.after.toList) (Nat.sub (Nat.pow 2 i) 1) else true) then sufGo n (i + 1) (ms ++ [maskOf ms o.after.toList]) os else false

theorem maskOf_spec {get : Nat → Option Oper} {ms : List Nat} (hm : ∀ (k x : Nat), ms[k]? = some x → ∀ j, x.testBit j = true → Reach get k j) {i : Nat} {o : Oper} (ho : get i = some o) :
    ∀ es : List Edge, (∀ e ∈ es, e ∈ o.after.toList) → ∀ j, (maskOf ms es).testBit j = true → Reach get i j
  | [], _, j, h => by simp [maskOf] at h
  | e :: es, hes, j, h => by
    have ih := maskOf_spec hm ho es (fun e he => hes e (by simp [he])) j
    simp only [maskOf] at h
    cases hb : Region.binds .any e with
    | false => rw [hb] at h; exact ih h
    | true =>
      rw [hb] at h
      have hbe : behind o e.on = true := List.any_eq_true.2 ⟨e, hes e (by simp), by rw [hb]; simp⟩
      have h' : ((2 ^ e.on ||| ms.getD e.on 0) ||| maskOf ms es).testBit j = true := h
      rw [Nat.testBit_or, Nat.testBit_or, Bool.or_eq_true, Bool.or_eq_true] at h'
      rcases h' with (h' | h') | h'
      · rw [Nat.testBit_two_pow] at h'
        have : e.on = j := by simpa using h'
        subst this
        exact .one ho hbe
      · cases hg : ms[e.on]? with
        | none => rw [List.getD_eq_getElem?_getD, hg] at h'; simp at h'
        | some x =>
          rw [List.getD_eq_getElem?_getD, hg] at h'
          exact .step ho hbe (hm _ _ hg j h')
      · exact ih h'

theorem sufGo_spec {all : List Oper} {n : Nat} : ∀ (os : List Oper) (i : Nat) (ms : List Nat), sufGo n i ms os = true → ms.length = i → (∀ k, os[k]? = all[i + k]?) → (∀ (k x : Nat), ms[k]? = some x → ∀ j, x.testBit j = true → Reach (fun i => all[i]?) k j) →
    ∀ k o, os[k]? = some o → n ≤ i + k → ∀ j, j < i + k → Reach (fun i => all[i]?) (i + k) j
  | [], _, _, _, _, _, _, k, o, h => by simp at h
  | x :: xs, i, ms, hs, hl, hall, hm, k, o, h => by
    simp only [sufGo] at hs
    cases hc : (bif Nat.ble n i then Nat.beq (maskOf ms x.after.toList) (Nat.sub (Nat.pow 2 i) 1) else true) with
    | false => rw [hc] at hs; cases hs
    | true =>
      rw [hc, cond_true] at hs
      have hx : all[i]? = some x := by have := hall 0; simpa using this.symm
      have hmask := maskOf_spec (get := fun i => all[i]?) hm hx x.after.toList (fun _ h => h)
      cases k with
      | zero =>
        intro hn j hj
        rw [Nat.add_zero] at hn hj ⊢
        rw [Nat.ble_eq_true_of_le hn, cond_true] at hc
        have e := beq_true hc
        refine hmask j ?_
        rw [e]
        show (2 ^ i - 1).testBit j = true
        rw [Nat.testBit_two_pow_sub_one]
        simpa using hj
      | succ k =>
        intro hn j hj
        have := sufGo_spec xs (i + 1) (ms ++ [maskOf ms x.after.toList]) hs (by simp [hl]) (fun k => by have := hall (k + 1); rw [show i + 1 + k = i + (k + 1) from by omega]; simpa using this) (fun q y hq => by
          by_cases hlt : q < ms.length
          · rw [List.getElem?_append_left hlt] at hq
            exact hm q y hq
          · rw [List.getElem?_append_right (by omega)] at hq
            have : q - ms.length = 0 := by
              cases hz : q - ms.length with
              | zero => rfl
              | succ z => rw [hz] at hq; simp at hq
            rw [this] at hq
            simp only [List.getElem?_cons_zero, Option.some.injEq] at hq
            subst hq
            obtain rfl : q = i := by omega
            exact hmask) k o (by simpa using h) (by omega) j (by omega)
        rw [show i + (k + 1) = i + 1 + k from by omega]
        exact this

def sufOk (n : Nat) (all : List Oper) : Bool := sufGo n 0 [] all

theorem sufOk_spec {n : Nat} {all : List Oper} (h : sufOk n all = true) {i : Nat} {o : Oper} (ho : all[i]? = some o) (hn : n ≤ i) {j : Nat} (hj : j < i) : Reach (fun i => all[i]?) i j := by
  have := sufGo_spec (all := all) all 0 [] h rfl (fun k => by simp) (fun k x hx => by simp at hx) i o ho (by omega) j (by omega)
  simpa using this

/-- Whoever binds stands ahead. -/
def aheadOk : Nat → List Oper → Bool
  | _, [] => true
  | i, o :: os => bif o.after.toList.all (fun e => !Region.binds .any e || Nat.blt e.on i) then aheadOk (i + 1) os else false

theorem aheadOk_spec : ∀ (l : List Oper) (i k : Nat) (o : Oper), aheadOk i l = true → l[k]? = some o → ∀ j, behind o j = true → j < i + k
  | [], _, _, _, _, h => by simp at h
  | x :: xs, i, 0, o, hs, h => by
    simp only [List.getElem?_cons_zero, Option.some.injEq] at h
    subst h
    simp only [aheadOk] at hs
    cases hc : x.after.toList.all (fun e => !Region.binds .any e || Nat.blt e.on i) with
    | false => simp [hc] at hs
    | true =>
      intro j hj
      obtain ⟨e, he, hb⟩ := List.any_eq_true.1 hj
      rw [Bool.and_eq_true] at hb
      have := List.all_eq_true.1 hc e he
      rw [hb.1] at this
      simp only [Bool.not_true, Bool.false_or] at this
      rw [← beq_true hb.2]
      have := Nat.blt_eq.mp this
      omega
  | x :: xs, i, k + 1, o, hs, h => by
    simp only [aheadOk] at hs
    cases hc : x.after.toList.all (fun e => !Region.binds .any e || Nat.blt e.on i) with
    | false => simp [hc] at hs
    | true =>
      simp only [hc, cond_true] at hs
      intro j hj
      have := aheadOk_spec xs (i + 1) k o hs (by simpa using h) j hj
      omega

theorem ready_iff {ops : Array Oper} {listed : Array Bool} {j : Nat} : j ∈ Region.ready .any ops listed ↔
    listed.getD j true = false ∧ ∃ o, ops[j]? = some o ∧ ∀ k, behind o k = true → listed.getD k false = true := by
  rw [mem_ready]
  constructor
  · rintro ⟨h1, o, ho, h⟩
    refine ⟨h1, o, ho, fun k hk => ?_⟩
    obtain ⟨e, he, hb⟩ := List.any_eq_true.1 hk
    rw [Bool.and_eq_true] at hb
    rw [← beq_true hb.2]
    exact h e (by simpa using he) hb.1
  · rintro ⟨h1, o, ho, h⟩
    refine ⟨h1, o, ho, fun e he hb => h e.on ?_⟩
    exact List.any_eq_true.2 ⟨e, by simpa using he, by rw [hb]; simp⟩

/-- The region, in whatever order. -/
theorem wpAny_plan (E : Stc) (ops : Array Oper) (pre suf : List Oper) (plan : List PE) (env0 : List (Nat × SV)) (own0 : List (Nat × SO)) (s : List Fr) (nx : List Nat)
    (hops : ops.toList = pre ++ suf) (hlen : plan.length = pre.length) (hdst : dstsOk pre = true) (htil : tilsLt pre.length plan) (hsuf : sufOk pre.length (pre ++ suf) = true) (hah : aheadOk 0 (pre ++ suf) = true)
    (cert : ∀ i o p, pre[i]? = some o → plan[i]? = some p → Cert E ops pre plan env0 own0 s i o p)
    (hS : Sat E (.ops ops.toList suf) s (envOf (fun _ => true) 0 pre plan env0) (ownOf (fun _ => true) 0 plan own0) nx) :
    ∀ (fuel : Nat) (listed : Array Bool) (a : Act) (w : World), listed.size = ops.size →
      ((∃ i, i < pre.length ∧ listed.getD i false = false) ∧ (∀ i, pre.length ≤ i → listed.getD i false = false) ∧
          (∀ j oj k, pre[j]? = some oj → listed.getD j false = true → behind oj k = true → listed.getD k false = true) ∧
          (listed.toList.filter (!·)).length ≤ fuel ∧ At E (envOf (fun i => listed.getD i false) 0 pre plan env0) (ownOf (fun i => listed.getD i false) 0 plan own0) a w) ∨
      (∃ k, k ≤ suf.length ∧ (∀ i, i < pre.length + k → listed.getD i false = true) ∧ (∀ i, pre.length + k ≤ i → listed.getD i false = false) ∧ suf.length - k ≤ fuel ∧ wpList E.P ops (KK E s) (suf.drop k) a w) →
      wpAny E.P .any ops (KK E s) fuel listed a w := by
  have hget : ∀ i : Nat, ops[i]? = (pre ++ suf)[i]? := fun i => by rw [← hops]; simp
  have hsize : ops.size = pre.length + suf.length := by rw [← Array.length_toList, hops, List.length_append]
  have hd : ∀ (listed : Array Bool) (i : Nat), listed.size = ops.size → i < ops.size → listed.getD i true = listed.getD i false := by
    intro listed i h1 h2
    simp [h1, h2]
  -- the second phase
  have second : ∀ (fuel : Nat) (listed : Array Bool) (a : Act) (w : World) (k : Nat), listed.size = ops.size → k ≤ suf.length → (∀ i, i < pre.length + k → listed.getD i false = true) →
      (∀ i, pre.length + k ≤ i → listed.getD i false = false) → suf.length - k ≤ fuel → wpList E.P ops (KK E s) (suf.drop k) a w → wpAny E.P .any ops (KK E s) fuel listed a w := by
    intro fuel
    induction fuel with
    | zero =>
      intro listed a w k hls hk h1 h2 hf hw
      have hkk : k = suf.length := by omega
      subst hkk
      rw [List.drop_length] at hw
      refine ⟨?_, hw⟩
      apply List.eq_nil_iff_forall_not_mem.2
      intro j hj
      obtain ⟨hj1, o, ho, _⟩ := ready_iff.1 hj
      have hlt : j < ops.size := (Array.getElem?_eq_some_iff.1 ho).1
      rw [hd listed j hls hlt, h1 j (by omega)] at hj1
      cases hj1
    | succ fuel ih =>
      intro listed a w k hls hk h1 h2 hf hw
      by_cases hke : k = suf.length
      · subst hke
        rw [List.drop_length] at hw
        have hr : Region.ready .any ops listed = [] := by
          apply List.eq_nil_iff_forall_not_mem.2
          intro j hj
          obtain ⟨hj1, o, ho, _⟩ := ready_iff.1 hj
          have hlt : j < ops.size := (Array.getElem?_eq_some_iff.1 ho).1
          rw [hd listed j hls hlt, h1 j (by omega)] at hj1
          cases hj1
        exact ⟨fun _ => hw, by rw [hr]; simp⟩
      · have hlt : k < suf.length := by omega
        have hok : suf[k]? = some suf[k] := List.getElem?_eq_getElem hlt
        have hdk : suf.drop k = suf[k] :: suf.drop (k + 1) := List.drop_eq_getElem_cons hlt
        have hop : ops[pre.length + k]? = some suf[k] := by
          rw [hget, List.getElem?_append_right (by omega)]
          simp
        have hready : ∀ j, j ∈ Region.ready .any ops listed ↔ j = pre.length + k := by
          intro j
          rw [ready_iff]
          constructor
          · rintro ⟨hj1, o, ho, hb⟩
            have hjl : j < ops.size := (Array.getElem?_eq_some_iff.1 ho).1
            rw [hd listed j hls hjl] at hj1
            have hjge : pre.length + k ≤ j := by
              rcases Nat.lt_or_ge j (pre.length + k) with h | h
              · rw [h1 j h] at hj1; cases hj1
              · exact h
            rcases Nat.lt_or_ge (pre.length + k) j with h | h
            · exfalso
              have hoj0 : (pre ++ suf)[j]? = some o := by rw [← hget]; exact ho
              have := reach_listed (get := fun i => (pre ++ suf)[i]?) (L := fun i => listed.getD i false) (fun i o k' hi hL hb' => h1 k' (by
                have hlt' := aheadOk_spec (pre ++ suf) 0 i o hah hi k' hb'
                rcases Nat.lt_or_ge i (pre.length + k) with h' | h'
                · omega
                · simp only [h2 i h'] at hL
                  cases hL)) (sufOk_spec hsuf hoj0 (by omega) h) (fun o' ho' k' hk' => by
                rw [hoj0] at ho'
                cases ho'
                exact hb k' hk')
              simp only [h2 _ (Nat.le_refl _)] at this
              cases this
            · omega
          · rintro rfl
            have hjl : pre.length + k < ops.size := by omega
            refine ⟨by rw [hd listed _ hls hjl]; exact h2 _ (Nat.le_refl _), suf[k], hop, fun j hj => h1 j ?_⟩
            have := aheadOk_spec (pre ++ suf) 0 (pre.length + k) suf[k] hah (by rw [← hget]; exact hop) j hj
            omega
        refine ⟨fun h0 => ?_, fun j hj => ?_⟩
        · have := (hready (pre.length + k)).2 rfl
          rw [h0] at this
          cases this
        · obtain rfl := (hready j).1 hj
          rw [hdk] at hw
          have key : ∀ a w, wpList E.P ops (KK E s) (suf.drop (k + 1)) a w → wpAny E.P .any ops (KK E s) fuel (listed.setIfInBounds (pre.length + k) true) a w := by
            intro a w hw
            refine ih _ a w (k + 1) (by simpa using hls) (by omega) (fun i hi => ?_) (fun i hi => ?_) (by omega) hw
            · by_cases e : i = pre.length + k
              · subst e
                have : pre.length + k < listed.size := by omega
                simp [this]
              · rw [getD_set_ne false (Ne.symm e)]; exact h1 i (by omega)
            · rw [getD_set_ne false (by omega)]; exact h2 i (by omega)
          unfold wpOp
          rw [hop]
          simp only
          unfold wpList at hw
          split
          · rename_i hwant
            rw [if_pos hwant] at hw
            exact hw.imp (Oper.wp_mono key) id
          · rename_i hwant
            rw [if_neg hwant] at hw
            exact key _ _ hw
  intro fuel
  induction fuel with
  | zero =>
    intro listed a w hls h
    rcases h with ⟨⟨i, hi, hli⟩, _, _, hf, _⟩ | ⟨k, hk, h1, h2, hf, hw⟩
    · exfalso
      have hil : i < listed.size := by omega
      have : false ∈ listed.toList := by
        have e : listed.getD i false = listed[i] := by simp [hil]
        rw [e] at hli
        rw [← hli]
        exact Array.mem_toList_iff.2 (Array.getElem_mem hil)
      have hm : false ∈ listed.toList.filter (!·) := List.mem_filter.2 ⟨this, rfl⟩
      have := List.length_pos_of_mem hm
      omega
    · exact second 0 listed a w k hls hk h1 h2 hf hw
  | succ fuel ih =>
    intro listed a w hls h
    rcases h with ⟨⟨i, hi, hli⟩, hsf, hcl, hf, hat⟩ | ⟨k, hk, h1, h2, hf, hw⟩
    · -- the first phase
      -- the least that is left may come
      have hleast : ∃ m, m < pre.length ∧ listed.getD m false = false ∧ ∀ j, j < m → listed.getD j false = true := by
        have : ∀ n, n ≤ pre.length → (∀ j, j < n → listed.getD j false = true) ∨ ∃ m, m < n ∧ listed.getD m false = false ∧ ∀ j, j < m → listed.getD j false = true := by
          intro n
          induction n with
          | zero => intro _; exact .inl fun j hj => absurd hj (Nat.not_lt_zero j)
          | succ n ihn =>
            intro hn
            rcases ihn (by omega) with h | ⟨m, hm, h1, h2⟩
            · cases hc : listed.getD n false with
              | true =>
                refine .inl fun j hj => ?_
                rcases Nat.lt_or_ge j n with h' | h'
                · exact h j h'
                · have : j = n := by omega
                  subst this
                  exact hc
              | false => exact .inr ⟨n, by omega, hc, h⟩
            · exact .inr ⟨m, by omega, h1, h2⟩
        rcases this pre.length (Nat.le_refl _) with h | ⟨m, hm, h1, h2⟩
        · rw [h i hi] at hli; cases hli
        · exact ⟨m, hm, h1, h2⟩
      obtain ⟨m, hm, hlm, hbm⟩ := hleast
      have hom : ops[m]? = some pre[m] := by
        rw [hget, List.getElem?_append_left hm]
        exact List.getElem?_eq_getElem hm
      have hmr : m ∈ Region.ready .any ops listed := by
        refine ready_iff.2 ⟨by rw [hd listed m hls (by omega)]; exact hlm, pre[m], hom, fun j hj => hbm j ?_⟩
        have := aheadOk_spec (pre ++ suf) 0 m pre[m] hah (by rw [← hget]; exact hom) j hj
        omega
      refine ⟨fun h0 => (by rw [h0] at hmr; cases hmr), fun j hj => ?_⟩
      obtain ⟨hj1, o, ho, hb⟩ := ready_iff.1 hj
      have hjl : j < ops.size := (Array.getElem?_eq_some_iff.1 ho).1
      rw [hd listed j hls hjl] at hj1
      have hjp : j < pre.length := by
        rcases Nat.lt_or_ge j pre.length with h | h
        · exact h
        · exfalso
          have hoj0 : (pre ++ suf)[j]? = some o := by rw [← hget]; exact ho
          have := reach_listed (get := fun i => (pre ++ suf)[i]?) (L := fun i => listed.getD i false) (fun i o k' hi hL hb' => by
            rcases Nat.lt_or_ge i pre.length with h' | h'
            · rw [List.getElem?_append_left h'] at hi
              exact hcl i o k' hi hL hb'
            · simp only [hsf i h'] at hL
              cases hL) (sufOk_spec hsuf hoj0 h (show m < j by omega)) (fun o' ho' k' hk' => by
            rw [hoj0] at ho'
            cases ho'
            exact hb k' hk')
          simp only [hlm] at this
          cases this
      have hoj : pre[j]? = some o := by
        rw [hget, List.getElem?_append_left hjp] at ho
        exact ho
      have hpj : plan[j]? = some plan[j] := List.getElem?_eq_getElem (by omega)
      have hc := cert j o plan[j] hoj hpj (fun i => listed.getD i false) hj1 hb hcl a w hat
      refine wpOp_mono (fun a' w' hat' => ?_) hc
      have hsel : ∀ i, i < pre.length → (listed.setIfInBounds j true).getD i false = add (fun i => listed.getD i false) j i := by
        intro i hip
        by_cases e : i = j
        · subst e
          have : i < listed.size := by omega
          simp [this, add]
        · rw [getD_set_ne false (Ne.symm e)]
          have : Nat.beq i j = false := by
            cases hb : Nat.beq i j with
            | false => rfl
            | true => exact absurd (beq_true hb) e
          simp [add, this]
      have hat2 : At E (envOf (fun i => (listed.setIfInBounds j true).getD i false) 0 pre plan env0) (ownOf (fun i => (listed.setIfInBounds j true).getD i false) 0 plan own0) a' w' := by
        rw [envOf_congr (sel' := add (fun i => listed.getD i false) j) pre plan 0 env0 (fun i _ hi => hsel i (by omega)), ownOf_congr (sel' := add (fun i => listed.getD i false) j) hsel plan 0 own0 htil (by omega)]
        refine at_le hat' ?_ fun _ _ h => h
        have := envOf_add (sel := fun i => listed.getD i false) pre plan 0 j env0 o plan[j] hdst hoj hpj
        rw [Nat.zero_add] at this
        exact this
      have hcount : ((listed.setIfInBounds j true).toList.filter (!·)).length ≤ fuel := by
        have hjls : j < listed.toList.length := by simpa using (by omega : j < listed.size)
        have e1 : (listed.setIfInBounds j true).toList = listed.toList.set j true := by simp
        have e2 : listed.toList = listed.toList.take j ++ listed.toList[j] :: listed.toList.drop (j + 1) := by
          rw [← List.drop_eq_getElem_cons hjls, List.take_append_drop]
        have e3 : listed.toList.set j true = listed.toList.take j ++ true :: listed.toList.drop (j + 1) := List.set_eq_take_append_cons_drop.trans (if_pos hjls)
        have e4 : listed.toList[j] = false := by
          have : listed.getD j false = listed[j]'(by omega) := by simp [show j < listed.size by omega]
          rw [this] at hj1
          simpa using hj1
        rw [e1, e3]
        rw [e2, e4] at hf
        simp only [List.filter_append, List.filter_cons, List.length_append] at hf ⊢
        simp at hf ⊢
        omega
      refine ih _ a' w' (by simpa using hls) ?_
      by_cases hall : ∃ i, i < pre.length ∧ (listed.setIfInBounds j true).getD i false = false
      · refine .inl ⟨hall, fun i hi => by rw [getD_set_ne false (by omega)]; exact hsf i hi, fun i oi k hoi hli hk => ?_, hcount, hat2⟩
        by_cases e : i = j
        · subst e
          rw [hoj] at hoi
          cases hoi
          exact getD_set_true (hb k hk)
        · rw [getD_set_ne false (Ne.symm e)] at hli
          exact getD_set_true (hcl i oi k hoi hli hk)
      · refine .inr ⟨0, Nat.zero_le _, fun i hi => ?_, fun i hi => by rw [getD_set_ne false (by omega)]; exact hsf i (by omega), ?_, ?_⟩
        · cases hc : (listed.setIfInBounds j true).getD i false with
          | true => rfl
          | false => exact absurd ⟨i, by omega, hc⟩ hall
        · -- all that is left are those behind
          have hle : suf.length ≤ ((listed.setIfInBounds j true).toList.filter (!·)).length := by
            have e5 : (listed.setIfInBounds j true).toList.drop pre.length = List.replicate suf.length false := by
              apply List.ext_getElem?
              intro i
              rw [List.getElem?_drop, List.getElem?_replicate]
              by_cases hi : i < suf.length
              · rw [if_pos hi]
                have hlt : pre.length + i < (listed.setIfInBounds j true).size := by simp; omega
                have : (listed.setIfInBounds j true).getD (pre.length + i) false = false := by
                  rw [getD_set_ne false (by omega)]; exact hsf _ (by omega)
                rw [Array.getElem?_toList, Array.getElem?_eq_getElem hlt]
                have e6 : (listed.setIfInBounds j true).getD (pre.length + i) false = (listed.setIfInBounds j true)[pre.length + i] := by
                  rw [Array.getD_eq_getD_getElem?, Array.getElem?_eq_getElem hlt]; rfl
                rw [← e6, this]
              · rw [if_neg hi]
                apply List.getElem?_eq_none
                simp
                omega
            have e7 : ((listed.setIfInBounds j true).toList.filter (!·)).length = (((listed.setIfInBounds j true).toList.take pre.length).filter (!·)).length + (((listed.setIfInBounds j true).toList.drop pre.length).filter (!·)).length := by
              rw [← List.length_append, ← List.filter_append, List.take_append_drop]
            rw [e7, e5]
            simp
          omega
        · refine hS a' w' ?_
          rw [envOf_congr (sel' := fun i => (listed.setIfInBounds j true).getD i false) pre plan 0 env0 (fun i _ hi => ?_), ownOf_congr (sel' := fun i => (listed.setIfInBounds j true).getD i false) (N := pre.length) (fun i hi => ?_) plan 0 own0 htil (by omega)]
          · exact hat2
          · cases hc : (listed.setIfInBounds j true).getD i false with
            | true => rfl
            | false => exact absurd ⟨i, by omega, hc⟩ hall
          · cases hc : (listed.setIfInBounds j true).getD i false with
            | true => rfl
            | false => exact absurd ⟨i, by omega, hc⟩ hall
    · exact second (fuel + 1) listed a w k hls hk h1 h2 hf hw

end Go.Eng
