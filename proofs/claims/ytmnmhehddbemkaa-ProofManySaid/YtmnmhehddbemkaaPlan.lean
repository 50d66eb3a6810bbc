/- The proof engine, part 16: a plan for a region whose order is drawn, reckoned. -/
import Derived.Test.YtmnmhehddbemkaaDraw
namespace Go.Eng

inductive Ans where
  | sv (s : SV)
  | yes
  | no
  | val (s : SV)
  | gro (s : SV)
  | tok (sz : Nat) (rows : List (List DV)) (til : Option Nat)
  | use (k sz : Nat) (rows : List (List DV))
  | eat (k sz : Nat) (rows : List (List DV)) (til : Option Nat)
  | met (k : Nat) (so : SO) (s : SV)
  | forget

inductive PlanR where
  | ok (plan : List PE) (env : List (Nat × SV)) (own : List (Nat × SO)) (ob : List Prop)
  | stuck (i : Nat)

section
variable {α : Type}

def putK (dst : Option Nat) (s : SV) (env : List (Nat × SV)) (k : List (Nat × SV) → α) : α :=
  match dst with
  | some d => k ((d, s) :: env)
  | none => k env
theorem putK_eq (dst : Option Nat) (s : SV) (env : List (Nat × SV)) (k : List (Nat × SV) → α) : putK dst s env k = k (put dst s env) := by cases dst <;> rfl

def envOfK (sel : Nat → Bool) : Nat → List Oper → List PE → List (Nat × SV) → (List (Nat × SV) → α) → α
  | i, o :: os, p :: ps, env, k => envOfK sel (i + 1) os ps env fun r => match p with
    | ⟨s, _, _, _, _⟩ => bif sel i then putK o.dst s r k else putK o.dst .any r k
  | i, o :: os, [], env, k => envOfK sel (i + 1) os [] env fun r => putK o.dst .any r k
  | _, [], _, env, k => k env
theorem envOfK_eq (sel : Nat → Bool) : ∀ (i : Nat) (os : List Oper) (ps : List PE) (env : List (Nat × SV)) (k : List (Nat × SV) → α), envOfK sel i os ps env k = k (envOf sel i os ps env)
  | i, o :: os, p :: ps, env, k => by
    simp only [envOfK, envOf, envOfK_eq sel (i + 1) os ps, putK_eq]
    cases sel i <;> rfl
  | i, o :: os, [], env, k => by simp only [envOfK, envOf, envOfK_eq sel (i + 1) os [], putK_eq]
  | _, [], _, _, _ => by simp [envOfK, envOf]

def ownOfK : List PE → List (Nat × SO) → (List (Nat × SO) → α) → α
  | ⟨_, l, t, e, _⟩ :: ps, own, k => match e with
    | some j => rm1K j own fun own => ownOfK ps own fun r => match t, l with
      | some _, _ => k r
      | none, [x] => k (x :: r)
      | none, l => k (l ++ r)
    | none => ownOfK ps own fun r => match t, l with
      | some _, _ => k r
      | none, [x] => k (x :: r)
      | none, l => k (l ++ r)
  | [], own, k => k own
theorem ownOfK_eq : ∀ (i : Nat) (ps : List PE) (own : List (Nat × SO)) (k : List (Nat × SO) → α), ownOfK ps own k = k (ownOf (fun _ => true) i ps own)
  | i, ⟨s, l, t, e, _⟩ :: ps, own, k => by
    cases e with
    | some j =>
      simp only [ownOfK, rm1K_eq, ownOf, ownOfK_eq (i + 1) ps, cond_true, eatO]
      cases t with
      | some j => rfl
      | none => match l with
        | [] => rfl
        | [x] => rfl
        | x :: y :: l => rfl
    | none =>
      simp only [ownOfK, ownOf, ownOfK_eq (i + 1) ps, cond_true, eatO]
      cases t with
      | some j => rfl
      | none => match l with
        | [] => rfl
        | [x] => rfl
        | x :: y :: l => rfl
  | _, [], _, _ => rfl

def appK (ps : List PE) (p : PE) (k : List PE → α) : α :=
  match ps with
  | [] => k [p]
  | x :: xs => appK xs p fun r => k (x :: r)
theorem appK_eq (p : PE) : ∀ (ps : List PE) (k : List PE → α), appK ps p k = k (ps ++ [p])
  | [], _ => rfl
  | x :: xs, k => by simp only [appK, appK_eq p xs, List.cons_append]

def ansK (i : Nat) (k : Ans → α) (f : α) : List (Nat × Ans) → α
  | [] => f
  | (j, a) :: l => bif Nat.beq j i then k a else ansK i k f l
def ansq (i : Nat) : List (Nat × Ans) → Option Ans
  | [] => none
  | (j, a) :: l => bif Nat.beq j i then some a else ansq i l
theorem ansK_eq (i : Nat) (k : Ans → α) (f : α) : ∀ l, ansK i k f l = match ansq i l with | some a => k a | none => f
  | [] => rfl
  | (j, a) :: l => by
    simp only [ansK, ansq]
    cases Nat.beq j i with
    | true => rfl
    | false => exact ansK_eq i k f l
def ansSv (a : Option Ans) (k : SV → α) (f : α) : α :=
  match a with
  | some (.sv s) => k s
  | _ => f
def ansBl (a : Option Ans) (v : SV) (k : α) (ky kn : Bool → α) (f : α) : α :=
  match a, v with
  | none, _ => k
  | some .yes, .bl c => ky c
  | some .no, .bl c => kn c
  | _, _ => f
def ansqK (i : Nat) (l : List (Nat × Ans)) (k : Option Ans → α) : α := ansK i (fun a => k (some a)) (k none) l
theorem ansqK_eq (i : Nat) (l : List (Nat × Ans)) (k : Option Ans → α) : ansqK i l k = k (ansq i l) := by
  unfold ansqK
  rw [ansK_eq]
  cases ansq i l <;> rfl
end

/-- The block that an operation makes. -/
def newOfK {α : Type} (T : Nat → TI) (o : Op) (env : List (Nat × SV)) (k : Nat → List SV → α) (f : α) : α :=
  match o with
  | .alloc t => match (T t).kd, (T t).zok with
    | .other, _ => f
    | _, true => constsK (T t).zero fun cs => bif SV.ones cs then k t cs else f
    | _, _ => f
  | .box t x => evK env x fun s => cellsK s (fun cs => k t cs) f
  | _ => f

/-- A new block, whose cells are told. -/
theorem Dn.new' {cx : Cx} {g : Nat → Value} {H : Hp} {env : List (Nat × SV)} {own : List (Nat × SO)} {n : Nat} {tmps : Array Value} {w : World} {k t : Nat} {cs : List SV} {vs : List Value}
    (h : Dn cx g H env own n tmps w) (hm : cx.m0 ≤ k) (hcs : SV.noKs k cs = true) (hE : freshE k env = true) (hO : freshO k own = true) (hd : Dens g H cs vs) (h1 : ∀ v ∈ vs, v.oneCell' = true) :
    Dn cx (upd g k (.pointer (some ⟨w.heap.size, 0, none⟩))) H env ((k, .cells t cs) :: own) n tmps (w.alloc (.cells vs.toArray t)) := by
  have hne : ∀ i, i ≠ k → upd g k (.pointer (some ⟨w.heap.size, 0, none⟩)) i = g i := fun i hi => upd_ne _ _ _ i hi
  have h' := h.grown (w' := w.alloc (.cells vs.toArray t)) rfl rfl rfl (by simp) (fun b hb => heap_alloc_lt w _ hb) (frozen_alloc w _ _)
  refine { size := h.size, den := fun x => Den.upd hne _ _ (freshE_nth x hE) (h.den x), ok := fun j o hj => ?_, inj := fun i j hi hj b hbi hbj => ?_, hp := h'.hp, base := { h'.base with fix := fun j hj => by rw [hne j (by omega)]; exact h.base.fix j hj } }
  · simp only [ownq] at hj
    cases hb : Nat.beq k j with
    | true =>
      have := beq_true hb
      subst this
      simp only [hb, cond_true, Option.some.injEq] at hj
      subst hj
      exact ⟨w.heap.size, vs, upd_same _ _ _, Dens.upd hne cs vs hcs hd, h1, heap_alloc_new w _, fun o => Hp.on_new h.hp o, .inl h.base.size⟩
    | false =>
      simp only [hb, cond_false] at hj
      exact (h'.ok j o hj).upd (freshO_own hO hj)
  · have key : ∀ j b, (ownq ((k, SO.cells t cs) :: own) j).isSome = true → blkOf (upd g k (.pointer (some ⟨w.heap.size, 0, none⟩)) j) = some b → (j = k ∧ b = w.heap.size) ∨ (j ≠ k ∧ (ownq own j).isSome = true ∧ blkOf (g j) = some b ∧ b < w.heap.size) := by
      intro j b hj hb
      by_cases hjk : j = k
      · subst hjk
        rw [upd_same] at hb
        simp only [blkOf, Option.some.injEq] at hb
        exact .inl ⟨rfl, hb.symm⟩
      · have hbf : Nat.beq k j = false := by
          cases hb' : Nat.beq k j with
          | false => rfl
          | true => exact absurd (beq_true hb').symm hjk
        simp only [ownq, hbf, cond_false] at hj
        rw [hne j hjk] at hb
        cases ho : ownq own j with
        | none => rw [ho] at hj; simp at hj
        | some o => exact .inr ⟨hjk, by rw [ho] at hj; exact hj, hb, (h.ok j o ho).blk_lt hb⟩
    rcases key i b hi hbi with ⟨e1, e2⟩ | ⟨n1, o1, b1, l1⟩ <;> rcases key j b hj hbj with ⟨e3, e4⟩ | ⟨n2, o2, b2, l2⟩
    · rw [e1, e3]
    · omega
    · omega
    · exact h.inj i j o1 o2 b b1 b2

theorem Dens.anys {g : Nat → Value} {H : Hp} : ∀ (vs : List Value), Dens g H (List.replicate vs.length .any) vs
  | [] => trivial
  | _ :: vs => ⟨trivial, Dens.anys vs⟩

theorem noKs_anys (k : Nat) : ∀ n, SV.noKs k (List.replicate n .any) = true
  | 0 => rfl
  | n + 1 => by simp [List.replicate_succ, SV.noKs, SV.noK, noKs_anys k n]

def anys (n : Nat) : List SV := List.replicate n .any

/-- A writing into a block that nobody else touches meanwhile. -/
def DoesW (P : Program) (o : Oper) (env : List (Nat × SV)) (own : List (Nat × SO)) (k ty : Nat) (old new : List SV) : Prop :=
  ∀ (cx : Cx) (g : Nat → Value) (H : Hp) (n : Nat) (own' : List (Nat × SO)) (env' : List (Nat × SV)) (a : Act) (w : World), Dn cx g H env own n a.tmps w → Dn cx g H env' own' n a.tmps w → ownq own' k = some (.cells ty old) →
    ∃ w', (execOp a.eval o).run P w = .ok .skip w' ∧ Dn cx g H env' (setOwn k (.cells ty new) own') n a.tmps w'

theorem doesW_store {P : Program} {env : List (Nat × SV)} {own : List (Nat × SO)} {o : Oper} {t k off ty : Nat} {x y : Operand} {cs new : List SV} (ho : o.op = .store t x y) (hx : ev env x = .ptr k off)
    (hy : cellsOf (ev env y) = some new) (hs : (tiOf P t).kd ≠ .other) (hl : new.length = (tiOf P t).size) (hf : off + new.length ≤ cs.length) :
    DoesW P o env own k ty cs (splice new off cs) := by
  intro cx g H n own' env' a w hd hd' hk
  obtain ⟨b, vs, hg, hv, hw, hone⟩ := hd'.cells hk
  have hp := hd.ev x
  rw [hx] at hp
  obtain ⟨b', hg', he⟩ := hp
  have : b' = b := by rw [hg] at hg'; simpa using hg'.symm
  subst this
  obtain ⟨i, d, hsp⟩ := ti_spec hs
  have hn := cellsOf_den hy (hd.ev y)
  have hn1 := cellsOf_ones hy
  refine ⟨_, ?_, hd'.write hk hg (hn.splice (off := off) hv) ?_⟩
  · have hlen := hn.length
    have hlen2 := hv.length
    have := run_storeCells_at (P := P) b' off ty (a.eval y).cells.toList 0 vs.toArray w hw (by simp only [Nat.add_zero, List.size_toArray]; omega) (hn.oneCells hn1)
    have hsz : ((a.eval y).cells.size ≠ i.size) = False := by
      rw [hsp.size] at hl
      rw [← Array.length_toList, hlen, hl]
      simp
    simp only [Nat.add_zero] at this
    simp [execOp, ho, Instr.storeAt, Instr.sureAddr, he, storeVar, run_sizeOf' hsp.info, hsz, this, splice]
  · intro v hv'
    unfold Eng.splice at hv'
    rcases List.mem_append.1 hv' with hv' | hv'
    · rcases List.mem_append.1 hv' with hv' | hv'
      · exact hone v (List.mem_of_mem_take hv')
      · exact hn.oneCells hn1 v hv'
    · exact hone v (List.mem_of_mem_drop hv')

/-- A call that may write one of the own blocks, which nobody else touches meanwhile. -/
def DoesM (P : Program) (o : Oper) (env : List (Nat × SV)) (own : List (Nat × SO)) (k : Nat) (so so' : SO) (v : SV) : Prop :=
  ∀ (cx : Cx) (g : Nat → Value) (H : Hp) (n : Nat) (own' : List (Nat × SO)) (env' : List (Nat × SV)) (a : Act) (w : World), Dn cx g H env own n a.tmps w → Dn cx g H env' own' n a.tmps w → ownq own' k = some so →
    ∃ f vs, (execOp a.eval o).run P w = .ok (.enter f vs) w ∧ Calls P f vs w fun e w' => match e with
      | .returned x => ∃ H', Den g H' v x ∧ Dn cx g H' env' (setOwn k so' own') n a.tmps w'
      | _ => False

theorem doesM_call {P : Program} {o : Oper} {env : List (Nat × SV)} {own : List (Nat × SO)} {k f : Nat} {so so' : SO} {v : SV} {args : List SV} (hC : Contract P f 1 [(0, so)] args fun s post => s = v ∧ post = [(0, so')]) (hc : callK o.op env (fun f l => some (f, l)) none = some (f, rens (fun _ => k) args))
    (h1 : v.lt 1 = true := by rfl) (h2 : cellsLt 1 [(0, so')] = true := by rfl) (h3 : ren (fun _ => k) v = v := by rfl) (h4 : renO (fun _ => k) so = so := by rfl) (h5 : renO (fun _ => k) so' = so' := by rfl) : DoesM P o env own k so so' v := by
  intro cx g H n own' env' a w hd hd' hk
  obtain ⟨vs, hv, hr⟩ := run_call (P := P) hd hC.1 hc
  have hpre : pres (fun _ => k) own' [(0, so)] := ⟨by rw [h4]; exact hk, trivial⟩
  have hv' : Dens (fun j => g ((fun _ => k) j)) H args vs := Dens.unren (g' := g) (r := fun _ => k) (fun _ => rfl) args vs hv
  have key : ∀ i, (ownq [(0, so)] i).isSome = true → i = 0 := by
    intro i hi
    cases i with
    | zero => rfl
    | succ i => exact absurd hi (by show ¬ (false = true); simp)
  have hok : ∀ j o, ownq [(0, so)] j = some o → OwnOk (fun _ => True) (fun _ => g k) H w j o := by
    intro j o hj
    have h0 := key j (by rw [hj]; rfl)
    subst h0
    have e : so = o := by simpa [ownq] using hj
    subst e
    have := hd'.ok k _ hk
    cases so with
    | cells ty cs =>
      obtain ⟨b, ws, e, q1, q2, q3, q4, q5⟩ := this
      simp only [renO, SO.cells.injEq, true_and] at h4
      exact ⟨b, ws, e, Dens.unren (g' := g) (r := fun _ => k) (fun _ => rfl) cs ws (by rw [h4]; exact q1), q2, q3, q4, trivial⟩
    | tok sz =>
      obtain ⟨ad, q, c, e, q1, hle, q2⟩ := this
      refine ⟨ad, q, c, e, q1, hle, fun p hpa hlt => ?_⟩
      obtain ⟨q3, _, q5⟩ := q2 p hpa hlt
      exact ⟨q3, trivial, q5⟩
    | obj q =>
      obtain ⟨r, o, e, q1, q2, q3, _⟩ := this
      exact ⟨r, o, e, q1, q2, q3, trivial⟩
  have hinj : InjOn (fun _ => g k) [(0, so)] := by
    intro i j hi hj _ _ _
    rw [key i hi, key j hj]
  have hcall := hC.2 (fun _ => g k) H w vs hd'.hp hok hinj hv'
  refine ⟨f, vs.toArray, hr, hcall.mono fun e w' he => ?_⟩
  cases e with
  | panicked c => exact he.elim
  | outgrown => exact he.elim
  | returned x =>
    obtain ⟨sv, post, ⟨rfl, rfl⟩, hb⟩ := hd'.called (r := fun _ => k) hpre (fun k hk => by
      obtain rfl : k = 0 := by omega
      rfl) he
    obtain ⟨H', hv2, hd2⟩ := hb h1 h2 rfl
    rw [h3] at hv2
    refine ⟨H', hv2, ?_⟩
    simp only [posts, h5] at hd2
    exact hd2

/-- What is written is forgotten at once. -/
theorem doesW_any {P : Program} {env : List (Nat × SV)} {own : List (Nat × SO)} {o : Oper} {t k off ty m : Nat} {x y : Operand} {new : List SV} (ho : o.op = .store t x y) (hx : ev env x = .ptr k off)
    (hy : cellsOf (ev env y) = some new) (hs : (tiOf P t).kd ≠ .other) (hl : new.length = (tiOf P t).size) (hf : off + new.length ≤ m) :
    DoesW P o env own k ty (anys m) (anys m) := by
  intro cx g H n own' env' a w hd hd' hk
  obtain ⟨w', hr, hd2⟩ := doesW_store (P := P) (ty := ty) ho hx hy hs hl (by simpa [anys] using hf : off + new.length ≤ (anys m).length) cx g H n own' env' a w hd hd' hk
  refine ⟨w', hr, ?_⟩
  have hk2 : ownq (setOwn k (.cells ty (splice new off (anys m))) own') k = some (.cells ty (splice new off (anys m))) := by rw [ownq_setOwn, if_pos rfl, hk]; rfl
  obtain ⟨b, vs, e, hv, hone, hw, hH, hm⟩ := hd2.ok k _ hk2
  have hlen : vs.length = m := by
    rw [hv.length, splice_length (by simpa [anys] using hf)]
    simp [anys]
  have hd3 := hd2.write (new := anys m) hk2 e (by have := Dens.anys (g := g) (H := H) vs; rw [hlen] at this; exact this) hone
  rw [setRow_self w' b vs.toArray ty (0, 0) hw] at hd3
  refine hd3.le' (fun j o hj => ?_)
  rw [ownq_setOwn] at hj ⊢
  by_cases hjk : j = k
  · subst hjk
    rw [if_pos rfl, hk] at hj
    rw [if_pos rfl, hk2]
    exact hj
  · rw [if_neg hjk] at hj ⊢
    rw [ownq_setOwn, if_neg hjk]
    exact hj

/-- Whether a part makes a block whose cells are forgotten. -/
def isAnyP (b : Nat) : PE → Option (Nat × Nat)
  | ⟨.ptr c 0, [(d, .cells t cs)], none, none, false⟩ => bif Nat.beq b c && (Nat.beq b d && cs.all isAny) then some (t, cs.length) else none
  | _ => none
/-- Which part made it. -/
def anyAt (b : Nat) (o : Oper) : Nat → List PE → Option (Nat × Nat × Nat)
  | _, [] => none
  | j, p :: ps => match isAnyP b p with
    | some (t, m) => bif behind o j then some (j, t, m) else anyAt b o (j + 1) ps
    | none => anyAt b o (j + 1) ps

theorem isAnyP_spec {b : Nat} {p : PE} {t m : Nat} (h : isAnyP b p = some (t, m)) : p = ⟨.ptr b 0, [(b, .cells t (anys m))], none, none, false⟩ := by
  unfold isAnyP at h
  split at h
  · rename_i c d t' cs
    cases hc : (Nat.beq b c && (Nat.beq b d && cs.all isAny)) with
    | false => rw [hc] at h; cases h
    | true =>
      rw [hc, cond_true] at h
      simp only [Option.some.injEq, Prod.mk.injEq] at h
      obtain ⟨rfl, rfl⟩ := h
      simp only [Bool.and_eq_true] at hc
      obtain ⟨h1, h2, h3⟩ := hc
      have e : cs = anys cs.length := by
        unfold anys
        exact List.eq_replicate_iff.2 ⟨rfl, fun x hx => isAny_eq (List.all_eq_true.1 h3 x hx)⟩
      rw [← beq_true h1, ← beq_true h2, ← e]
  · cases h

theorem anyAt_spec {b : Nat} {o : Oper} : ∀ (ps : List PE) (j0 : Nat) {j t m : Nat}, anyAt b o j0 ps = some (j, t, m) → j0 ≤ j ∧ ps[j - j0]? = some ⟨.ptr b 0, [(b, .cells t (anys m))], none, none, false⟩ ∧ behind o j = true
  | [], _, _, _, _, h => by simp [anyAt] at h
  | p :: ps, j0, j, t, m, h => by
    have rec' : anyAt b o (j0 + 1) ps = some (j, t, m) → j0 ≤ j ∧ (p :: ps)[j - j0]? = some ⟨.ptr b 0, [(b, .cells t (anys m))], none, none, false⟩ ∧ behind o j = true := by
      intro h
      obtain ⟨h1, h2, h3⟩ := anyAt_spec ps (j0 + 1) h
      refine ⟨by omega, ?_, h3⟩
      rw [show j - j0 = (j - (j0 + 1)) + 1 from by omega]
      simpa using h2
    simp only [anyAt] at h
    cases hp : isAnyP b p with
    | none => rw [hp] at h; exact rec' h
    | some q =>
      obtain ⟨t', m'⟩ := q
      rw [hp] at h
      simp only at h
      cases hb : behind o j0 with
      | false => rw [hb] at h; exact rec' h
      | true =>
        rw [hb, cond_true] at h
        simp only [Option.some.injEq, Prod.mk.injEq] at h
        obtain ⟨rfl, rfl, rfl⟩ := h
        refine ⟨Nat.le_refl _, ?_, hb⟩
        rw [Nat.sub_self, ← isAnyP_spec hp]
        rfl

def stoK {α : Type} (T : Nat → TI) (t : Nat) (x y : Operand) (env : List (Nat × SV)) (own : List (Nat × SO)) (k : Nat → Nat → List SV → α) (f : α) : α :=
  evK env x fun s => match s with
    | .ptr b off => ownK b (fun so => match so with
      | .cells ty cs => evK env y fun sv => cellsK sv (fun new => match (T t).kd with
        | .other => f
        | _ => bif Nat.beq new.length (T t).size then spliceK new off cs (fun r => k b ty r) f else f) f
      | _ => f) f own
    | _ => f

theorem stoK_out {α : Type} {P : Program} {T : Nat → TI} (hT : ∀ t, T t = tiOf P t) {o : Oper} {t : Nat} {x y : Operand} (ho : o.op = .store t x y) (env : List (Nat × SV)) (own own1 : List (Nat × SO)) (k : Nat → Nat → List SV → α) (f : α) :
    stoK T t x y env own k f = f ∨ ∃ b ty old new, stoK T t x y env own k f = k b ty new ∧ DoesW P o env own1 b ty old new ∧ ownq own b = some (.cells ty old) := by
  have hT' : T = tiOf P := funext hT
  subst hT'
  simp only [stoK, evK_eq, ownK_eq, cellsK_eq, spliceK_eq']
  split
  · rename_i b off hx
    cases hk : ownq own b with
    | none => exact .inl rfl
    | some so =>
      cases so with
      | cells ty cs =>
        simp only
        cases hy : cellsOf (ev env y) with
        | none => exact .inl rfl
        | some new =>
          simp only
          split
          · exact .inl rfl
          · rename_i hs
            cases hl : Nat.beq new.length (tiOf P t).size with
            | false => exact .inl rfl
            | true =>
              simp only [cond_true]
              split
              · rename_i hf
                exact .inr ⟨b, ty, cs, _, rfl, doesW_store ho hx hy (fun e => hs e) (beq_true hl) hf, hk⟩
              · exact .inl rfl
      | tok sz => exact .inl rfl
      | obj q => exact .inl rfl
  · exact .inl rfl

/-- Which part made the token that is used up here. -/
def usesAt (k sz i : Nat) (o : Oper) : Nat → List PE → Option Nat
  | _, [] => none
  | j, ⟨_, [(b, .tok c)], some t, _, _⟩ :: ps => bif Nat.beq b k && Nat.beq c sz && Nat.beq t i && behind o j then some j else usesAt k sz i o (j + 1) ps
  | j, _ :: ps => usesAt k sz i o (j + 1) ps

theorem usesAt_spec {k sz i : Nat} {o : Oper} : ∀ (ps : List PE) (j0 j : Nat), usesAt k sz i o j0 ps = some j → ∃ p, j0 ≤ j ∧ ps[j - j0]? = some p ∧ p.new = [(k, .tok sz)] ∧ p.til = some i ∧ behind o j = true
  | [], _, _, h => by simp [usesAt] at h
  | p :: ps, j0, j, h => by
    have rec' : usesAt k sz i o (j0 + 1) ps = some j → ∃ p', j0 ≤ j ∧ (p :: ps)[j - j0]? = some p' ∧ p'.new = [(k, .tok sz)] ∧ p'.til = some i ∧ behind o j = true := by
      intro h
      obtain ⟨p', h1, h2, h3⟩ := usesAt_spec ps (j0 + 1) j h
      refine ⟨p', by omega, ?_, h3⟩
      rw [show j - j0 = (j - (j0 + 1)) + 1 from by omega]
      simpa using h2
    obtain ⟨sv, new, til, eats, wr⟩ := p
    cases til with
    | none => exact rec' (by simpa only [usesAt] using h)
    | some t =>
      match new, rec', h with
      | [], rec', h => exact rec' (by simpa only [usesAt] using h)
      | _ :: _ :: _, rec', h => exact rec' (by simpa only [usesAt] using h)
      | [(b, .cells _ _)], rec', h => exact rec' (by simpa only [usesAt] using h)
      | [(b, .obj _)], rec', h => exact rec' (by simpa only [usesAt] using h)
      | [(b, .tok c)], rec', h =>
        simp only [usesAt] at h
        cases hc : (Nat.beq b k && Nat.beq c sz && Nat.beq t i && behind o j0) with
        | true =>
          simp only [hc, cond_true, Option.some.injEq] at h
          subst h
          simp only [Bool.and_eq_true] at hc
          obtain ⟨⟨⟨h1, h2⟩, h3⟩, h4⟩ := hc
          exact ⟨_, Nat.le_refl _, by rw [Nat.sub_self]; rfl, by rw [beq_true h1, beq_true h2], by rw [beq_true h3], h4⟩
        | false =>
          simp only [hc, cond_false] at h
          exact rec' h

def planK (P : Program) (T : Nat → TI) (m0 n : Nat) (all pre : List Oper) (ans : List (Nat × Ans)) (env0 : List (Nat × SV)) (own0 ownS : List (Nat × SO)) :
    Nat → List Oper → List PE → List Nat → List Prop → (List PE → List Prop → PlanR) → PlanR
  | _, [], ps, _, ob, k => k ps ob
  | i, o :: rest, ps, nx, ob, k =>
    bif dstLt o.dst n then
      envOfK (behind o) 0 pre ps env0 fun env =>
        guardK all o.guard env
          (ansqK i ans fun an => match an with
          | some (.val v) => appK ps ⟨v, [], none, none, false⟩ fun ps => planK P T m0 n all pre ans env0 own0 ownS (i + 1) rest ps nx (DoesV P o env own0 v :: ob) k
          | some (.gro v) => appK ps ⟨v, [], none, none, false⟩ fun ps => planK P T m0 n all pre ans env0 own0 ownS (i + 1) rest ps nx (DoesG P o env own0 v :: ob) k
          | some (.tok sz rows til) => (match nx with
            | [] => .stuck i
            | b :: nx => appK ps ⟨.gl b sz rows, [(b, .tok sz)], til, none, false⟩ fun ps => planK P T m0 n all pre ans env0 own0 ownS (i + 1) rest ps nx (DoesT P o env own0 sz rows :: ob) k)
          | some (.use q sz rows) => (match usesAt q sz i o 0 ps with
            | none => .stuck i
            | some _ => appK ps ⟨.lst sz rows, [], none, none, false⟩ fun ps => planK P T m0 n all pre ans env0 own0 ownS (i + 1) rest ps nx (DoesU P o env own0 q sz rows :: ob) k)
          | some (.eat q sz rows til) => ownK q (fun so => match so, nx with
            | .tok c, b :: nx => bif Nat.beq c sz then appK ps ⟨.gl b sz rows, [(b, .tok sz)], til, some q, false⟩ fun ps => planK P T m0 n all pre ans env0 own0 ownS (i + 1) rest ps nx (DoesU P o env own0 q sz rows :: ob) k else .stuck i
            | _, _ => .stuck i) (.stuck i) ownS
          | some (.met q so' v) => ownK q (fun so => appK ps ⟨v, [(q, so')], none, none, true⟩ fun ps => planK P T m0 n all pre ans env0 own0 ownS (i + 1) rest ps nx (DoesM P o env own0 q so so' v :: ob) k) (.stuck i) ownS
          | _ => match o.op with
          | .call { callee := .value x, args, argTypes := _ } =>
            callK (.call { callee := .value x, args, argTypes := #[] }) env (fun f l => ansqK i ans fun a => ansSv a (fun s => appK ps ⟨s, [], none, none, false⟩ fun ps => planK P T m0 n all pre ans env0 own0 ownS (i + 1) rest ps nx (Gives P f l s :: ob) k) (.stuck i)) (.stuck i)
          | .store t x y => (match o.dst with
            | some _ => .stuck i
            | none => match an with
              | some .forget => evK env x fun s => (match s with
                | .ptr b off => (match anyAt b o 0 ps with
                  | none => .stuck i
                  | some (_, _, m) => evK env y fun sv => cellsK sv (fun new => match (T t).kd with
                    | .other => .stuck i
                    | _ => bif Nat.beq new.length (T t).size && Nat.ble (off + new.length) m then appK ps ⟨.any, [], none, none, false⟩ fun ps => planK P T m0 n all pre ans env0 own0 ownS (i + 1) rest ps nx ob k else .stuck i) (.stuck i))
                | _ => .stuck i)
              | _ => stoK T t x y env ownS (fun b ty r => appK ps ⟨.any, [(b, .cells ty r)], none, none, true⟩ fun ps => planK P T m0 n all pre ans env0 own0 ownS (i + 1) rest ps nx ob k) (.stuck i))
          | .alloc t => newOfK T (.alloc t) env (fun t cs => match nx with
            | [] => .stuck i
            | b :: nx => (match an with
              | some .forget => lenK cs fun m => appK ps ⟨.ptr b 0, [(b, .cells t (anys m))], none, none, false⟩ fun ps => planK P T m0 n all pre ans env0 own0 ownS (i + 1) rest ps nx ob k
              | _ => appK ps ⟨.ptr b 0, [(b, .cells t cs)], none, none, false⟩ fun ps => planK P T m0 n all pre ans env0 own0 ownS (i + 1) rest ps nx ob k)) (.stuck i)
          | .box t x => newOfK T (.box t x) env (fun t cs => match nx with
            | [] => .stuck i
            | b :: nx => appK ps ⟨.ptr b 0, [(b, .cells t cs)], none, none, false⟩ fun ps => planK P T m0 n all pre ans env0 own0 ownS (i + 1) rest ps nx ob k) (.stuck i)
          | op => op1 T m0 op env own0 [] (fun v => ansqK i ans fun a => ansBl a v (appK ps ⟨v, [], none, none, false⟩ fun ps => planK P T m0 n all pre ans env0 own0 ownS (i + 1) rest ps nx ob k)
              (fun c => appK ps ⟨.tt, [], none, none, false⟩ fun ps => planK P T m0 n all pre ans env0 own0 ownS (i + 1) rest ps nx ((c = true) :: ob) k)
              (fun c => appK ps ⟨.ff, [], none, none, false⟩ fun ps => planK P T m0 n all pre ans env0 own0 ownS (i + 1) rest ps nx ((c = false) :: ob) k) (.stuck i))
            (fun _ _ _ => .stuck i) (fun _ => .stuck i)
            (fun p v => appK ps ⟨v, [], none, none, false⟩ fun ps => planK P T m0 n all pre ans env0 own0 ownS (i + 1) rest ps nx (p :: ob) k) (.stuck i))
          (appK ps ⟨.tup [], [], none, none, false⟩ fun ps => planK P T m0 n all pre ans env0 own0 ownS (i + 1) rest ps nx ob k)
          (.stuck i)
    else .stuck i

/-- What is owed for one operation, where it stands. -/
inductive Loc (E : Stc) (all : List Oper) (pl : List PE) (i : Nat) (env : List (Nat × SV)) (own0 ownS : List (Nat × SO)) (o : Oper) : PE → Prop
  | skip (h : ∀ a w, At E env own0 a w → Region.wanted o (yielded all.toArray a.tmps) = false) : Loc E all pl i env own0 ownS o ⟨.tup [], [], none, none, false⟩
  | val (v s : SV) (h : ∀ a w, At E env own0 a w → Region.wanted o (yielded all.toArray a.tmps) = true) (hd : DoesV E.P o env own0 v) (hl : SVle v s) : Loc E all pl i env own0 ownS o ⟨s, [], none, none, false⟩
  | gro (v : SV) (h : ∀ a w, At E env own0 a w → Region.wanted o (yielded all.toArray a.tmps) = true) (hd : DoesG E.P o env own0 v) : Loc E all pl i env own0 ownS o ⟨v, [], none, none, false⟩
  | tok (b sz : Nat) (rows : List (List DV)) (til : Option Nat) (h : ∀ a w, At E env own0 a w → Region.wanted o (yielded all.toArray a.tmps) = true) (hd : DoesT E.P o env own0 sz rows) : Loc E all pl i env own0 ownS o ⟨.gl b sz rows, [(b, .tok sz)], til, none, false⟩
  | use (k sz j : Nat) (rows : List (List DV)) (p' : PE) (h : ∀ a w, At E env own0 a w → Region.wanted o (yielded all.toArray a.tmps) = true) (hd : DoesU E.P o env own0 k sz rows) (hp : pl[j]? = some p') (hn : p'.new = [(k, .tok sz)])
      (ht : p'.til = some i) (hb : behind o j = true) : Loc E all pl i env own0 ownS o ⟨.lst sz rows, [], none, none, false⟩
  | eat (k sz b : Nat) (rows : List (List DV)) (til : Option Nat) (h : ∀ a w, At E env own0 a w → Region.wanted o (yielded all.toArray a.tmps) = true) (hd : DoesU E.P o env own0 k sz rows) (hk : ownq ownS k = some (.tok sz)) :
      Loc E all pl i env own0 ownS o ⟨.gl b sz rows, [(b, .tok sz)], til, some k, false⟩
  | met (b : Nat) (so so' : SO) (v : SV) (h : ∀ a w, At E env own0 a w → Region.wanted o (yielded all.toArray a.tmps) = true) (hd : DoesM E.P o env own0 b so so' v) (hk : ownq ownS b = some so) :
      Loc E all pl i env own0 ownS o ⟨v, [(b, so')], none, none, true⟩
  | newAny (b t : Nat) (cs : List SV) (h : ∀ a w, At E env own0 a w → Region.wanted o (yielded all.toArray a.tmps) = true) (hd : DoesN E.P o env own0 t cs) (h1 : SV.ones cs = true) : Loc E all pl i env own0 ownS o ⟨.ptr b 0, [(b, .cells t (anys cs.length))], none, none, false⟩
  | stAny (b ty m j : Nat) (h : ∀ a w, At E env own0 a w → Region.wanted o (yielded all.toArray a.tmps) = true) (hd : DoesW E.P o env own0 b ty (anys m) (anys m)) (hp : pl[j]? = some ⟨.ptr b 0, [(b, .cells ty (anys m))], none, none, false⟩) (hb : behind o j = true) (ho : o.dst = none) :
      Loc E all pl i env own0 ownS o ⟨.any, [], none, none, false⟩
  | sto (b ty : Nat) (old new : List SV) (h : ∀ a w, At E env own0 a w → Region.wanted o (yielded all.toArray a.tmps) = true) (hd : DoesW E.P o env own0 b ty old new) (hk : ownq ownS b = some (.cells ty old)) (ho : o.dst = none) :
      Loc E all pl i env own0 ownS o ⟨.any, [(b, .cells ty new)], none, none, true⟩
  | new (b t : Nat) (cs : List SV) (h : ∀ a w, At E env own0 a w → Region.wanted o (yielded all.toArray a.tmps) = true) (hd : DoesN E.P o env own0 t cs) (h1 : SV.ones cs = true) : Loc E all pl i env own0 ownS o ⟨.ptr b 0, [(b, .cells t cs)], none, none, false⟩
  | call (f : Nat) (args : List SV) (s : SV) (h : ∀ a w, At E env own0 a w → Region.wanted o (yielded all.toArray a.tmps) = true) (hc : callK o.op env (fun f l => some (f, l)) none = some (f, args)) (hf : Gives E.P f args s) : Loc E all pl i env own0 ownS o ⟨s, [], none, none, false⟩

def Locs (E : Stc) (all pre : List Oper) (env0 : List (Nat × SV)) (own0 ownS : List (Nat × SO)) (plan : List PE) : Nat → List Oper → Prop
  | _, [] => True
  | i, o :: os => (dstLt o.dst E.n = true ∧ ∃ p, plan[i]? = some p ∧ Loc E all plan i (envOf (behind o) 0 pre (plan.take i) env0) own0 ownS o p) ∧ Locs E all pre env0 own0 ownS plan (i + 1) os

theorem callK_out {α : Type} (o : Op) (env : List (Nat × SV)) (k : Nat → List SV → α) (f : α) :
    callK o env k f = f ∨ ∃ q l, callK o env (fun f l => some (f, l)) none = some (q, l) ∧ callK o env k f = k q l := by
  unfold callK
  split
  · simp only [evK_eq, evsK_eq]
    split
    · exact .inr ⟨_, _, rfl, rfl⟩
    · exact .inl rfl
  · exact .inl rfl

theorem newOfK_out {α : Type} {E : Stc} (o : Oper) (env : List (Nat × SV)) (own : List (Nat × SO)) (k : Nat → List SV → α) (f : α) :
    newOfK E.T o.op env k f = f ∨ ∃ t cs, newOfK E.T o.op env k f = k t cs ∧ DoesN E.P o env own t cs ∧ SV.ones cs = true := by
  have hT' : E.T = tiOf E.P := funext E.hT
  rw [hT']
  unfold newOfK
  split
  · rename_i t ho
    simp only [constsK_eq]
    split
    · exact .inl rfl
    · rename_i hz hk
      cases h1 : SV.ones (constsS (tiOf E.P t).zero) with
      | false => exact .inl rfl
      | true => exact .inr ⟨t, _, rfl, doesN_alloc ho (fun e => hk e) hz, h1⟩
    · exact .inl rfl
  · rename_i t x ho
    simp only [evK_eq, cellsK_eq]
    cases hc : cellsOf (ev env x) with
    | none => exact .inl rfl
    | some cs => exact .inr ⟨t, cs, rfl, doesN_box ho hc, cellsOf_ones hc⟩
  · exact .inl rfl

theorem planK_sound (E : Stc) (all pre : List Oper) (ans : List (Nat × Ans)) (env0 : List (Nat × SV)) (own0 ownS : List (Nat × SO)) (k : List PE → List Prop → PlanR) (plan : List PE) (env : List (Nat × SV)) (own : List (Nat × SO)) (ob' : List Prop) (R : Prop)
    (hk : ∀ ps ob, k ps ob = .ok plan env own ob' → All ob' → ps = plan ∧ All ob ∧ R) :
    ∀ (rest : List Oper) (i : Nat) (ps : List PE) (nx : List Nat) (ob : List Prop), ps.length = i → planK E.P E.T E.cx.m0 E.n all pre ans env0 own0 ownS i rest ps nx ob k = .ok plan env own ob' → All ob' →
      All ob ∧ (∃ q, plan = ps ++ q) ∧ plan.length = i + rest.length ∧ Locs E all pre env0 own0 ownS plan i rest ∧ R := by
  intro rest
  induction rest with
  | nil =>
    intro i ps nx ob hi h ha
    obtain ⟨h1, h2, h3⟩ := hk ps ob h ha
    subst h1
    exact ⟨h2, ⟨[], by simp⟩, by simpa using hi, trivial, h3⟩
  | cons o rest ih =>
    intro i ps nx ob hi h ha
    simp only [planK, envOfK_eq, appK_eq, ansqK_eq] at h
    cases hd : dstLt o.dst E.n with
    | false => simp [hd] at h
    | true =>
      simp only [hd, cond_true] at h
      -- going on behind a part
      have next : ∀ (p : PE) (nx : List Nat) (ob1 : List Prop), planK E.P E.T E.cx.m0 E.n all pre ans env0 own0 ownS (i + 1) rest (ps ++ [p]) nx ob1 k = .ok plan env own ob' →
          (All ob1 → ∀ pl, (∃ q, pl = ps ++ q) → Loc E all pl i (envOf (behind o) 0 pre ps env0) own0 ownS o p) → All ob1 ∧ (∃ q, plan = ps ++ q) ∧ plan.length = i + (o :: rest).length ∧ Locs E all pre env0 own0 ownS plan i (o :: rest) ∧ R := by
        intro p nx ob1 hp hl
        obtain ⟨h1, ⟨q, h2⟩, h3, h4, h5⟩ := ih (i + 1) (ps ++ [p]) nx ob1 (by simp [hi]) hp ha
        refine ⟨h1, ⟨p :: q, by rw [h2]; simp⟩, by rw [h3, List.length_cons]; omega, ⟨⟨hd, p, ?_, ?_⟩, h4⟩, h5⟩
        · rw [h2, List.append_assoc, List.getElem?_append_right (by omega)]
          simp [hi]
        · have : plan.take i = ps := by rw [h2, List.append_assoc, ← hi]; simp
          rw [this]
          exact hl h1 plan ⟨p :: q, by rw [h2]; simp⟩
      rcases guardK_wanted (E := E) (all := all) (o := o) (env := envOf (behind o) 0 pre ps env0) (own := own0) with ⟨hy, hw⟩ | ⟨hy, hw⟩ | hy
      · rw [hy] at h
        split at h
        · rename_i v _
          obtain ⟨h1, h2⟩ := next _ _ _ h fun hall _ _ => .val v v hw (all_cons hall).1 (SVle.refl v)
          exact ⟨(all_cons h1).2, h2⟩
        · rename_i v _
          obtain ⟨h1, h2⟩ := next _ _ _ h fun hall _ _ => .gro v hw (all_cons hall).1
          exact ⟨(all_cons h1).2, h2⟩
        · rename_i sz rows til _
          cases nx with
          | nil => cases h
          | cons b nx =>
            obtain ⟨h1, h2⟩ := next _ _ _ h fun hall _ _ => .tok b sz rows til hw (all_cons hall).1
            exact ⟨(all_cons h1).2, h2⟩
        · rename_i q sz rows _
          cases hu : usesAt q sz i o 0 ps with
          | none => rw [hu] at h; cases h
          | some j =>
            rw [hu] at h
            obtain ⟨p', _, u1, u2, u3, u4⟩ := usesAt_spec ps 0 j hu
            rw [Nat.sub_zero] at u1
            obtain ⟨h1, h2⟩ := next _ _ _ h fun hall pl hpl => .use q sz j rows p' hw (all_cons hall).1 (by
              obtain ⟨r, rfl⟩ := hpl
              rw [List.getElem?_append_left (List.getElem?_eq_some_iff.1 u1).1]
              exact u1) u2 u3 u4
            exact ⟨(all_cons h1).2, h2⟩
        · rename_i q sz rows til _
          rw [ownK_eq] at h
          cases ho : ownq ownS q with
          | none => rw [ho] at h; cases h
          | some so =>
            rw [ho] at h
            cases so with
            | cells t c => cases h
            | obj f => cases h
            | tok c =>
              cases nx with
              | nil => cases h
              | cons b nx =>
                simp only at h
                cases hc : Nat.beq c sz with
                | false => rw [hc] at h; cases h
                | true =>
                  rw [hc, cond_true] at h
                  have := beq_true hc
                  subst this
                  obtain ⟨h1, h2⟩ := next _ _ _ h fun hall _ _ => .eat q c b rows til hw (all_cons hall).1 ho
                  exact ⟨(all_cons h1).2, h2⟩
        · rename_i q so' v _
          rw [ownK_eq] at h
          cases ho : ownq ownS q with
          | none => rw [ho] at h; cases h
          | some so =>
            rw [ho] at h
            obtain ⟨h1, h2⟩ := next _ _ _ h fun hall _ _ => .met q so so' v hw (all_cons hall).1 ho
            exact ⟨(all_cons h1).2, h2⟩
        split at h
        · rename_i x args ats ho
          rcases callK_out (.call { callee := .value x, args, argTypes := #[] }) (envOf (behind o) 0 pre ps env0) (fun f l => ansSv (ansq i ans) (fun s => planK E.P E.T E.cx.m0 E.n all pre ans env0 own0 ownS (i + 1) rest (ps ++ [⟨s, [], none, none, false⟩]) nx (Gives E.P f l s :: ob) k) (.stuck i)) (.stuck i) with hc | ⟨q, l, hq, hc⟩
          · rw [hc] at h; cases h
          · rw [hc] at h
            have hcall : callK o.op (envOf (behind o) 0 pre ps env0) (fun f l => some (f, l)) none = some (q, l) := by rw [ho]; exact hq
            unfold ansSv at h
            split at h
            · rename_i s _
              obtain ⟨h1, h2⟩ := next _ _ _ h fun hall _ _ => .call q l s hw hcall (all_cons hall).1
              exact ⟨(all_cons h1).2, h2⟩
            · cases h
        · rename_i t x y ho
          split at h
          · cases h
          · rename_i hdst
            split at h
            · rename_i hforget
              simp only [evK_eq, cellsK_eq] at h
              split at h
              · rename_i b off hx
                split at h
                · cases h
                · rename_i j ty m hat
                  obtain ⟨_, hat1, hat2⟩ := anyAt_spec ps 0 hat
                  rw [Nat.sub_zero] at hat1
                  cases hy : cellsOf (ev (envOf (behind o) 0 pre ps env0) y) with
                  | none => rw [hy] at h; cases h
                  | some new =>
                    rw [hy] at h
                    simp only at h
                    split at h
                    · cases h
                    · rename_i hkd
                      cases hc : (Nat.beq new.length (E.T t).size && Nat.ble (off + new.length) m) with
                      | false => rw [hc] at h; cases h
                      | true =>
                        rw [hc, cond_true] at h
                        rw [Bool.and_eq_true] at hc
                        exact next _ _ _ h fun _ pl hpl => .stAny b ty m j hw (doesW_any ho hx hy (by rw [← E.hT t]; exact fun e => hkd e) (by rw [← E.hT t]; exact beq_true hc.1) (Nat.le_of_ble_eq_true hc.2)) (by
                          obtain ⟨r, rfl⟩ := hpl
                          rw [List.getElem?_append_left (List.getElem?_eq_some_iff.1 hat1).1]
                          exact hat1) hat2 hdst
              · cases h
            rcases stoK_out (P := E.P) E.hT ho (envOf (behind o) 0 pre ps env0) ownS own0 (fun b ty r => planK E.P E.T E.cx.m0 E.n all pre ans env0 own0 ownS (i + 1) rest (ps ++ [PE.mk .any [(b, SO.cells ty r)] none none true]) nx ob k) (.stuck i) with hc | ⟨b, ty, old, new, hc, hW, hk⟩
            · rw [hc] at h; cases h
            · rw [hc] at h
              exact next _ _ _ h fun _ _ _ => .sto b ty old new hw hW hk hdst
        · rename_i t ho
          simp only [lenK_eq] at h
          rcases newOfK_out (E := E) o (envOf (behind o) 0 pre ps env0) own0 (fun t cs => match nx with
            | [] => PlanR.stuck i
            | b :: nx => (match ansq i ans with
              | some .forget => planK E.P E.T E.cx.m0 E.n all pre ans env0 own0 ownS (i + 1) rest (ps ++ [PE.mk (.ptr b 0) [(b, SO.cells t (anys cs.length))] none none false]) nx ob k
              | _ => planK E.P E.T E.cx.m0 E.n all pre ans env0 own0 ownS (i + 1) rest (ps ++ [PE.mk (.ptr b 0) [(b, SO.cells t cs)] none none false]) nx ob k)) (.stuck i) with hc | ⟨t', cs, hc, hN, h1⟩
          · rw [ho] at hc; rw [hc] at h; cases h
          · rw [ho] at hc
            rw [hc] at h
            cases nx with
            | nil => cases h
            | cons b nx =>
              simp only at h
              split at h
              · exact next _ _ _ h fun _ _ _ => .newAny b t' cs hw hN h1
              · exact next _ _ _ h fun _ _ _ => .new b t' cs hw hN h1
        · rename_i t x ho
          rcases newOfK_out (E := E) o (envOf (behind o) 0 pre ps env0) own0 (fun t cs => match nx with
            | [] => PlanR.stuck i
            | b :: nx => planK E.P E.T E.cx.m0 E.n all pre ans env0 own0 ownS (i + 1) rest (ps ++ [PE.mk (.ptr b 0) [(b, SO.cells t cs)] none none false]) nx ob k) (.stuck i) with hc | ⟨t', cs, hc, hN, h1⟩
          · rw [ho] at hc; rw [hc] at h; cases h
          · rw [ho] at hc
            rw [hc] at h
            cases nx with
            | nil => cases h
            | cons b nx => exact next _ _ _ h fun _ _ _ => .new b t' cs hw hN h1
        · have key := op1_sound (α := PlanR) (P := E.P) (m0 := E.cx.m0) (env := envOf (behind o) 0 pre ps env0) (own := own0) (nx := [])
            (kv := fun v => ansBl (ansq i ans) v (planK E.P E.T E.cx.m0 E.n all pre ans env0 own0 ownS (i + 1) rest (ps ++ [⟨v, [], none, none, false⟩]) nx ob k)
              (fun c => planK E.P E.T E.cx.m0 E.n all pre ans env0 own0 ownS (i + 1) rest (ps ++ [⟨.tt, [], none, none, false⟩]) nx ((c = true) :: ob) k)
              (fun c => planK E.P E.T E.cx.m0 E.n all pre ans env0 own0 ownS (i + 1) rest (ps ++ [⟨.ff, [], none, none, false⟩]) nx ((c = false) :: ob) k) (.stuck i))
            (ko := fun _ _ _ => .stuck i) (ks := fun _ => .stuck i)
            (kp := fun p v => planK E.P E.T E.cx.m0 E.n all pre ans env0 own0 ownS (i + 1) rest (ps ++ [⟨v, [], none, none, false⟩]) nx (p :: ob) k) (f := .stuck i) E.hT o
          rw [h] at key
          generalize hr : PlanR.ok plan env own ob' = r0 at key
          cases key with
          | f => cases hr
          | v v hD =>
            unfold ansBl at hr
            split at hr
            · exact next _ _ _ hr.symm fun _ _ _ => .val _ _ hw hD (SVle.refl _)
            · rename_i c _
              obtain ⟨h1, h2⟩ := next _ _ _ hr.symm fun hall _ _ => .val (.bl c) .tt hw hD (by
                have := (all_cons hall).1
                subst this
                exact fun _ _ _ h => h)
              exact ⟨(all_cons h1).2, h2⟩
            · rename_i c _
              obtain ⟨h1, h2⟩ := next _ _ _ hr.symm fun hall _ _ => .val (.bl c) .ff hw hD (by
                have := (all_cons hall).1
                subst this
                exact fun _ _ _ h => h)
              exact ⟨(all_cons h1).2, h2⟩
            · cases hr
          | o v own1 nx1 hD => cases hr
          | s own1 hD => cases hr
          | p p v hD =>
            obtain ⟨h1, h2⟩ := next _ _ _ hr.symm fun hall _ _ => .val v v hw (hD (all_cons hall).1) (SVle.refl v)
            exact ⟨(all_cons h1).2, h2⟩
      · rw [hy] at h
        exact next _ _ _ h fun _ _ _ => .skip hw
      · rw [hy] at h
        cases h

end Go.Eng
