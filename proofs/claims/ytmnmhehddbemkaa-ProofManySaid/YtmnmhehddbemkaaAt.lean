/- The proof engine, part 14: the rules for calls, tests and loops, as they are used. -/
import Derived.Test.YtmnmhehddbemkaaStop
import Derived.Deep.LoopGhost
namespace Go.Eng

def dstLt (dst : Option Nat) (n : Nat) : Bool :=
  match dst with
  | some d => Nat.blt d n
  | none => true

/-- The callee of a call, and what it is handed. -/
def callK {α : Type} (o : Op) (env : List (Nat × SV)) (k : Nat → List SV → α) (f : α) : α :=
  match o with
  | .call { callee := .value x, args, argTypes := _ } => evK env x fun s => match s with
    | .clo g caps => evsK env args.toList fun l => k g (app l caps)
    | _ => f
  | _ => f
  where
  app : List SV → List SV → List SV
  | [], b => b
  | x :: a, b => x :: app a b

theorem app_eq : ∀ (a b : List SV), callK.app a b = a ++ b
  | [], _ => rfl
  | x :: a, b => by simp [callK.app, app_eq a b]

theorem run_call {P : Program} {cx : Cx} {g : Nat → Value} {H : Hp} {env : List (Nat × SV)} {own : List (Nat × SO)} {n : Nat} {a : Act} {w : World} {o : Oper} {f : Nat} {args : List SV}
    (hd : Dn cx g H env own n a.tmps w) (hE : Enter P f) (h : callK o.op env (fun f l => some (f, l)) none = some (f, args)) :
    ∃ vs, Dens g H args vs ∧ (execOp a.eval o).run P w = .ok (.enter f vs.toArray) w := by
  unfold callK at h
  split at h
  · rename_i x as ats ho
    simp only [evK_eq, evsK_eq] at h
    split at h
    · rename_i q caps hx
      simp only [Option.some.injEq, Prod.mk.injEq] at h
      obtain ⟨e1, e2⟩ := h
      subst e1; subst e2
      have hv := hd.ev x
      rw [hx] at hv
      obtain ⟨cs, he, hc⟩ := hv
      have hev : ∀ l : List Operand, Dens g H (evs env l) (l.map a.eval) := by
        intro l
        induction l with
        | nil => trivial
        | cons x l ih => exact ⟨hd.ev x, ih⟩
      refine ⟨as.toList.map a.eval ++ cs, by rw [app_eq]; exact (hev _).append hc, ?_⟩
      have hargs : as.map a.eval = (as.toList.map a.eval).toArray := by apply Array.ext'; simp
      simp only [execOp, ho, resolve, he, Deferred.ofValue]
      simp [invoke, hargs]
      exact hE _ _
    · cases h
  · cases h

/-- A call, by its contract. -/
theorem at_call {E : Stc} {all rest : List Oper} {o : Oper} {s : List Fr} {env : List (Nat × SV)} {own : List (Nat × SO)} {nx : List Nat} {f m : Nat} {pre : List (Nat × SO)} {args args' : List SV}
    {Post : SV → List (Nat × SO) → Prop} (r : Nat → Nat) (hC : Contract E.P f m pre args Post) (hc : callK o.op env (fun f l => some (f, l)) none = some (f, args')) (ha : args' = rens r args)
    (hpre : pres r own pre) (k : ∀ sv post, Post sv post → sv.lt m = true ∧ cellsLt m post = true ∧ keysB post pre = true ∧ Sat E (.ops all rest) s (put o.dst (ren r sv) env) (posts r post own) nx)
    (hinj : ∀ i j, (ownq pre i).isSome = true → (ownq pre j).isSome = true → r i = r j → i = j) (hm : ∀ k, k < m → (ownq pre k).isSome = true)
    (hg : guardK all o.guard env true false false = true := by rfl) (hd : dstLt o.dst E.n = true := by rfl) : Sat E (.ops all (o :: rest)) s env own nx := by
  intro a w hat
  have hwant : Region.wanted o (yielded all.toArray a.tmps) = true := by
    rcases guardK_wanted (E := E) (all := all) (o := o) (env := env) (own := own) (yes := true) (no := false) (stuck := false) with ⟨_, hw⟩ | ⟨h, _⟩ | h
    · exact hw a w hat
    · rw [hg] at h; cases h
    · rw [hg] at h; cases h
  obtain ⟨hdf, g, H, hdn⟩ := hat
  obtain ⟨vs, hv, hr⟩ := run_call (P := E.P) hdn hC.1 hc
  subst ha
  have hv' : Dens (fun k => g (r k)) H args vs := Dens.unren (g' := g) (r := r) (fun _ => rfl) args vs hv
  have hok : ∀ k o, ownq pre k = some o → OwnOk (fun _ => True) (fun k => g (r k)) H w k o := by
    intro k o hk
    have := hdn.ok (r k) _ (pres_spec hpre k o hk)
    cases o with
    | cells ty cs =>
      obtain ⟨b, ws, e, h1, h2, h3, h4, h5⟩ := this
      exact ⟨b, ws, e, Dens.unren (g' := g) (r := r) (fun _ => rfl) cs ws h1, h2, h3, h4, trivial⟩
    | tok sz =>
      obtain ⟨ad, q, c, e, h1, hle, h2⟩ := this
      refine ⟨ad, q, c, e, h1, hle, fun p hpa hlt => ?_⟩
      obtain ⟨h3, _, h5⟩ := h2 p hpa hlt
      exact ⟨h3, trivial, h5⟩
    | obj q =>
      obtain ⟨r, o, e, h1, h2, h3, _⟩ := this
      exact ⟨r, o, e, h1, h2, h3, trivial⟩
  have hinj' : InjOn (fun k => g (r k)) pre := by
    intro i j hi hj b hbi hbj
    refine hinj i j hi hj (hdn.inj (r i) (r j) ?_ ?_ b hbi hbj)
    · cases ho : ownq pre i with
      | none => rw [ho] at hi; cases hi
      | some x => rw [pres_spec hpre i x ho]; rfl
    · cases ho : ownq pre j with
      | none => rw [ho] at hj; cases hj
      | some x => rw [pres_spec hpre j x ho]; rfl
  have hcall := hC.2 (fun k => g (r k)) H w vs hdn.hp hok hinj' hv'
  unfold wpList
  rw [if_pos hwant]
  refine .inl ?_
  unfold Oper.wp
  rw [hr]
  refine hcall.mono fun e w' he => ?_
  cases e with
  | panicked c => exact he.elim
  | outgrown => exact he.elim
  | returned v =>
    obtain ⟨sv, post, hP, hb⟩ := hdn.called hpre hm he
    obtain ⟨h1, h2, h3, hS⟩ := k sv post hP
    obtain ⟨H', hv2, hd2⟩ := hb h1 h2 h3
    have := At.put (E := E) (dst := o.dst) hdf hd2 hv2 (fun d e => by rw [e] at hd; exact Nat.blt_eq.mp hd)
    exact hS _ _ this

mutual
theorem ren_id : ∀ s : SV, ren (fun k => k) s = s
  | .int _ _ => rfl
  | .bl _ => rfl
  | .tt => rfl
  | .ff => rfl
  | .str _ => rfl
  | .val _ => rfl
  | .lst _ _ => rfl
  | .gl _ _ _ => rfl
  | .tl _ _ => rfl
  | .arr _ _ => rfl
  | .mp _ => rfl
  | .ptr _ _ => rfl
  | .rp _ _ => rfl
  | .agg l => by rw [ren, rens_id l]
  | .tup l => by rw [ren, rens_id l]
  | .clo _ l => by rw [ren, rens_id l]
  | .any => rfl
theorem rens_id : ∀ l : List SV, rens (fun k => k) l = l
  | [] => rfl
  | s :: l => by rw [rens, ren_id s, rens_id l]
end

/-- A function that only reckons. -/
def GivesP (P : Program) (f : FuncId) (args : List SV) (Post : SV → Prop) : Prop :=
  Contract P f 0 [] args fun sv own => Post sv ∧ sv.lt 0 = true ∧ own = []

def Gives (P : Program) (f : FuncId) (args : List SV) (res : SV) : Prop := GivesP P f args fun sv => sv = res

theorem at_pure {E : Stc} {all rest : List Oper} {o : Oper} {s : List Fr} {env : List (Nat × SV)} {own : List (Nat × SO)} {nx : List Nat} {f : Nat} {args : List SV} {Post : SV → Prop}
    (hC : GivesP E.P f args Post) (hc : callK o.op env (fun f l => some (f, l)) none = some (f, args)) (k : ∀ sv, Post sv → Sat E (.ops all rest) s (put o.dst sv env) own nx)
    (hg : guardK all o.guard env true false false = true := by rfl) (hd : dstLt o.dst E.n = true := by rfl) : Sat E (.ops all (o :: rest)) s env own nx :=
  at_call (fun k => k) hC hc (rens_id args).symm trivial (fun sv post hP => by
    obtain ⟨h1, h2, h3⟩ := hP
    subst h3
    rw [ren_id]
    exact ⟨h2, rfl, rfl, k sv h1⟩) (fun i j hi => by simp [ownq] at hi) (fun k hk => absurd hk (Nat.not_lt_zero k)) hg hd

theorem at_fn {E : Stc} {all rest : List Oper} {o : Oper} {s : List Fr} {env : List (Nat × SV)} {own : List (Nat × SO)} {nx : List Nat} {f : Nat} {args : List SV} {res : SV}
    (hC : Gives E.P f args res) (hc : callK o.op env (fun f l => some (f, l)) none = some (f, args)) (k : Sat E (.ops all rest) s (put o.dst res env) own nx)
    (hg : guardK all o.guard env true false false = true := by rfl) (hd : dstLt o.dst E.n = true := by rfl) : Sat E (.ops all (o :: rest)) s env own nx :=
  at_pure hC hc (fun sv h => by subst h; exact k) hg hd

/-- The run, taken. -/
theorem run {E : Stc} {m : Md} {s : List Fr} {env : List (Nat × SV)} {own : List (Nat × SO)} {nx : List Nat} {m' : Md} {s' : List Fr} {env' : List (Nat × SV)} {own' : List (Nat × SO)} {nx' : List Nat} {ob' : List Prop} (q : Nat)
    (h : exec E.T E.cx.m0 E.n q m s env own nx [] = .stop m' s' env' own' nx' ob') (hS : Sat E m' s' env' own' nx') (ha : All ob' := by first | exact trivial | (simp only [All, inR]; omega)) : Sat E m s env own nx :=
  run_go q h ha hS

/-- The function returns. -/
theorem at_ret {E : Stc} {env : List (Nat × SV)} {own : List (Nat × SO)} {nx : List Nat} {sv : SV} {rs : List ResultVar} (hr : E.fn.results.toList = rs) (h : retK E.T env own rs retS = some sv)
    (own' : List (Nat × SO)) (hP : E.Post sv own') (hs : subO own own') : Sat E .ret [] env own nx :=
  at_ret' own' (by rw [hr]; exact h) hs hP

/-- A test. -/
theorem at_if {E : Stc} {x : Operand} {c d : Code} {s : List Fr} {env : List (Nat × SV)} {own : List (Nat × SO)} {nx : List Nat} {b : Bool} (hx : ev env x = .bl b)
    (ht : b = true → Sat E (.code c) s env own nx) (hf : b = false → Sat E (.code d) s env own nx) : Sat E (.code (.cond x c d)) s env own nx := by
  intro a w hat
  have hat' := hat
  obtain ⟨_, g, H, hd⟩ := hat'
  have hv := hd.ev x
  rw [hx] at hv
  exact wp_cond_split hv (fun h => ht h a w hat) (fun h => hf h a w hat)

theorem at_ifd {E : Stc} {x : Operand} {c d : Code} {s : List Fr} {env : List (Nat × SV)} {own : List (Nat × SO)} {nx : List Nat} {p : Prop} [Decidable p] (hx : ev env x = .bl (decide p))
    (ht : p → Sat E (.code c) s env own nx) (hf : ¬ p → Sat E (.code d) s env own nx) : Sat E (.code (.cond x c d)) s env own nx :=
  at_if hx (fun h => ht (of_decide_eq_true h)) (fun h => hf (of_decide_eq_false h))

theorem At.refine {E : Stc} {env : List (Nat × SV)} {own : List (Nat × SO)} {a : Act} {w : World} {t : Nat} {sv sv' : SV} (h : At E env own a w) (hn : nth env t = sv) (hl : ∀ g H x, Den g H sv x → Den g H sv' x) :
    At E ((t, sv') :: env) own a w := by
  obtain ⟨hdf, g, H, hd⟩ := h
  refine ⟨hdf, g, H, { hd with den := fun i => ?_ }⟩
  simp only [nth]
  cases hb : Nat.beq t i with
  | true =>
    rw [← beq_true hb]
    have := hd.den t
    rw [hn] at this
    exact hl g H _ this
  | false => exact hd.den i

theorem sat_mono {E : Stc} {m : Md} {s : List Fr} {env env' : List (Nat × SV)} {own own' : List (Nat × SO)} {nx nx' : List Nat} (h : ∀ a w, At E env own a w → At E env' own' a w) (hS : Sat E m s env' own' nx') : Sat E m s env own nx := by
  cases m <;> exact fun a w hat => hS a w (h a w hat)

/-- What a temporary holds is parted into yes and no. -/
theorem at_split {E : Stc} {m : Md} {s : List Fr} {env : List (Nat × SV)} {own : List (Nat × SO)} {nx : List Nat} (t : Nat) {b : Bool} (hn : nth env t = .bl b)
    (ht : b = true → Sat E m s ((t, .tt) :: env) own nx) (hf : b = false → Sat E m s ((t, .ff) :: env) own nx) : Sat E m s env own nx := by
  cases b with
  | true => exact sat_mono (fun a w h => h.refine (sv' := .tt) hn fun _ _ _ h => h) (ht rfl)
  | false => exact sat_mono (fun a w h => h.refine (sv' := .ff) hn fun _ _ _ h => h) (hf rfl)

theorem at_true {E : Stc} {m : Md} {s : List Fr} {env : List (Nat × SV)} {own : List (Nat × SO)} {nx : List Nat} (t : Nat) {b : Bool} (hn : nth env t = .bl b) (hb : b = true)
    (k : Sat E m s ((t, .tt) :: env) own nx) : Sat E m s env own nx := at_split t hn (fun _ => k) (fun h => by rw [hb] at h; cases h)
theorem at_false {E : Stc} {m : Md} {s : List Fr} {env : List (Nat × SV)} {own : List (Nat × SO)} {nx : List Nat} (t : Nat) {b : Bool} (hn : nth env t = .bl b) (hb : b = false)
    (k : Sat E m s ((t, .ff) :: env) own nx) : Sat E m s env own nx := at_split t hn (fun h => by rw [hb] at h; cases h) (fun _ => k)

/-- One value says no more than another. -/
def SVle (a b : SV) : Prop := ∀ g H x, Den g H a x → Den g H b x
theorem SVle.refl (a : SV) : SVle a a := fun _ _ _ h => h
theorem SVle.any (a : SV) : SVle a .any := fun _ _ _ _ => trivial
theorem SVle.of_eq {a b : SV} (h : a = b) : SVle a b := h ▸ SVle.refl a

def subE (env : List (Nat × SV)) : List (Nat × SV) → Prop
  | [] => True
  | (t, s) :: l => SVle (nth env t) s ∧ subE env l

theorem subE_spec {env : List (Nat × SV)} : ∀ {l : List (Nat × SV)}, subE env l → ∀ t, SVle (nth env t) (nth l t)
  | [], _, t => SVle.any _
  | (i, s) :: l, h, t => by
    simp only [nth]
    cases hb : Nat.beq i t with
    | true => rw [← beq_true hb]; exact h.1
    | false => exact subE_spec h.2 t

theorem at_sub {E : Stc} {env env' : List (Nat × SV)} {own own' : List (Nat × SO)} {a : Act} {w : World} (h : At E env own a w) (he : subE env env') (ho : subO own own') : At E env' own' a w := by
  obtain ⟨hdf, g, H, hd⟩ := h
  refine ⟨hdf, g, H, { size := hd.size, den := fun t => subE_spec he t g H _ (hd.den t), ok := fun k o hk => hd.ok k o (subO_spec ho k o hk), inj := fun k j hk hj => hd.inj k j ?_ ?_, hp := hd.hp, base := hd.base }⟩
  · cases hq : ownq own' k with
    | none => rw [hq] at hk; cases hk
    | some o => rw [subO_spec ho k o hq]; rfl
  · cases hq : ownq own' j with
    | none => rw [hq] at hj; cases hj
    | some o => rw [subO_spec ho j o hq]; rfl

/-- Less is known from here on. -/
theorem at_less {E : Stc} {m : Md} {s : List Fr} {env : List (Nat × SV)} {own : List (Nat × SO)} {nx : List Nat} (env' : List (Nat × SV)) (own' : List (Nat × SO)) (nx' : List Nat) (he : subE env env') (ho : subO own own')
    (k : Sat E m s env' own' nx') : Sat E m s env own nx := sat_mono (fun _ _ h => at_sub h he ho) k

/-- What a round must come to. -/
def Again {α : Type} (φ : α → Prop) (σ : α → List (Nat × SV)) (τ : α → List (Nat × SO)) (μ : α → Nat) (x : α) (env : List (Nat × SV)) (own : List (Nat × SO)) : Prop :=
  ∃ y, φ y ∧ μ y < μ x ∧ subE env (σ y) ∧ subO own (τ y)

/-- A loop: the states at the head of each round, by a parameter; a measure that falls. -/
theorem at_loop {E : Stc} {c : Code} {s : List Fr} {env : List (Nat × SV)} {own : List (Nat × SO)} {nx : List Nat} {α : Type} (φ : α → Prop) (σ : α → List (Nat × SV)) (τ : α → List (Nat × SO)) (μ : α → Nat) (nx' : List Nat)
    (x0 : α) (h0 : φ x0) (he : subE env (σ x0)) (ho : subO own (τ x0)) (round : ∀ x, φ x → Sat E (.code c) (.lp (Again φ σ τ μ x) :: s) (σ x) (τ x) nx') : Sat E (.code (.loop c)) s env own nx := by
  intro a w hat
  refine wp_loop_ghost (fun n a w => ∃ x, φ x ∧ μ x = n ∧ At E (σ x) (τ x) a w) (μ x0) ⟨x0, h0, rfl, at_sub hat he ho⟩ ?_
  rintro n a w ⟨x, hx, hm, hat⟩
  refine wp_mono (round x hx a w hat) fun e a' w' hq => ?_
  cases e with
  | normal =>
    obtain ⟨env', own', ⟨y, hy, hlt, he', ho'⟩, hat'⟩ := hq
    exact ⟨μ y, by omega, y, hy, rfl, at_sub hat' he' ho'⟩
  | _ => exact hq

theorem at_again {E : Stc} {s : List Fr} {env : List (Nat × SV)} {own : List (Nat × SO)} {nx : List Nat} {α : Type} {φ : α → Prop} {σ : α → List (Nat × SV)} {τ : α → List (Nat × SO)} {μ : α → Nat} {x : α}
    (y : α) (h : φ y) (hm : μ y < μ x) (he : subE env (σ y)) (ho : subO own (τ y)) : Sat E .norm (.lp (Again φ σ τ μ x) :: s) env own nx :=
  fun _ _ hat => ⟨env, own, ⟨y, h, hm, he, ho⟩, hat⟩

/-- Ways that come together again. -/
def Joined {α : Type} (φ : α → Prop) (σ : α → List (Nat × SV)) (τ : α → List (Nat × SO)) (env : List (Nat × SV)) (own : List (Nat × SO)) : Prop :=
  ∃ y, φ y ∧ subE env (σ y) ∧ subO own (τ y)

theorem at_join {E : Stc} {c : Code} {s : List Fr} {env : List (Nat × SV)} {own : List (Nat × SO)} {nx : List Nat} {α : Type} (φ : α → Prop) (σ : α → List (Nat × SV)) (τ : α → List (Nat × SO)) (nx' : List Nat)
    (h : Sat E (.code c) (.lp (Joined φ σ τ) :: s) env own nx) (k : ∀ x, φ x → Sat E .norm s (σ x) (τ x) nx') : Sat E (.code c) s env own nx := by
  intro a w hat
  refine wp_mono (h a w hat) fun e a' w' hq => ?_
  cases e with
  | normal =>
    obtain ⟨env', own', ⟨y, hy, he, ho⟩, hat'⟩ := hq
    exact k y hy a' w' (at_sub hat' he ho)
  | _ => exact hq

theorem at_joined {E : Stc} {s : List Fr} {env : List (Nat × SV)} {own : List (Nat × SO)} {nx : List Nat} {α : Type} {φ : α → Prop} {σ : α → List (Nat × SV)} {τ : α → List (Nat × SO)}
    (y : α) (h : φ y) (he : subE env (σ y)) (ho : subO own (τ y)) : Sat E .norm (.lp (Joined φ σ τ) :: s) env own nx :=
  fun _ _ hat => ⟨env, own, ⟨y, h, he, ho⟩, hat⟩

theorem Gives.le {P : Program} {f : FuncId} {args : List SV} {a b : SV} (h : Gives P f args a) (hl : SVle a b) (h0 : b.lt 0 = true := by rfl) : Gives P f args b := by
  refine ⟨h.1, fun g H w vs h1 h2 h3 h4 => (h.2 g H w vs h1 h2 h3 h4).mono fun e w' he => ?_⟩
  cases e with
  | returned v =>
    obtain ⟨g', H', sv, own, ⟨rfl, _, rfl⟩, hv, hr⟩ := he
    exact ⟨g', H', b, [], ⟨rfl, h0, rfl⟩, hl _ _ _ hv, hr⟩
  | _ => exact he

theorem SVle.tt {b : Bool} (h : b = true) : SVle .tt (.bl b) := fun _ _ _ hd => by subst h; exact hd
theorem SVle.ff {b : Bool} (h : b = false) : SVle .ff (.bl b) := fun _ _ _ hd => by subst h; exact hd
theorem SVle.isT {b : Bool} (h : b = true) : SVle (.bl b) .tt := fun _ _ _ hd => by subst h; exact hd

def SVles : List SV → List SV → Prop
  | [], [] => True
  | a :: l, b :: r => SVle a b ∧ SVles l r
  | _, _ => False
theorem SVles.dens : ∀ {l r : List SV}, SVles l r → ∀ g H xs, Dens g H l xs → Dens g H r xs
  | [], [], _, _, _, _, h => h
  | _ :: _, _ :: _, hl, g, H, x :: xs, h => ⟨hl.1 g H x h.1, SVles.dens hl.2 g H xs h.2⟩
  | _ :: _, _ :: _, _, _, _, [], h => h.elim
  | [], _ :: _, hl, _, _, _, _ => hl.elim
  | _ :: _, [], hl, _, _, _, _ => hl.elim
theorem SVle.tup {l r : List SV} (h : SVles l r) : SVle (.tup l) (.tup r) := by
  rintro g H x ⟨cs, e, hd⟩
  exact ⟨cs, e, h.dens g H cs hd⟩

end Go.Eng
