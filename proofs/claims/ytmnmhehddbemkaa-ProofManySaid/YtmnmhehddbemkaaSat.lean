/- The proof engine, part 11: from the executor's run to the model's. -/
import Derived.Test.YtmnmhehddbemkaaRun
namespace Go.Eng

/-- What stays the same through a function. -/
structure Stc where
  P : Program
  T : Nat → TI
  hT : ∀ t, T t = tiOf P t
  fn : Func
  cx : Cx
  n : Nat
  Post : SV → List (Nat × SO) → Prop

def InjOn (g : Nat → Value) (own : List (Nat × SO)) : Prop :=
  ∀ k j, (ownq own k).isSome = true → (ownq own j).isSome = true → ∀ b, blkOf (g k) = some b → blkOf (g j) = some b → k = j

/-- What stands when a function is through. -/
def Fin (cx : Cx) (Post : SV → List (Nat × SO) → Prop) (v : Value) (w : World) : Prop :=
  ∃ g H sv own, Post sv own ∧ Den g H sv v ∧ (∀ k o, ownq own k = some o → OwnOk cx.mine g H w k o) ∧ InjOn g own ∧ H.on w ∧ Base cx g H w

def FinE (cx : Cx) (Post : SV → List (Nat × SO) → Prop) : Ending → World → Prop
  | .returned v, w => Fin cx Post v w
  | _, _ => False

def At (E : Stc) (env : List (Nat × SV)) (own : List (Nat × SO)) (a : Act) (w : World) : Prop :=
  a.defers = [] ∧ ∃ g H, Dn E.cx g H env own E.n a.tmps w

def KK (E : Stc) : List Fr → Exit → Act → World → Prop
  | [] => bodyPost E.P E.fn (FinE E.cx E.Post)
  | .seq c :: s => Exit.then (c.wp E.P (KK E s)) (KK E s)
  | .blk id :: s => Exit.inBlock id (KK E s)
  | .lp I :: s => Exit.then (fun a w => ∃ env own, I env own ∧ At E env own a w) (KK E s)

def Sat (E : Stc) (m : Md) (s : List Fr) (env : List (Nat × SV)) (own : List (Nat × SO)) (_nx : List Nat) : Prop :=
  match m with
  | .ops all ops => ∀ a w, At E env own a w → wpList E.P all.toArray (KK E s) ops a w
  | .code c => ∀ a w, At E env own a w → c.wp E.P (KK E s) a w
  | .norm => ∀ a w, At E env own a w → KK E s .normal a w
  | .ex id => ∀ a w, At E env own a w → KK E s (.exit id) a w
  | .ret => ∀ a w, At E env own a w → KK E s .ret a w

def All : List Prop → Prop
  | [] => True
  | [p] => p
  | p :: ps => p ∧ All ps

theorem All.mem : ∀ {l : List Prop}, All l → ∀ p ∈ l, p
  | [p], h, q, hq => by rw [List.mem_singleton] at hq; subst hq; exact h
  | p :: r :: ps, h, q, hq => by
    rcases List.mem_cons.1 hq with rfl | hq
    · exact h.1
    · exact All.mem h.2 q hq

theorem kk_ret (E : Stc) : ∀ (s : List Fr) (a : Act) (w : World), KK E [] .ret a w → KK E s .ret a w
  | [], _, _, h => h
  | .seq _ :: s, a, w, h => kk_ret E s a w h
  | .blk _ :: s, a, w, h => kk_ret E s a w h
  | .lp _ :: s, a, w, h => kk_ret E s a w h

def put (dst : Option Nat) (s : SV) (env : List (Nat × SV)) : List (Nat × SV) :=
  match dst with
  | some d => (d, s) :: env
  | none => env

theorem At.put {E : Stc} {env : List (Nat × SV)} {own : List (Nat × SO)} {a : Act} {w : World} {g : Nat → Value} {H : Hp} {v : SV} {x : Value} {dst : Option Tmp}
    (hd : a.defers = []) (h : Dn E.cx g H env own E.n a.tmps w) (hv : Den g H v x) : (∀ d, dst = some d → d < E.n) →
    At E (Eng.put dst v env) own (a.put dst x) w := by
  intro hlt
  cases dst with
  | none => exact ⟨hd, g, H, h⟩
  | some d => exact ⟨hd, g, H, h.put (hlt d rfl) hv⟩

theorem Dn.put_any {cx : Cx} {g : Nat → Value} {H : Hp} {env : List (Nat × SV)} {own : List (Nat × SO)} {n : Nat} {tmps : Array Value} {w : World} {d : Nat} {x : Value}
    (h : Dn cx g H env own n tmps w) : Dn cx g H ((d, .any) :: env) own n (tmps.setIfInBounds d x) w where
  size := by simp [h.size]
  den t := by
    simp only [nth]
    cases hb : Nat.beq d t with
    | true => trivial
    | false =>
      have hne := beq_false hb
      have := h.den t
      simpa [Array.getElem?_setIfInBounds_ne hne] using this
  ok := h.ok
  inj := h.inj
  hp := h.hp
  base := h.base

theorem Dn.put_un {cx : Cx} {g : Nat → Value} {H : Hp} {env : List (Nat × SV)} {own : List (Nat × SO)} {n : Nat} {tmps : Array Value} {w : World} {d : Nat}
    (h : Dn cx g H env own n tmps w) : Dn cx g H ((d, .tup []) :: env) own n (tmps.setIfInBounds d undef) w where
  size := by simp [h.size]
  den t := by
    simp only [nth]
    cases hb : Nat.beq d t with
    | true =>
      have := beq_true hb
      subst this
      have e : (tmps.setIfInBounds d undef).getD d undef = undef := by
        rw [Array.getD_eq_getD_getElem?, Array.getElem?_setIfInBounds]
        simp only [if_true]
        split <;> rfl
      rw [e]
      exact ⟨[], rfl, trivial⟩
    | false =>
      have hne := beq_false hb
      have := h.den t
      simpa [Array.getElem?_setIfInBounds_ne hne] using this
  ok := h.ok
  inj := h.inj
  hp := h.hp
  base := h.base

theorem dstOf_eq : ∀ (l : List Oper) (j : Nat), dstOf l j = (l[j]?).bind (·.dst)
  | [], _ => by simp [dstOf]
  | o :: _, 0 => by simp [dstOf]
  | _ :: l, n + 1 => by simp [dstOf, dstOf_eq l n]

/-- One operation that is done. -/
theorem sat_op {E : Stc} {all rest : List Oper} {o : Oper} {s : List Fr} {env : List (Nat × SV)} {own own' : List (Nat × SO)} {nx : List Nat} {v : SV} {a : Act} {w : World}
    (hD : Does E.P E.cx.m0 o env own v own') (hlt : ∀ d, o.dst = some d → d < E.n)
    (hS : Sat E (.ops all rest) s (put o.dst v env) own' nx) (hat : At E env own a w) :
    o.wp E.P a w (wpList E.P all.toArray (KK E s) rest) (KK E s) := by
  obtain ⟨hdf, g, H, hd⟩ := hat
  obtain ⟨x, w', g', hr, hv, hd'⟩ := hD E.cx g H E.n a w rfl hd
  unfold Oper.wp
  rcases hr with hr | ⟨hr, hx⟩
  · rw [hr]
    exact hS _ _ (At.put hdf hd' hv hlt)
  · rw [hr]
    subst hx
    exact hS _ _ (At.put hdf hd' hv hlt)

theorem guardK_wanted {E : Stc} {all : List Oper} {o : Oper} {env : List (Nat × SV)} {own : List (Nat × SO)} {β : Type} {yes no stuck : β} :
    (guardK all o.guard env yes no stuck = yes ∧ ∀ a w, At E env own a w → Region.wanted o (yielded all.toArray a.tmps) = true) ∨
    (guardK all o.guard env yes no stuck = no ∧ ∀ a w, At E env own a w → Region.wanted o (yielded all.toArray a.tmps) = false) ∨ guardK all o.guard env yes no stuck = stuck := by
  unfold guardK Region.wanted
  cases hg : o.guard with
  | none => exact .inl ⟨rfl, fun _ _ _ => rfl⟩
  | some p =>
    obtain ⟨j, want⟩ := p
    simp only
    cases hj : dstOf all j with
    | none => exact .inr (.inr rfl)
    | some d =>
      simp only [nthK_eq]
      rw [dstOf_eq] at hj
      have hy : ∀ b, nth env d = (if b then SV.tt else SV.ff) → ∀ a w, At E env own a w → yielded all.toArray a.tmps j = some b := by
        intro b hb a w hat
        obtain ⟨_, g, H, hd⟩ := hat
        have hden := hd.den d
        rw [hb] at hden
        have hv : a.tmps.getD d undef = .bool b := by cases b <;> exact hden
        have : a.tmps[d]? = some (.bool b) := by
          rw [Array.getD_eq_getD_getElem?] at hv
          cases hc : a.tmps[d]? with
          | none => rw [hc] at hv; simp [undef] at hv
          | some u => rw [hc] at hv; simpa using hv
        simp [yielded, hj, this]
      split
      · rename_i h; exact .inl ⟨rfl, fun a w hat => by rw [hy true h a w hat]; rfl⟩
      · rename_i h; exact .inl ⟨rfl, fun a w hat => by rw [hy false h a w hat]; rfl⟩
      · rename_i h; exact .inr (.inl ⟨rfl, fun a w hat => by rw [hy true h a w hat]; rfl⟩)
      · rename_i h; exact .inr (.inl ⟨rfl, fun a w hat => by rw [hy false h a w hat]; rfl⟩)
      · rename_i h
        refine .inr (.inl ⟨rfl, fun a w hat => ?_⟩)
        obtain ⟨_, g, H, hd⟩ := hat
        have hden := hd.den d
        rw [h] at hden
        obtain ⟨cs, e, hcs⟩ := hden
        cases cs with
        | cons _ _ => exact hcs.elim
        | nil =>
          have hv : yielded all.toArray a.tmps j = none := by
            rw [Array.getD_eq_getD_getElem?] at e
            simp only [yielded, List.getElem?_toArray, hj, Option.bind_some]
            cases hc : a.tmps[d]? with
            | none => rfl
            | some u => rw [hc] at e; simp only [Option.getD_some] at e; rw [e]
          rw [hv]
          rfl
      · exact .inr (.inr rfl)

theorem all_cons {p : Prop} {ps : List Prop} : All (p :: ps) → p ∧ All ps := by
  intro h
  cases ps with
  | nil => exact ⟨h, trivial⟩
  | cons q ps => exact h

theorem exec_sound (E : Stc) : ∀ (q : Nat) (m : Md) (s : List Fr) (env : List (Nat × SV)) (own : List (Nat × SO)) (nx : List Nat) (ob : List Prop) (m' : Md) (s' : List Fr) (env' : List (Nat × SV)) (own' : List (Nat × SO)) (nx' : List Nat) (ob' : List Prop),
    exec E.T E.cx.m0 E.n q m s env own nx ob = .stop m' s' env' own' nx' ob' → All ob' → Sat E m' s' env' own' nx' → All ob ∧ Sat E m s env own nx := by
  intro q
  induction q with
  | zero =>
    intro m s env own nx ob m' s' env' own' nx' ob' h ha hS
    simp only [exec, Out.stop.injEq] at h
    obtain ⟨rfl, rfl, rfl, rfl, rfl, rfl⟩ := h
    exact ⟨ha, hS⟩
  | succ q ih =>
    intro m s env own nx ob m' s' env' own' nx' ob' h ha hS
    have stop : ∀ {m s env own nx ob}, Out.stop m s env own nx ob = .stop m' s' env' own' nx' ob' → All ob ∧ Sat E m s env own nx := by
      intro m s env own nx ob h
      simp only [Out.stop.injEq] at h
      obtain ⟨rfl, rfl, rfl, rfl, rfl, rfl⟩ := h
      exact ⟨ha, hS⟩
    have go : ∀ {m s env own nx ob}, exec E.T E.cx.m0 E.n q m s env own nx ob = .stop m' s' env' own' nx' ob' → All ob ∧ Sat E m s env own nx := fun h => ih _ _ _ _ _ _ _ _ _ _ _ _ h ha hS
    cases m with
    | norm =>
      simp only [exec] at h
      split at h
      · rename_i c s
        obtain ⟨h1, h2⟩ := go h
        exact ⟨h1, fun a w hat => h2 a w hat⟩
      · rename_i id s
        obtain ⟨h1, h2⟩ := go h
        exact ⟨h1, fun a w hat => h2 a w hat⟩
      · exact stop h
    | ex id =>
      simp only [exec] at h
      split at h
      · obtain ⟨h1, h2⟩ := go h
        exact ⟨h1, fun a w hat => h2 a w hat⟩
      · rename_i j s
        cases hb : Nat.beq id j with
        | true =>
          have := beq_true hb
          subst this
          simp only [hb, cond_true] at h
          obtain ⟨h1, h2⟩ := go h
          exact ⟨h1, fun a w hat => by
            have := h2 a w hat
            simpa [KK, Exit.inBlock] using this⟩
        | false =>
          simp only [hb, cond_false] at h
          obtain ⟨h1, h2⟩ := go h
          exact ⟨h1, fun a w hat => by
            have := h2 a w hat
            simpa [KK, Exit.inBlock, beq_false hb] using this⟩
      · obtain ⟨h1, h2⟩ := go h
        exact ⟨h1, fun a w hat => h2 a w hat⟩
      · exact stop h
    | ret =>
      simp only [exec] at h
      obtain ⟨h1, h2⟩ := stop h
      exact ⟨h1, fun a w hat => kk_ret E s a w (h2 a w hat)⟩
    | code c =>
      simp only [exec, evK_eq] at h
      cases c with
      | skip =>
        obtain ⟨h1, h2⟩ := go h
        exact ⟨h1, fun a w hat => wp_skip (h2 a w hat)⟩
      | region id ops draw =>
        cases draw with
        | true => exact stop h
        | false =>
          obtain ⟨h1, h2⟩ := go h
          exact ⟨h1, fun a w hat => wp_region_list (by
            have := h2 a w hat
            simpa using this)⟩
      | seq x y =>
        obtain ⟨h1, h2⟩ := go h
        exact ⟨h1, fun a w hat => wp_seq (h2 a w hat)⟩
      | cond x y z =>
        simp only at h
        split at h
        · rename_i hx
          obtain ⟨h1, h2⟩ := go h
          refine ⟨h1, fun a w hat => ?_⟩
          have hat' := hat
          obtain ⟨_, g, H, hd⟩ := hat'
          have hv := hd.ev x
          rw [hx] at hv
          exact wp_cond_true hv (h2 a w hat)
        · rename_i hx
          obtain ⟨h1, h2⟩ := go h
          refine ⟨h1, fun a w hat => ?_⟩
          have hat' := hat
          obtain ⟨_, g, H, hd⟩ := hat'
          have hv := hd.ev x
          rw [hx] at hv
          exact wp_cond_false hv (h2 a w hat)
        · exact stop h
      | block id b =>
        obtain ⟨h1, h2⟩ := go h
        exact ⟨h1, fun a w hat => wp_block (h2 a w hat)⟩
      | exit id =>
        obtain ⟨h1, h2⟩ := go h
        exact ⟨h1, fun a w hat => wp_exit (h2 a w hat)⟩
      | ret =>
        obtain ⟨h1, h2⟩ := stop h
        exact ⟨h1, fun a w hat => wp_ret (kk_ret E s a w (h2 a w hat))⟩
      | _ => exact stop h
    | ops all ops =>
      simp only [exec] at h
      split at h
      · obtain ⟨h1, h2⟩ := go h
        exact ⟨h1, fun a w hat => h2 a w hat⟩
      · rename_i o rest
        -- what one operation gives
        have op : ∀ (r : Out), (match o.dst with
            | none => op1 E.T E.cx.m0 o.op env own nx (fun _ => exec E.T E.cx.m0 E.n q (.ops all rest) s env own nx ob) (fun _ own nx => exec E.T E.cx.m0 E.n q (.ops all rest) s env own nx ob)
                (fun own => exec E.T E.cx.m0 E.n q (.ops all rest) s env own nx ob) (fun p _ => exec E.T E.cx.m0 E.n q (.ops all rest) s env own nx (p :: ob)) (.stop (.ops all (o :: rest)) s env own nx ob)
            | some d => bif Nat.blt d E.n then
                op1 E.T E.cx.m0 o.op env own nx (fun v => exec E.T E.cx.m0 E.n q (.ops all rest) s ((d, v) :: env) own nx ob) (fun v own nx => exec E.T E.cx.m0 E.n q (.ops all rest) s ((d, v) :: env) own nx ob)
                  (fun own => exec E.T E.cx.m0 E.n q (.ops all rest) s ((d, .any) :: env) own nx ob) (fun p v => exec E.T E.cx.m0 E.n q (.ops all rest) s ((d, v) :: env) own nx (p :: ob)) (.stop (.ops all (o :: rest)) s env own nx ob)
              else .stop (.ops all (o :: rest)) s env own nx ob) = r → r = .stop m' s' env' own' nx' ob' →
            All ob ∧ ((∀ a w, At E env own a w → o.wp E.P a w (wpList E.P all.toArray (KK E s) rest) (KK E s)) ∨ Sat E (.ops all (o :: rest)) s env own nx) := by
          intro r hr hr'
          cases hdst : o.dst with
          | none =>
            simp only [hdst] at hr
            have key := op1_sound (α := Out) (P := E.P) (m0 := E.cx.m0) (env := env) (own := own) (nx := nx) (kv := fun _ => exec E.T E.cx.m0 E.n q (.ops all rest) s env own nx ob) (ko := fun _ own nx => exec E.T E.cx.m0 E.n q (.ops all rest) s env own nx ob)
              (ks := fun own => exec E.T E.cx.m0 E.n q (.ops all rest) s env own nx ob) (kp := fun p _ => exec E.T E.cx.m0 E.n q (.ops all rest) s env own nx (p :: ob)) (f := .stop (.ops all (o :: rest)) s env own nx ob) E.hT o
            rw [hr] at key
            have hlt : ∀ d, o.dst = some d → d < E.n := fun d e => by rw [hdst] at e; cases e
            generalize hrr : r = r0 at key
            cases key with
            | f => rw [hr'] at hrr; obtain ⟨h1, h2⟩ := stop hrr.symm; exact ⟨h1, .inr h2⟩
            | v v hD => rw [hr'] at hrr; obtain ⟨h1, h2⟩ := go hrr.symm; exact ⟨h1, .inl fun a w hat => sat_op hD.does hlt (nx := nx) (by rw [hdst]; exact h2) hat⟩
            | o v own1 nx1 hD => rw [hr'] at hrr; obtain ⟨h1, h2⟩ := go hrr.symm; exact ⟨h1, .inl fun a w hat => sat_op hD hlt (nx := nx1) (by rw [hdst]; exact h2) hat⟩
            | s own1 hD => rw [hr'] at hrr; obtain ⟨h1, h2⟩ := go hrr.symm; exact ⟨h1, .inl fun a w hat => sat_op hD hlt (nx := nx) (by rw [hdst]; exact h2) hat⟩
            | p p v hD => rw [hr'] at hrr; obtain ⟨h1, h2⟩ := go hrr.symm; obtain ⟨hp, h1⟩ := all_cons h1; exact ⟨h1, .inl fun a w hat => sat_op (hD hp).does hlt (nx := nx) (by rw [hdst]; exact h2) hat⟩
          | some d =>
            simp only [hdst] at hr
            cases hb : Nat.blt d E.n with
            | false =>
              simp only [hb, cond_false] at hr
              obtain ⟨h1, h2⟩ := stop (hr.trans hr')
              exact ⟨h1, .inr h2⟩
            | true =>
              simp only [hb, cond_true] at hr
              have key := op1_sound (α := Out) (P := E.P) (m0 := E.cx.m0) (env := env) (own := own) (nx := nx) (kv := fun v => exec E.T E.cx.m0 E.n q (.ops all rest) s ((d, v) :: env) own nx ob) (ko := fun v own nx => exec E.T E.cx.m0 E.n q (.ops all rest) s ((d, v) :: env) own nx ob)
                (ks := fun own => exec E.T E.cx.m0 E.n q (.ops all rest) s ((d, .any) :: env) own nx ob) (kp := fun p v => exec E.T E.cx.m0 E.n q (.ops all rest) s ((d, v) :: env) own nx (p :: ob)) (f := .stop (.ops all (o :: rest)) s env own nx ob) E.hT o
              rw [hr] at key
              have hlt : ∀ d', o.dst = some d' → d' < E.n := fun d' e => by
                rw [hdst] at e
                cases e
                exact Nat.blt_eq.mp hb
              generalize hrr : r = r0 at key
              cases key with
              | f => rw [hr'] at hrr; obtain ⟨h1, h2⟩ := stop hrr.symm; exact ⟨h1, .inr h2⟩
              | v v hD => rw [hr'] at hrr; obtain ⟨h1, h2⟩ := go hrr.symm; exact ⟨h1, .inl fun a w hat => sat_op hD.does hlt (nx := nx) (by rw [hdst]; exact h2) hat⟩
              | o v own1 nx1 hD => rw [hr'] at hrr; obtain ⟨h1, h2⟩ := go hrr.symm; exact ⟨h1, .inl fun a w hat => sat_op hD hlt (nx := nx1) (by rw [hdst]; exact h2) hat⟩
              | s own1 hD => rw [hr'] at hrr; obtain ⟨h1, h2⟩ := go hrr.symm; exact ⟨h1, .inl fun a w hat => sat_op hD hlt (nx := nx) (by rw [hdst]; exact h2) hat⟩
              | p p v hD => rw [hr'] at hrr; obtain ⟨h1, h2⟩ := go hrr.symm; obtain ⟨hp, h1⟩ := all_cons h1; exact ⟨h1, .inl fun a w hat => sat_op (hD hp).does hlt (nx := nx) (by rw [hdst]; exact h2) hat⟩
        rcases guardK_wanted (E := E) (all := all) (o := o) (env := env) (own := own) with ⟨hy, hw⟩ | ⟨hy, hw⟩ | hy
        · rw [hy] at h
          obtain ⟨h1, h2⟩ := op _ rfl h
          refine ⟨h1, fun a w hat => ?_⟩
          rcases h2 with h2 | h2
          · have := h2 a w hat
            unfold wpList
            rw [if_pos (hw a w hat)]
            exact .inl this
          · exact h2 a w hat
        · rw [hy] at h
          cases hdst : o.dst with
          | none =>
            simp only [hdst] at h
            obtain ⟨h1, h2⟩ := go h
            refine ⟨h1, fun a w hat => ?_⟩
            refine wpList_skip (hw a w hat) ?_
            rw [hdst]
            exact h2 a w hat
          | some d =>
            simp only [hdst] at h
            obtain ⟨h1, h2⟩ := go h
            refine ⟨h1, fun a w hat => ?_⟩
            refine wpList_skip (hw a w hat) ?_
            rw [hdst]
            obtain ⟨hdf, g, H, hd⟩ := hat
            exact h2 _ _ ⟨hdf, g, H, hd.put_un⟩
        · rw [hy] at h
          exact stop h

/-- The run, taken. -/
theorem run_go {E : Stc} {m : Md} {s : List Fr} {env : List (Nat × SV)} {own : List (Nat × SO)} {nx : List Nat} {m' : Md} {s' : List Fr} {env' : List (Nat × SV)} {own' : List (Nat × SO)} {nx' : List Nat} {ob' : List Prop} (q : Nat)
    (h : exec E.T E.cx.m0 E.n q m s env own nx [] = .stop m' s' env' own' nx' ob') (ha : All ob') (hS : Sat E m' s' env' own' nx') : Sat E m s env own nx :=
  (exec_sound E q m s env own nx [] m' s' env' own' nx' ob' h ha hS).2

end Go.Eng
