/- The texts Sat, Call, Stop, At, Lst, Lst2, one behind the other: an executor over the translated code, contracts of functions, and their laws. -/
import Derived.Deep.LoopGhost
import Derived.Laws.AppendOwn
import Derived.Laws.MakeOwn
import Derived.Test.YtmnmhehddbemkaaTermC1
/- The proof engine, part 11: from the executor's run to the model's. -/
namespace Go.Eng

/-- What stays the same through a function. -/
structure Stc where
  P : Program
  T : Nat → TI
  hT : ∀ t, T t = tiOf P t
  fn : Func
  cx : Cx
  n : Nat
  Post : SV → List (Nat × SO) → Prop

def InjOn (g : Nat → Value) (own : List (Nat × SO)) : Prop :=
  ∀ k j, (ownq own k).isSome = true → (ownq own j).isSome = true → ∀ b, blkOf (g k) = some b → blkOf (g j) = some b → k = j

/-- What stands when a function is through. -/
def Fin (cx : Cx) (Post : SV → List (Nat × SO) → Prop) (v : Value) (w : World) : Prop :=
  ∃ g H sv own, Post sv own ∧ Den g H sv v ∧ (∀ k o, ownq own k = some o → OwnOk cx.mine g H w k o) ∧ InjOn g own ∧ H.on w ∧ Base cx g H w

def FinE (cx : Cx) (Post : SV → List (Nat × SO) → Prop) : Ending → World → Prop
  | .returned v, w => Fin cx Post v w
  | _, _ => False

def At (E : Stc) (env : List (Nat × SV)) (own : List (Nat × SO)) (a : Act) (w : World) : Prop :=
  a.defers = [] ∧ ∃ g H, Dn E.cx g H env own E.n a.tmps w

def KK (E : Stc) : List Fr → Exit → Act → World → Prop
  | [] => bodyPost E.P E.fn (FinE E.cx E.Post)
  | .seq c :: s => Exit.then (c.wp E.P (KK E s)) (KK E s)
  | .blk id :: s => Exit.inBlock id (KK E s)
  | .lp I :: s => Exit.then (fun a w => ∃ env own, I env own ∧ At E env own a w) (KK E s)

def Sat (E : Stc) (m : Md) (s : List Fr) (env : List (Nat × SV)) (own : List (Nat × SO)) (_nx : List Nat) : Prop :=
  match m with
  | .ops all ops => ∀ a w, At E env own a w → wpList E.P all.toArray (KK E s) ops a w
  | .code c => ∀ a w, At E env own a w → c.wp E.P (KK E s) a w
  | .norm => ∀ a w, At E env own a w → KK E s .normal a w
  | .ex id => ∀ a w, At E env own a w → KK E s (.exit id) a w
  | .ret => ∀ a w, At E env own a w → KK E s .ret a w

def All : List Prop → Prop
  | [] => True
  | [p] => p
  | p :: ps => p ∧ All ps

theorem All.mem : ∀ {l : List Prop}, All l → ∀ p ∈ l, p
  | [p], h, q, hq => by rw [List.mem_singleton] at hq; subst hq; exact h
  | p :: r :: ps, h, q, hq => by
    rcases List.mem_cons.1 hq with rfl | hq
    · exact h.1
    · exact All.mem h.2 q hq

theorem kk_ret (E : Stc) : ∀ (s : List Fr) (a : Act) (w : World), KK E [] .ret a w → KK E s .ret a w
  | [], _, _, h => h
  | .seq _ :: s, a, w, h => kk_ret E s a w h
  | .blk _ :: s, a, w, h => kk_ret E s a w h
  | .lp _ :: s, a, w, h => kk_ret E s a w h

def put (dst : Option Nat) (s : SV) (env : List (Nat × SV)) : List (Nat × SV) :=
  match dst with
  | some d => (d, s) :: env
  | none => env

theorem At.put {E : Stc} {env : List (Nat × SV)} {own : List (Nat × SO)} {a : Act} {w : World} {g : Nat → Value} {H : Hp} {v : SV} {x : Value} {dst : Option Tmp}
    (hd : a.defers = []) (h : Dn E.cx g H env own E.n a.tmps w) (hv : Den g H v x) : (∀ d, dst = some d → d < E.n) →
    At E (Eng.put dst v env) own (a.put dst x) w := by
  intro hlt
  cases dst with
  | none => exact ⟨hd, g, H, h⟩
  | some d => exact ⟨hd, g, H, h.put (hlt d rfl) hv⟩

theorem Dn.put_any {cx : Cx} {g : Nat → Value} {H : Hp} {env : List (Nat × SV)} {own : List (Nat × SO)} {n : Nat} {tmps : Array Value} {w : World} {d : Nat} {x : Value}
    (h : Dn cx g H env own n tmps w) : Dn cx g H ((d, .any) :: env) own n (tmps.setIfInBounds d x) w where
  size := by simp [h.size]
  den t := by
    simp only [nth]
    cases hb : Nat.beq d t with
    | true => trivial
    | false =>
      have hne := beq_false hb
      have := h.den t
      simpa [Array.getElem?_setIfInBounds_ne hne] using this
  ok := h.ok
  inj := h.inj
  hp := h.hp
  base := h.base

theorem Dn.put_un {cx : Cx} {g : Nat → Value} {H : Hp} {env : List (Nat × SV)} {own : List (Nat × SO)} {n : Nat} {tmps : Array Value} {w : World} {d : Nat}
    (h : Dn cx g H env own n tmps w) : Dn cx g H ((d, .tup []) :: env) own n (tmps.setIfInBounds d undef) w where
  size := by simp [h.size]
  den t := by
    simp only [nth]
    cases hb : Nat.beq d t with
    | true =>
      have := beq_true hb
      subst this
      have e : (tmps.setIfInBounds d undef).getD d undef = undef := by
        rw [Array.getD_eq_getD_getElem?, Array.getElem?_setIfInBounds]
        simp only [if_true]
        split <;> rfl
      rw [e]
      exact ⟨[], rfl, trivial⟩
    | false =>
      have hne := beq_false hb
      have := h.den t
      simpa [Array.getElem?_setIfInBounds_ne hne] using this
  ok := h.ok
  inj := h.inj
  hp := h.hp
  base := h.base

theorem dstOf_eq : ∀ (l : List Oper) (j : Nat), dstOf l j = (l[j]?).bind (·.dst)
  | [], _ => by simp [dstOf]
  | o :: _, 0 => by simp [dstOf]
  | _ :: l, n + 1 => by simp [dstOf, dstOf_eq l n]

/-- One operation that is done. -/
theorem sat_op {E : Stc} {all rest : List Oper} {o : Oper} {s : List Fr} {env : List (Nat × SV)} {own own' : List (Nat × SO)} {nx : List Nat} {v : SV} {a : Act} {w : World}
    (hD : Does E.P E.cx.m0 o env own v own') (hlt : ∀ d, o.dst = some d → d < E.n)
    (hS : Sat E (.ops all rest) s (put o.dst v env) own' nx) (hat : At E env own a w) :
    o.wp E.P a w (wpList E.P all.toArray (KK E s) rest) (KK E s) := by
  obtain ⟨hdf, g, H, hd⟩ := hat
  obtain ⟨x, w', g', hr, hv, hd'⟩ := hD E.cx g H E.n a w rfl hd
  unfold Oper.wp
  rcases hr with hr | ⟨hr, hx⟩
  · rw [hr]
    exact hS _ _ (At.put hdf hd' hv hlt)
  · rw [hr]
    subst hx
    exact hS _ _ (At.put hdf hd' hv hlt)

theorem guardK_wanted {E : Stc} {all : List Oper} {o : Oper} {env : List (Nat × SV)} {own : List (Nat × SO)} {β : Type} {yes no stuck : β} :
    (guardK all o.guard env yes no stuck = yes ∧ ∀ a w, At E env own a w → Region.wanted o (yielded all.toArray a.tmps) = true) ∨
    (guardK all o.guard env yes no stuck = no ∧ ∀ a w, At E env own a w → Region.wanted o (yielded all.toArray a.tmps) = false) ∨ guardK all o.guard env yes no stuck = stuck := by
  unfold guardK Region.wanted
  cases hg : o.guard with
  | none => exact .inl ⟨rfl, fun _ _ _ => rfl⟩
  | some p =>
    obtain ⟨j, want⟩ := p
    simp only
    cases hj : dstOf all j with
    | none => exact .inr (.inr rfl)
    | some d =>
      simp only [nthK_eq]
      rw [dstOf_eq] at hj
      have hy : ∀ b, nth env d = (if b then SV.tt else SV.ff) → ∀ a w, At E env own a w → yielded all.toArray a.tmps j = some b := by
        intro b hb a w hat
        obtain ⟨_, g, H, hd⟩ := hat
        have hden := hd.den d
        rw [hb] at hden
        have hv : a.tmps.getD d undef = .bool b := by cases b <;> exact hden
        have : a.tmps[d]? = some (.bool b) := by
          rw [Array.getD_eq_getD_getElem?] at hv
          cases hc : a.tmps[d]? with
          | none => rw [hc] at hv; simp [undef] at hv
          | some u => rw [hc] at hv; simpa using hv
        simp [yielded, hj, this]
      split
      · rename_i h; exact .inl ⟨rfl, fun a w hat => by rw [hy true h a w hat]; rfl⟩
      · rename_i h; exact .inl ⟨rfl, fun a w hat => by rw [hy false h a w hat]; rfl⟩
      · rename_i h; exact .inr (.inl ⟨rfl, fun a w hat => by rw [hy true h a w hat]; rfl⟩)
      · rename_i h; exact .inr (.inl ⟨rfl, fun a w hat => by rw [hy false h a w hat]; rfl⟩)
      · rename_i h
        refine .inr (.inl ⟨rfl, fun a w hat => ?_⟩)
        obtain ⟨_, g, H, hd⟩ := hat
        have hden := hd.den d
        rw [h] at hden
        obtain ⟨cs, e, hcs⟩ := hden
        cases cs with
        | cons _ _ => exact hcs.elim
        | nil =>
          have hv : yielded all.toArray a.tmps j = none := by
            rw [Array.getD_eq_getD_getElem?] at e
            simp only [yielded, List.getElem?_toArray, hj, Option.bind_some]
            cases hc : a.tmps[d]? with
            | none => rfl
            | some u => rw [hc] at e; simp only [Option.getD_some] at e; rw [e]
          rw [hv]
          rfl
      · exact .inr (.inr rfl)

theorem all_cons {p : Prop} {ps : List Prop} : All (p :: ps) → p ∧ All ps := by
  intro h
  cases ps with
  | nil => exact ⟨h, trivial⟩
  | cons q ps => exact h

theorem exec_sound (E : Stc) : ∀ (q : Nat) (m : Md) (s : List Fr) (env : List (Nat × SV)) (own : List (Nat × SO)) (nx : List Nat) (ob : List Prop) (m' : Md) (s' : List Fr) (env' : List (Nat × SV)) (own' : List (Nat × SO)) (nx' : List Nat) (ob' : List Prop),
    exec E.T E.cx.m0 E.n q m s env own nx ob = .stop m' s' env' own' nx' ob' → All ob' → Sat E m' s' env' own' nx' → All ob ∧ Sat E m s env own nx := by
  intro q
  induction q with
  | zero =>
    intro m s env own nx ob m' s' env' own' nx' ob' h ha hS
    simp only [exec, Out.stop.injEq] at h
    obtain ⟨rfl, rfl, rfl, rfl, rfl, rfl⟩ := h
    exact ⟨ha, hS⟩
  | succ q ih =>
    intro m s env own nx ob m' s' env' own' nx' ob' h ha hS
    have stop : ∀ {m s env own nx ob}, Out.stop m s env own nx ob = .stop m' s' env' own' nx' ob' → All ob ∧ Sat E m s env own nx := by
      intro m s env own nx ob h
      simp only [Out.stop.injEq] at h
      obtain ⟨rfl, rfl, rfl, rfl, rfl, rfl⟩ := h
      exact ⟨ha, hS⟩
    have go : ∀ {m s env own nx ob}, exec E.T E.cx.m0 E.n q m s env own nx ob = .stop m' s' env' own' nx' ob' → All ob ∧ Sat E m s env own nx := fun h => ih _ _ _ _ _ _ _ _ _ _ _ _ h ha hS
    cases m with
    | norm =>
      simp only [exec] at h
      split at h
      · rename_i c s
        obtain ⟨h1, h2⟩ := go h
        exact ⟨h1, fun a w hat => h2 a w hat⟩
      · rename_i id s
        obtain ⟨h1, h2⟩ := go h
        exact ⟨h1, fun a w hat => h2 a w hat⟩
      · exact stop h
    | ex id =>
      simp only [exec] at h
      split at h
      · obtain ⟨h1, h2⟩ := go h
        exact ⟨h1, fun a w hat => h2 a w hat⟩
      · rename_i j s
        cases hb : Nat.beq id j with
        | true =>
          have := beq_true hb
          subst this
          simp only [hb, cond_true] at h
          obtain ⟨h1, h2⟩ := go h
          exact ⟨h1, fun a w hat => by
            have := h2 a w hat
            simpa [KK, Exit.inBlock] using this⟩
        | false =>
          simp only [hb, cond_false] at h
          obtain ⟨h1, h2⟩ := go h
          exact ⟨h1, fun a w hat => by
            have := h2 a w hat
            simpa [KK, Exit.inBlock, beq_false hb] using this⟩
      · obtain ⟨h1, h2⟩ := go h
        exact ⟨h1, fun a w hat => h2 a w hat⟩
      · exact stop h
    | ret =>
      simp only [exec] at h
      obtain ⟨h1, h2⟩ := stop h
      exact ⟨h1, fun a w hat => kk_ret E s a w (h2 a w hat)⟩
    | code c =>
      simp only [exec, evK_eq] at h
      cases c with
      | skip =>
        obtain ⟨h1, h2⟩ := go h
        exact ⟨h1, fun a w hat => wp_skip (h2 a w hat)⟩
      | region id ops draw =>
        cases draw with
        | true => exact stop h
        | false =>
          obtain ⟨h1, h2⟩ := go h
          exact ⟨h1, fun a w hat => wp_region_list (by
            have := h2 a w hat
            simpa using this)⟩
      | seq x y =>
        obtain ⟨h1, h2⟩ := go h
        exact ⟨h1, fun a w hat => wp_seq (h2 a w hat)⟩
      | cond x y z =>
        simp only at h
        split at h
        · rename_i hx
          obtain ⟨h1, h2⟩ := go h
          refine ⟨h1, fun a w hat => ?_⟩
          have hat' := hat
          obtain ⟨_, g, H, hd⟩ := hat'
          have hv := hd.ev x
          rw [hx] at hv
          exact wp_cond_true hv (h2 a w hat)
        · rename_i hx
          obtain ⟨h1, h2⟩ := go h
          refine ⟨h1, fun a w hat => ?_⟩
          have hat' := hat
          obtain ⟨_, g, H, hd⟩ := hat'
          have hv := hd.ev x
          rw [hx] at hv
          exact wp_cond_false hv (h2 a w hat)
        · exact stop h
      | block id b =>
        obtain ⟨h1, h2⟩ := go h
        exact ⟨h1, fun a w hat => wp_block (h2 a w hat)⟩
      | exit id =>
        obtain ⟨h1, h2⟩ := go h
        exact ⟨h1, fun a w hat => wp_exit (h2 a w hat)⟩
      | ret =>
        obtain ⟨h1, h2⟩ := stop h
        exact ⟨h1, fun a w hat => wp_ret (kk_ret E s a w (h2 a w hat))⟩
      | _ => exact stop h
    | ops all ops =>
      simp only [exec] at h
      split at h
      · obtain ⟨h1, h2⟩ := go h
        exact ⟨h1, fun a w hat => h2 a w hat⟩
      · rename_i o rest
        -- what one operation gives
        have op : ∀ (r : Out), (match o.dst with
            | none => op1 E.T E.cx.m0 o.op env own nx (fun _ => exec E.T E.cx.m0 E.n q (.ops all rest) s env own nx ob) (fun _ own nx => exec E.T E.cx.m0 E.n q (.ops all rest) s env own nx ob)
                (fun own => exec E.T E.cx.m0 E.n q (.ops all rest) s env own nx ob) (fun p _ => exec E.T E.cx.m0 E.n q (.ops all rest) s env own nx (p :: ob)) (.stop (.ops all (o :: rest)) s env own nx ob)
            | some d => bif Nat.blt d E.n then
                op1 E.T E.cx.m0 o.op env own nx (fun v => exec E.T E.cx.m0 E.n q (.ops all rest) s ((d, v) :: env) own nx ob) (fun v own nx => exec E.T E.cx.m0 E.n q (.ops all rest) s ((d, v) :: env) own nx ob)
                  (fun own => exec E.T E.cx.m0 E.n q (.ops all rest) s ((d, .any) :: env) own nx ob) (fun p v => exec E.T E.cx.m0 E.n q (.ops all rest) s ((d, v) :: env) own nx (p :: ob)) (.stop (.ops all (o :: rest)) s env own nx ob)
              else .stop (.ops all (o :: rest)) s env own nx ob) = r → r = .stop m' s' env' own' nx' ob' →
            All ob ∧ ((∀ a w, At E env own a w → o.wp E.P a w (wpList E.P all.toArray (KK E s) rest) (KK E s)) ∨ Sat E (.ops all (o :: rest)) s env own nx) := by
          intro r hr hr'
          cases hdst : o.dst with
          | none =>
            simp only [hdst] at hr
            have key := op1_sound (α := Out) (P := E.P) (m0 := E.cx.m0) (env := env) (own := own) (nx := nx) (kv := fun _ => exec E.T E.cx.m0 E.n q (.ops all rest) s env own nx ob) (ko := fun _ own nx => exec E.T E.cx.m0 E.n q (.ops all rest) s env own nx ob)
              (ks := fun own => exec E.T E.cx.m0 E.n q (.ops all rest) s env own nx ob) (kp := fun p _ => exec E.T E.cx.m0 E.n q (.ops all rest) s env own nx (p :: ob)) (f := .stop (.ops all (o :: rest)) s env own nx ob) E.hT o
            rw [hr] at key
            have hlt : ∀ d, o.dst = some d → d < E.n := fun d e => by rw [hdst] at e; cases e
            generalize hrr : r = r0 at key
            cases key with
            | f => rw [hr'] at hrr; obtain ⟨h1, h2⟩ := stop hrr.symm; exact ⟨h1, .inr h2⟩
            | v v hD => rw [hr'] at hrr; obtain ⟨h1, h2⟩ := go hrr.symm; exact ⟨h1, .inl fun a w hat => sat_op hD.does hlt (nx := nx) (by rw [hdst]; exact h2) hat⟩
            | o v own1 nx1 hD => rw [hr'] at hrr; obtain ⟨h1, h2⟩ := go hrr.symm; exact ⟨h1, .inl fun a w hat => sat_op hD hlt (nx := nx1) (by rw [hdst]; exact h2) hat⟩
            | s own1 hD => rw [hr'] at hrr; obtain ⟨h1, h2⟩ := go hrr.symm; exact ⟨h1, .inl fun a w hat => sat_op hD hlt (nx := nx) (by rw [hdst]; exact h2) hat⟩
            | p p v hD => rw [hr'] at hrr; obtain ⟨h1, h2⟩ := go hrr.symm; obtain ⟨hp, h1⟩ := all_cons h1; exact ⟨h1, .inl fun a w hat => sat_op (hD hp).does hlt (nx := nx) (by rw [hdst]; exact h2) hat⟩
          | some d =>
            simp only [hdst] at hr
            cases hb : Nat.blt d E.n with
            | false =>
              simp only [hb, cond_false] at hr
              obtain ⟨h1, h2⟩ := stop (hr.trans hr')
              exact ⟨h1, .inr h2⟩
            | true =>
              simp only [hb, cond_true] at hr
              have key := op1_sound (α := Out) (P := E.P) (m0 := E.cx.m0) (env := env) (own := own) (nx := nx) (kv := fun v => exec E.T E.cx.m0 E.n q (.ops all rest) s ((d, v) :: env) own nx ob) (ko := fun v own nx => exec E.T E.cx.m0 E.n q (.ops all rest) s ((d, v) :: env) own nx ob)
                (ks := fun own => exec E.T E.cx.m0 E.n q (.ops all rest) s ((d, .any) :: env) own nx ob) (kp := fun p v => exec E.T E.cx.m0 E.n q (.ops all rest) s ((d, v) :: env) own nx (p :: ob)) (f := .stop (.ops all (o :: rest)) s env own nx ob) E.hT o
              rw [hr] at key
              have hlt : ∀ d', o.dst = some d' → d' < E.n := fun d' e => by
                rw [hdst] at e
                cases e
                exact Nat.blt_eq.mp hb
              generalize hrr : r = r0 at key
              cases key with
              | f => rw [hr'] at hrr; obtain ⟨h1, h2⟩ := stop hrr.symm; exact ⟨h1, .inr h2⟩
              | v v hD => rw [hr'] at hrr; obtain ⟨h1, h2⟩ := go hrr.symm; exact ⟨h1, .inl fun a w hat => sat_op hD.does hlt (nx := nx) (by rw [hdst]; exact h2) hat⟩
              | o v own1 nx1 hD => rw [hr'] at hrr; obtain ⟨h1, h2⟩ := go hrr.symm; exact ⟨h1, .inl fun a w hat => sat_op hD hlt (nx := nx1) (by rw [hdst]; exact h2) hat⟩
              | s own1 hD => rw [hr'] at hrr; obtain ⟨h1, h2⟩ := go hrr.symm; exact ⟨h1, .inl fun a w hat => sat_op hD hlt (nx := nx) (by rw [hdst]; exact h2) hat⟩
              | p p v hD => rw [hr'] at hrr; obtain ⟨h1, h2⟩ := go hrr.symm; obtain ⟨hp, h1⟩ := all_cons h1; exact ⟨h1, .inl fun a w hat => sat_op (hD hp).does hlt (nx := nx) (by rw [hdst]; exact h2) hat⟩
        rcases guardK_wanted (E := E) (all := all) (o := o) (env := env) (own := own) with ⟨hy, hw⟩ | ⟨hy, hw⟩ | hy
        · rw [hy] at h
          obtain ⟨h1, h2⟩ := op _ rfl h
          refine ⟨h1, fun a w hat => ?_⟩
          rcases h2 with h2 | h2
          · have := h2 a w hat
            unfold wpList
            rw [if_pos (hw a w hat)]
            exact .inl this
          · exact h2 a w hat
        · rw [hy] at h
          cases hdst : o.dst with
          | none =>
            simp only [hdst] at h
            obtain ⟨h1, h2⟩ := go h
            refine ⟨h1, fun a w hat => ?_⟩
            refine wpList_skip (hw a w hat) ?_
            rw [hdst]
            exact h2 a w hat
          | some d =>
            simp only [hdst] at h
            obtain ⟨h1, h2⟩ := go h
            refine ⟨h1, fun a w hat => ?_⟩
            refine wpList_skip (hw a w hat) ?_
            rw [hdst]
            obtain ⟨hdf, g, H, hd⟩ := hat
            exact h2 _ _ ⟨hdf, g, H, hd.put_un⟩
        · rw [hy] at h
          exact stop h

/-- The run, taken. -/
theorem run_go {E : Stc} {m : Md} {s : List Fr} {env : List (Nat × SV)} {own : List (Nat × SO)} {nx : List Nat} {m' : Md} {s' : List Fr} {env' : List (Nat × SV)} {own' : List (Nat × SO)} {nx' : List Nat} {ob' : List Prop} (q : Nat)
    (h : exec E.T E.cx.m0 E.n q m s env own nx [] = .stop m' s' env' own' nx' ob') (ha : All ob') (hS : Sat E m' s' env' own' nx') : Sat E m s env own nx :=
  (exec_sound E q m s env own nx [] m' s' env' own' nx' ob' h ha hS).2

end Go.Eng
/- The proof engine, part 12: contracts, entering, calling, returning. -/
namespace Go.Eng

/-- The function is one that is entered. -/
def Enter (P : Program) (f : FuncId) : Prop := ∀ args w, (callFunc f args).run P w = .ok (.enter f args) w

def preX (g : Nat → Value) (pre : List (Nat × SO)) (b : Nat) : Prop := ∃ k, (ownq pre k).isSome = true ∧ blkOf (g k) = some b

/-- A contract: handed what args stand for, with own blocks as pre says, the function returns what Post says. -/
def Contract (P : Program) (f : FuncId) (m0 : Nat) (pre : List (Nat × SO)) (args : List SV) (Post : SV → List (Nat × SO) → Prop) : Prop :=
  Enter P f ∧ ∀ (g : Nat → Value) (H : Hp) (w : World) (vs : List Value), H.on w → (∀ k o, ownq pre k = some o → OwnOk (fun _ => True) g H w k o) → InjOn g pre → Dens g H args vs →
    Calls P f vs.toArray w (FinE ⟨w, H, g, m0, preX g pre⟩ Post)

structure Z where
  w0 : World
  H0 : Hp
  g0 : Nat → Value
  X : Nat → Prop

def mkE (P : Program) (T : Nat → TI) (hT : ∀ t, T t = tiOf P t) (fn : Func) (n m0 : Nat) (Post : SV → List (Nat × SO) → Prop) (z : Z) : Stc :=
  { P, T, hT, fn, cx := { w0 := z.w0, H0 := z.H0, g0 := z.g0, m0 := m0, X := z.X }, n, Post }

def num : Nat → List SV → List (Nat × SV)
  | _, [] => []
  | i, s :: l => (i, s) :: num (i + 1) l

theorem nth_num {g : Nat → Value} {H : Hp} : ∀ (args : List SV) (vs : List Value) (i : Nat) (t : Nat), Dens g H args vs →
    Den g H (nth (num i args) t) (if i ≤ t then vs.getD (t - i) undef else undef)
  | [], [], _, _, _ => trivial
  | a :: args, v :: vs, i, t, h => by
    simp only [num, nth]
    cases hb : Nat.beq i t with
    | true =>
      have := beq_true hb
      subst this
      simpa using h.1
    | false =>
      have hne := beq_false hb
      have ih := nth_num args vs (i + 1) t h.2
      simp only [cond_false]
      by_cases hle : i ≤ t
      · have e : t - i = (t - (i + 1)) + 1 := by omega
        rw [if_pos hle, e]
        rw [if_pos (by omega)] at ih
        simpa using ih
      · rw [if_neg hle]
        rw [if_neg (by omega)] at ih
        exact ih
  | [], _ :: _, _, _, h => h.elim
  | _ :: _, [], _, _, h => h.elim

theorem enter_of {P : Program} {f : FuncId} {fn : Func} {c : Code} (hf : P.funcs[f]? = some fn) (hb : fn.body = some c) (hn : (fn.name == "runtime.NumGoroutine") = false) : Enter P f := by
  intro args w
  simp [callFunc, hf, hb]
  simpa using hn

/-- A contract, from the body. -/
theorem contract_of {P : Program} {T : Nat → TI} (hT : ∀ t, T t = tiOf P t) {f : FuncId} {fn : Func} {c : Code} {m0 n : Nat} {pre : List (Nat × SO)} {args : List SV} {Post : SV → List (Nat × SO) → Prop} (nx : List Nat)
    (hf : P.funcs[f]? = some fn) (hb : fn.body = some c) (hn : (fn.name == "runtime.NumGoroutine") = false) (hnt : fn.ntmps = n) (hla : Nat.ble args.length n = true)
    (h : ∀ z : Z, Sat (mkE P T hT fn n m0 Post z) (.code c) [] (num 0 args) pre nx) : Contract P f m0 pre args Post := by
  refine ⟨enter_of hf hb hn, fun g H w vs hH hp hi hd => calls_of_wp hf hb ?_⟩
  have hlen := hd.length
  have hle := Nat.le_of_ble_eq_true hla
  refine h ⟨w, H, g, preX g pre⟩ _ w ⟨rfl, g, H, ?_⟩
  refine { size := ?_, den := fun t => ?_, ok := fun k o hk => ?_, inj := hi, hp := hH, base := ?_ }
  · show (vs.toArray ++ Array.replicate (fn.ntmps - vs.toArray.size) undef).size = n
    simp only [Array.size_append, List.size_toArray, Array.size_replicate]
    omega
  · have := nth_num args vs 0 t hd
    simp only [Nat.zero_le, if_true, Nat.sub_zero] at this
    have e : (vs.toArray ++ Array.replicate (fn.ntmps - vs.toArray.size) undef).getD t undef = vs.getD t undef := by
      by_cases h1 : t < vs.length
      · simp [Array.getElem?_append, h1]
      · simp only [Array.getD_eq_getD_getElem?, Array.getElem?_append, List.size_toArray, h1, if_false, List.getD_eq_getElem?_getD]
        rw [List.getElem?_eq_none (by omega)]
        cases hr : (Array.replicate (fn.ntmps - vs.length) undef)[t - vs.length]? with
        | none => rfl
        | some v =>
          have := Array.getElem?_eq_some_iff.1 hr
          obtain ⟨h2, h3⟩ := this
          rw [Array.getElem_replicate] at h3
          simp [← h3]
    show Den g H (nth (num 0 args) t) ((vs.toArray ++ Array.replicate (fn.ntmps - vs.toArray.size) undef).getD t undef)
    rw [e]
    exact this
  · have hk' := hp k o hk
    have hm : ∀ b, blkOf (g k) = some b → preX g pre b := fun b hb => ⟨k, by rw [hk]; rfl, hb⟩
    cases o with
    | cells ty cs =>
      obtain ⟨b, ws, e, h1, h2, h3, h4, _⟩ := hk'
      exact ⟨b, ws, e, h1, h2, h3, h4, .inr (hm b (by rw [e]; rfl))⟩
    | tok sz =>
      obtain ⟨a, q, r, e, h1, hle, h2⟩ := hk'
      refine ⟨a, q, r, e, h1, hle, fun p hpa hlt => ?_⟩
      obtain ⟨h3, _, h5⟩ := h2 p hpa hlt
      exact ⟨h3, .inr (hm p.block (by rw [e, hpa]; simp [blkOf, Nat.blt_eq.mpr hlt])), h5⟩
    | obj q =>
      obtain ⟨r, o, e, h1, h2, h3, _⟩ := hk'
      exact ⟨r, o, e, h1, h2, h3, .inr (hm r (by rw [e]; rfl))⟩
    | buf rw nn =>
      rcases hk' with ⟨ty, b, ws, e, h1, h2, h3, h4, _⟩ | h
      · exact .inl ⟨ty, b, ws, e, h1, h2, h3, h4, .inr (hm b (by rw [e]; rfl))⟩
      · exact .inr h
  · exact { os := rfl, tape := rfl, output := rfl, size := Nat.le_refl _, block := fun _ _ _ => rfl, hold := fun _ _ _ _ => rfl, le := Hp.le_refl _, fix := fun _ _ => rfl, drawn := Nat.le_refl _ }

/-- The results that a function hands back. -/
def retK (T : Nat → TI) (env : List (Nat × SV)) (own : List (Nat × SO)) : List ResultVar → (List SV → Option SV) → Option SV
  | [], k => k []
  | .tmp t :: rs, k => nthK t (fun s => retK T env own rs fun l => k (s :: l)) env
  | .cell t ty :: rs, k => nthK t (fun s => match s with
    | .ptr j off => ownK j (fun so => match so with
      | .cells _ cs => match (T ty).kd with
        | .struct => dropK off cs fun l => takeK (T ty).size l (fun r => retK T env own rs fun l => k (.agg r :: l)) none
        | .other => none
        | _ => getK off cs (fun s => retK T env own rs fun l => k (s :: l)) none
      | _ => none) none own
    | _ => none) env

def retS (l : List SV) : Option SV :=
  match l with
  | [] => some (.tup [])
  | [s] => some s
  | l => some (.tup l)

def resOf (tmps : Array Value) : ResultVar → Sem Value
  | .tmp t => pure (tmps.getD t undef)
  | .cell x t => do loadVar t (← asAddr (tmps.getD x undef))

theorem results_eq (fn : Func) (tmps : Array Value) : results fn tmps = fn.results.mapM (m := Sem) (resOf tmps) >>= fun vs => pure (if h : vs.size = 1 then vs[0] else .tuple vs) := by
  have e : resOf tmps = fun r => match r with
        | .tmp t => pure (tmps.getD t undef)
        | .cell x t => (asAddr (tmps.getD x undef) >>= fun a => loadVar t a : Sem Value) := by
    funext r
    cases r <;> rfl
  rw [e]
  rfl

theorem run_results {P : Program} {T : Nat → TI} (hT : ∀ t, T t = tiOf P t) {env : List (Nat × SV)} {own : List (Nat × SO)} {cx : Cx} {g : Nat → Value} {H : Hp} {n : Nat} {a : Act} {w : World}
    (hd : Dn cx g H env own n a.tmps w) : ∀ (rs : List ResultVar) (k : List SV → Option SV) (sv : SV), retK T env own rs k = some sv →
    ∃ l vs, k l = some sv ∧ l.length = rs.length ∧ Dens g H l vs ∧
 (rs.mapM (m := Sem) (resOf a.tmps)).run P w = .ok vs w := by
  have hT' : T = tiOf P := funext hT
  subst hT'
  intro rs
  induction rs with
  | nil => intro k sv h; exact ⟨[], [], h, rfl, trivial, by simp⟩
  | cons r rs ih =>
    intro k sv h
    cases r with
    | tmp t =>
      simp only [retK, nthK_eq] at h
      obtain ⟨l, vs, h1, hl, h2, h3⟩ := ih _ sv h
      exact ⟨nth env t :: l, a.tmps.getD t undef :: vs, h1, by simp [hl], ⟨hd.den t, h2⟩, by rw [List.mapM_cons, Sem.run_bind, show (resOf a.tmps (.tmp t)).run P w = .ok (a.tmps.getD t undef) w from rfl, Result.andThen_ok, Sem.run_bind, h3]; rfl⟩
    | cell t ty =>
      simp only [retK, nthK_eq, ownK_eq, dropK_eq, takeK_eq, getK_eq] at h
      cases ht : nth env t with
      | ptr j off =>
        simp only [ht] at h
        cases hj : ownq own j with
        | none => simp [hj] at h
        | some so =>
          simp only [hj] at h
          cases so with
          | cells ty' cs =>
            simp only at h
            obtain ⟨b, ws, hg, hv, hw, _⟩ := hd.cells hj
            have hp := hd.den t
            rw [ht] at hp
            obtain ⟨b', hg', he⟩ := hp
            have : b' = b := by rw [hg] at hg'; simpa using hg'.symm
            subst this
            split at h
            · rename_i hs
              split at h
              · rename_i hl
                obtain ⟨l, vs, h1, hl', h2, h3⟩ := ih _ sv h
                obtain ⟨i, d, hsp, _⟩ := und_kd (P := P) hs (by simp)
                have hlen := hv.length
                have hn : ((ws.drop off).take (tiOf P ty).size).length = (tiOf P ty).size := by
                  simp only [List.length_take, List.length_drop] at hl ⊢
                  omega
                have hrun := run_load_struct hsp hs (b := b') (off := off) (w := w) hn (fun j v hj => by
                  rw [ok_cell hw]
                  rw [List.getElem?_take] at hj
                  split at hj
                  · rw [List.getElem?_drop] at hj; exact hj
                  · cases hj)
                refine ⟨_, .agg ((ws.drop off).take (tiOf P ty).size).toArray :: vs, h1, by simp [hl'], ⟨⟨_, rfl, (hv.drop off).take _⟩, h2⟩, ?_⟩
                have hh : (resOf a.tmps (.cell t ty)).run P w = .ok (.agg ((ws.drop off).take (tiOf P ty).size).toArray) w := by
                  show (asAddr (a.tmps.getD t undef) >>= fun x => loadVar ty x : Sem Value).run P w = _
                  rw [he, Sem.run_bind]
                  exact hrun
                rw [List.mapM_cons, Sem.run_bind, hh, Result.andThen_ok, Sem.run_bind, h3]
                rfl
              · cases h
            · cases h
            · rename_i hs1 hs2
              cases hg2 : cs[off]? with
              | none => simp [hg2] at h
              | some s =>
                simp only [hg2] at h
                obtain ⟨l, vs, h1, hl', h2, h3⟩ := ih _ sv h
                obtain ⟨i, d, hsp⟩ := ti_spec (P := P) (t := ty) (fun e => hs2 e)
                obtain ⟨v, hv1, hv2⟩ := hv.get hg2
                have hrun := run_load_plain hsp (fun e => hs1 e) (fun e => hs2 e) (b := b') (off := off) (w := w) (v := v) (by rw [ok_cell hw]; exact hv1)
                refine ⟨_, v :: vs, h1, by simp [hl'], ⟨hv2, h2⟩, ?_⟩
                have hh : (resOf a.tmps (.cell t ty)).run P w = .ok v w := by
                  show (asAddr (a.tmps.getD t undef) >>= fun x => loadVar ty x : Sem Value).run P w = _
                  rw [he, Sem.run_bind]
                  exact hrun
                rw [List.mapM_cons, Sem.run_bind, hh, Result.andThen_ok, Sem.run_bind, h3]
                rfl
          | tok sz => simp at h
          | buf rw nn => simp at h
          | obj q => simp at h
      | _ => simp [ht] at h

def subO (own : List (Nat × SO)) : List (Nat × SO) → Prop
  | [] => True
  | (k, o) :: l => ownq own k = some o ∧ subO own l

theorem subO_spec {own : List (Nat × SO)} : ∀ {l : List (Nat × SO)}, subO own l → ∀ k o, ownq l k = some o → ownq own k = some o
  | [], _, k, o, h => by simp [ownq] at h
  | (i, x) :: l, hs, k, o, h => by
    simp only [ownq] at h
    cases hb : Nat.beq i k with
    | true =>
      simp only [hb, cond_true, Option.some.injEq] at h
      subst h
      rw [← beq_true hb]
      exact hs.1
    | false =>
      simp only [hb, cond_false] at h
      exact subO_spec hs.2 k o h

/-- The function returns. -/
theorem at_ret' {E : Stc} {env : List (Nat × SV)} {own : List (Nat × SO)} {nx : List Nat} {sv : SV} (own' : List (Nat × SO)) (h : retK E.T env own E.fn.results.toList retS = some sv)
    (hs : subO own own') (hP : E.Post sv own') : Sat E .ret [] env own nx := by
  intro a w hat
  obtain ⟨hdf, g, H, hd⟩ := hat
  obtain ⟨l, vs, h1, hl, h2, h3⟩ := run_results (P := E.P) E.hT hd _ _ sv h
  have hlen := h2.length
  refine ⟨hdf, (if h : vs.toArray.size = 1 then vs.toArray[0] else .tuple vs.toArray), ?_, ?_⟩
  · rw [results_eq, Sem.run_bind]
    have : (E.fn.results.mapM (m := Sem) (resOf a.tmps)).run E.P w = .ok vs.toArray w := by
      have h4 := List.mapM_toArray (m := Sem) (l := E.fn.results.toList) (f := resOf a.tmps)
      rw [Array.toArray_toList] at h4
      rw [h4, Sem.run_map, h3]
      rfl
    rw [this]
    rfl
  · refine ⟨g, H, sv, own', hP, ?_, fun k o hk => hd.ok k o (subO_spec hs k o hk), fun k j hk hj => hd.inj k j ?_ ?_, hd.hp, hd.base⟩
    · match l, vs, h1, h2, hlen with
      | [], [], h1, _, _ =>
        simp only [retS, Option.some.injEq] at h1
        subst h1
        exact ⟨[], by simp, trivial⟩
      | [s], [v], h1, h2, _ =>
        simp only [retS, Option.some.injEq] at h1
        subst h1
        simpa using h2.1
      | s :: s' :: l, v :: v' :: vs, h1, h2, _ =>
        simp only [retS, Option.some.injEq] at h1
        subst h1
        exact ⟨v :: v' :: vs, by simp, h2⟩
    · cases hk' : ownq own' k with
      | none => rw [hk'] at hk; cases hk
      | some o => rw [subO_spec hs k o hk']; rfl
    · cases hj' : ownq own' j with
      | none => rw [hj'] at hj; cases hj
      | some o => rw [subO_spec hs j o hj']; rfl

theorem at_end {E : Stc} {env : List (Nat × SV)} {own : List (Nat × SO)} {nx : List Nat} (h : Sat E .ret [] env own nx) : Sat E .norm [] env own nx := h

end Go.Eng
/- The proof engine, part 13: where the run stops: calls, tests, loops. -/
namespace Go.Eng

mutual
/-- The names of blocks, turned. -/
def ren (r : Nat → Nat) : SV → SV
  | .gl k sz rows => .gl (r k) sz rows
  | .arr k n => .arr (r k) n
  | .sl k q n c => .sl (r k) q n c
  | .mp k => .mp (r k)
  | .ptr k off => .ptr (r k) off
  | .agg l => .agg (rens r l)
  | .tup l => .tup (rens r l)
  | .clo f l => .clo f (rens r l)
  | s => s
def rens (r : Nat → Nat) : List SV → List SV
  | [] => []
  | s :: l => ren r s :: rens r l
end

mutual
def SV.lt (m : Nat) : SV → Bool
  | .gl k _ _ => Nat.blt k m
  | .arr k _ => Nat.blt k m
  | .sl k _ _ _ => Nat.blt k m
  | .mp k => Nat.blt k m
  | .ptr k _ => Nat.blt k m
  | .agg l => SV.lts m l
  | .tup l => SV.lts m l
  | .clo _ l => SV.lts m l
  | _ => true
def SV.lts (m : Nat) : List SV → Bool
  | [] => true
  | s :: l => bif SV.lt m s then SV.lts m l else false
end

mutual
theorem Den.ren {g g' : Nat → Value} {H : Hp} {m : Nat} {r : Nat → Nat} (hg : ∀ k, k < m → g' (r k) = g k) : ∀ (d : SV) (x : Value), d.lt m = true → Den g H d x → Den g' H (ren r d) x
  | .int _ _, _, _, h => h
  | .bl _, _, _, h => h
  | .tt, _, _, h => h
  | .ff, _, _, h => h
  | .str _, _, _, h => h
  | .val _, _, _, h => h
  | .lst _ _, _, _, h => h
  | .gl k _ _, _, hl, h => ⟨h.1, by rw [hg k (Nat.blt_eq.mp hl)]; exact h.2⟩
  | .tl _ _, _, _, h => h
  | .arr k _, _, hl, h => by obtain ⟨b, h1, h2⟩ := h; exact ⟨b, by rw [hg k (Nat.blt_eq.mp hl)]; exact h1, h2⟩
  | .sl k _ _ _, _, hl, h => by
    rcases h with ⟨b, h1, h2⟩ | ⟨h0, h1, h2, h3, h4⟩
    · exact .inl ⟨b, by rw [hg k (Nat.blt_eq.mp hl)]; exact h1, h2⟩
    · exact .inr ⟨h0, h1, h2, by rw [hg k (Nat.blt_eq.mp hl)]; exact h3, h4⟩
  | .mp k, _, hl, h => by obtain ⟨b, h1, h2⟩ := h; exact ⟨b, by rw [hg k (Nat.blt_eq.mp hl)]; exact h1, h2⟩
  | .ptr k _, _, hl, h => by obtain ⟨b, h1, h2⟩ := h; exact ⟨b, by rw [hg k (Nat.blt_eq.mp hl)]; exact h1, h2⟩
  | .rp _ _, _, _, h => h
  | .agg l, _, hl, h => by obtain ⟨cs, e, h⟩ := h; exact ⟨cs, e, Dens.ren hg l cs hl h⟩
  | .tup l, _, hl, h => by obtain ⟨cs, e, h⟩ := h; exact ⟨cs, e, Dens.ren hg l cs hl h⟩
  | .clo _ l, _, hl, h => by obtain ⟨cs, e, h⟩ := h; exact ⟨cs, e, Dens.ren hg l cs hl h⟩
  | .any, _, _, _ => trivial
theorem Dens.ren {g g' : Nat → Value} {H : Hp} {m : Nat} {r : Nat → Nat} (hg : ∀ k, k < m → g' (r k) = g k) : ∀ (ds : List SV) (vs : List Value), SV.lts m ds = true → Dens g H ds vs → Dens g' H (rens r ds) vs
  | [], [], _, _ => trivial
  | d :: ds, v :: vs, hl, h => by
    have h1 : d.lt m = true := by
      cases hd : d.lt m with
      | true => rfl
      | false => simp [SV.lts, hd] at hl
    have h2 : SV.lts m ds = true := by simpa [SV.lts, h1] using hl
    exact ⟨Den.ren hg d v h1 h.1, Dens.ren hg ds vs h2 h.2⟩
  | [], _ :: _, _, h => h.elim
  | _ :: _, [], _, h => h.elim
end

mutual
theorem Den.unren {g g' : Nat → Value} {H : Hp} {r : Nat → Nat} (hg : ∀ k, g k = g' (r k)) : ∀ (d : SV) (x : Value), Den g' H (ren r d) x → Den g H d x
  | .int _ _, _, h => h
  | .bl _, _, h => h
  | .tt, _, h => h
  | .ff, _, h => h
  | .str _, _, h => h
  | .val _, _, h => h
  | .lst _ _, _, h => h
  | .gl k _ _, _, h => ⟨h.1, by rw [hg k]; exact h.2⟩
  | .tl _ _, _, h => h
  | .arr k _, _, h => by obtain ⟨b, h1, h2⟩ := h; exact ⟨b, by rw [hg k]; exact h1, h2⟩
  | .sl k _ _ _, _, h => by
    rcases h with ⟨b, h1, h2⟩ | ⟨h0, h1, h2, h3, h4⟩
    · exact .inl ⟨b, by rw [hg k]; exact h1, h2⟩
    · exact .inr ⟨h0, h1, h2, by rw [hg k]; exact h3, h4⟩
  | .mp k, _, h => by obtain ⟨b, h1, h2⟩ := h; exact ⟨b, by rw [hg k]; exact h1, h2⟩
  | .ptr k _, _, h => by obtain ⟨b, h1, h2⟩ := h; exact ⟨b, by rw [hg k]; exact h1, h2⟩
  | .rp _ _, _, h => h
  | .agg l, _, h => by obtain ⟨cs, e, h⟩ := h; exact ⟨cs, e, Dens.unren hg l cs h⟩
  | .tup l, _, h => by obtain ⟨cs, e, h⟩ := h; exact ⟨cs, e, Dens.unren hg l cs h⟩
  | .clo _ l, _, h => by obtain ⟨cs, e, h⟩ := h; exact ⟨cs, e, Dens.unren hg l cs h⟩
  | .any, _, _ => trivial
theorem Dens.unren {g g' : Nat → Value} {H : Hp} {r : Nat → Nat} (hg : ∀ k, g k = g' (r k)) : ∀ (ds : List SV) (vs : List Value), Dens g' H (rens r ds) vs → Dens g H ds vs
  | [], [], _ => trivial
  | d :: ds, v :: vs, h => ⟨Den.unren hg d v h.1, Dens.unren hg ds vs h.2⟩
  | [], _ :: _, h => h.elim
  | _ :: _, [], h => h.elim
end

def renO (r : Nat → Nat) : SO → SO
  | .cells t cs => .cells t (rens r cs)
  | o => o

/-- The own blocks of a callee, each as the caller has it. -/
def pres (r : Nat → Nat) (own : List (Nat × SO)) : List (Nat × SO) → Prop
  | [] => True
  | (k, o) :: l => ownq own (r k) = some (renO r o) ∧ pres r own l

theorem pres_spec {r : Nat → Nat} {own : List (Nat × SO)} : ∀ {pre : List (Nat × SO)}, pres r own pre → ∀ k o, ownq pre k = some o → ownq own (r k) = some (renO r o)
  | [], _, k, o, h => by simp [ownq] at h
  | (i, x) :: l, hs, k, o, h => by
    simp only [ownq] at h
    cases hb : Nat.beq i k with
    | true =>
      simp only [hb, cond_true, Option.some.injEq] at h
      subst h
      rw [← beq_true hb]
      exact hs.1
    | false =>
      simp only [hb, cond_false] at h
      exact pres_spec hs.2 k o h

/-- What the callee left. -/
def posts (r : Nat → Nat) : List (Nat × SO) → List (Nat × SO) → List (Nat × SO)
  | [], own => own
  | (k, o) :: l, own => setOwn (r k) (renO r o) (posts r l own)

def cellsLt (m : Nat) : List (Nat × SO) → Bool
  | [] => true
  | (k, .cells _ cs) :: l => bif Nat.blt k m then (bif SV.lts m cs then cellsLt m l else false) else false
  | (k, .obj _) :: l => bif Nat.blt k m then cellsLt m l else false
  | (_, .tok _) :: _ => false
  | (k, .buf _ _) :: l => bif Nat.blt k m then cellsLt m l else false

theorem cellsLt_spec {m : Nat} : ∀ {l : List (Nat × SO)} {k : Nat} {o : SO}, cellsLt m l = true → ownq l k = some o → k < m ∧ match o with | .cells _ cs => SV.lts m cs = true | .obj _ => True | .tok _ => False | .buf _ _ => True
  | [], _, _, _, h => by simp [ownq] at h
  | (i, .cells t cs) :: l, k, o, hl, h => by
    simp only [cellsLt] at hl
    cases h1 : Nat.blt i m with
    | false => simp [h1] at hl
    | true =>
      cases h2 : SV.lts m cs with
      | false => simp [h1, h2] at hl
      | true =>
        simp only [h1, h2, cond_true] at hl
        simp only [ownq] at h
        cases hb : Nat.beq i k with
        | true =>
          simp only [hb, cond_true, Option.some.injEq] at h
          subst h
          rw [← beq_true hb]
          exact ⟨Nat.blt_eq.mp h1, h2⟩
        | false =>
          simp only [hb, cond_false] at h
          exact cellsLt_spec hl h
  | (i, .buf rw nn) :: l, k, o, hl, h => by
    simp only [cellsLt] at hl
    cases h1 : Nat.blt i m with
    | false => simp [h1] at hl
    | true =>
      simp only [h1, cond_true] at hl
      simp only [ownq] at h
      cases hb : Nat.beq i k with
      | true =>
        simp only [hb, cond_true, Option.some.injEq] at h
        subst h
        rw [← beq_true hb]
        exact ⟨Nat.blt_eq.mp h1, trivial⟩
      | false =>
        simp only [hb, cond_false] at h
        exact cellsLt_spec hl h
  | (i, .obj q) :: l, k, o, hl, h => by
    simp only [cellsLt] at hl
    cases h1 : Nat.blt i m with
    | false => simp [h1] at hl
    | true =>
      simp only [h1, cond_true] at hl
      simp only [ownq] at h
      cases hb : Nat.beq i k with
      | true =>
        simp only [hb, cond_true, Option.some.injEq] at h
        subst h
        rw [← beq_true hb]
        exact ⟨Nat.blt_eq.mp h1, trivial⟩
      | false =>
        simp only [hb, cond_false] at h
        exact cellsLt_spec hl h
  | (_, .tok _) :: _, _, _, hl, _ => by simp [cellsLt] at hl

theorem ownq_posts_other {r : Nat → Nat} : ∀ (post own : List (Nat × SO)) (j : Nat), (∀ k o, (k, o) ∈ post → r k ≠ j) → ownq (posts r post own) j = ownq own j
  | [], _, _, _ => rfl
  | (k, o) :: l, own, j, h => by
    simp only [posts, ownq_setOwn]
    rw [if_neg (fun e => h k o (by simp) e.symm)]
    exact ownq_posts_other l own j fun k o hm => h k o (by simp [hm])

theorem ownq_posts_some {r : Nat → Nat} : ∀ (post own : List (Nat × SO)) (j : Nat), (ownq (posts r post own) j).isSome = (ownq own j).isSome
  | [], _, _ => rfl
  | (k, o) :: l, own, j => by
    simp only [posts, ownq_setOwn]
    by_cases h : j = r k
    · rw [if_pos h, h]
      have := ownq_posts_some (r := r) l own (r k)
      cases hq : ownq (posts r l own) (r k) with
      | none => rw [hq] at this; simpa using this
      | some x => rw [hq] at this; simpa using this
    · rw [if_neg h]
      exact ownq_posts_some l own j

theorem ownq_posts_at {r : Nat → Nat} {own : List (Nat × SO)} : ∀ {post : List (Nat × SO)} {j : Nat} {o : SO}, ownq (posts r post own) j = some o →
    (∃ k x, ownq post k = some x ∧ r k = j ∧ o = renO r x) ∨ ((∀ k x, ownq post k = some x → r k ≠ j) ∧ ownq own j = some o)
  | [], j, o, h => .inr ⟨fun k x hk => by simp [ownq] at hk, h⟩
  | (i, x) :: l, j, o, h => by
    simp only [posts, ownq_setOwn] at h
    by_cases hj : j = r i
    · rw [if_pos hj] at h
      cases hq : ownq (posts r l own) (r i) with
      | none => rw [hq] at h; simp at h
      | some y =>
        rw [hq] at h
        simp only [Option.map_some, Option.some.injEq] at h
        exact .inl ⟨i, x, by simp [ownq], hj.symm, h.symm⟩
    · rw [if_neg hj] at h
      rcases ownq_posts_at h with ⟨k, y, hk, hr, he⟩ | ⟨h1, h2⟩
      · by_cases hik : i = k
        · subst hik; exact absurd hr.symm hj
        · refine .inl ⟨k, y, ?_, hr, he⟩
          have : Nat.beq i k = false := by
            cases hb : Nat.beq i k with
            | false => rfl
            | true => exact absurd (beq_true hb) hik
          simp [ownq, this, hk]
      · refine .inr ⟨fun k y hk => ?_, h2⟩
        simp only [ownq] at hk
        cases hb : Nat.beq i k with
        | true => rw [← beq_true hb]; exact fun e => hj e.symm
        | false =>
          simp only [hb, cond_false] at hk
          exact h1 k y hk

def keysB (post : List (Nat × SO)) : List (Nat × SO) → Bool
  | [] => true
  | (k, _) :: l => bif (ownq post k).isSome then keysB post l else false
theorem keysB_spec {post : List (Nat × SO)} : ∀ {pre : List (Nat × SO)}, keysB post pre = true → ∀ k o, ownq pre k = some o → (ownq post k).isSome = true
  | [], _, k, o, h => by simp [ownq] at h
  | (i, x) :: l, hs, k, o, h => by
    simp only [keysB] at hs
    cases h1 : (ownq post i).isSome with
    | false => simp [h1] at hs
    | true =>
      simp only [h1, cond_true] at hs
      simp only [ownq] at h
      cases hb : Nat.beq i k with
      | true => rw [← beq_true hb]; exact h1
      | false =>
        simp only [hb, cond_false] at h
        exact keysB_spec hs k o h

theorem Den.up_plain {g g' : Nat → Value} {H : Hp} : ∀ (d : DV) {x : Value}, Den g H (up d) x → Den g' H (up d) x
  | .int _ _, _, h => h
  | .bl _, _, h => h
  | .str _, _, h => h
  | .val _, _, h => h
  | .lst _ _, _, h => h
theorem Dens.plain (g g' : Nat → Value) (H : Hp) (rows : List (List DV)) (n : Nat) : ∀ (vs : List Value), Dens g H (bufC rows n) vs → Dens g' H (bufC rows n) vs := by
  have any : ∀ (n : Nat) (vs : List Value), Dens g H (anys n) vs → Dens g' H (anys n) vs := by
    intro n
    induction n with
    | zero =>
      intro vs h
      cases vs with
      | nil => trivial
      | cons v vs => exact h.elim
    | succ n ih =>
      intro vs h
      cases vs with
      | nil => exact h.elim
      | cons v vs => exact ⟨trivial, ih vs h.2⟩
  have key : ∀ (l : List DV) (vs : List Value), Dens g H (l.map up ++ anys n) vs → Dens g' H (l.map up ++ anys n) vs := by
    intro l
    induction l with
    | nil => exact any n
    | cons d l ih =>
      intro vs h
      cases vs with
      | nil => exact h.elim
      | cons v vs => exact ⟨Den.up_plain d h.1, ih vs h.2⟩
  exact key rows.flatten

/-- Behind a call. -/
theorem Dn.called {cx : Cx} {g : Nat → Value} {H : Hp} {env : List (Nat × SV)} {own : List (Nat × SO)} {n : Nat} {tmps : Array Value} {w w' : World} {m : Nat} {pre : List (Nat × SO)} {r : Nat → Nat}
    {Post : SV → List (Nat × SO) → Prop} {v : Value}
    (h : Dn cx g H env own n tmps w) (hpre : pres r own pre) (hlt : ∀ k, k < m → (ownq pre k).isSome = true)
    (hf : Fin ⟨w, H, fun k => g (r k), m, preX (fun k => g (r k)) pre⟩ Post v w') :
    ∃ sv post, Post sv post ∧ (sv.lt m = true → cellsLt m post = true → keysB post pre = true → ∃ H', Den g H' (ren r sv) v ∧ Dn cx g H' env (posts r post own) n tmps w') := by
  obtain ⟨g', H', sv, post, hP, hv, hok, hinj, hon, hb⟩ := hf
  refine ⟨sv, post, hP, fun hsv hpl hkeys => ⟨H', ?_, ?_⟩⟩
  · exact Den.ren (g := g') (g' := g) (r := r) (m := m) (fun k hk => (hb.fix k hk).symm) sv v hsv hv
  have hXm : ∀ b, preX (fun k => g (r k)) pre b → ∃ k, (ownq own k).isSome = true ∧ blkOf (g k) = some b := by
    rintro b ⟨k, hk, hkb⟩
    cases ho : ownq pre k with
    | none => rw [ho] at hk; cases hk
    | some o => exact ⟨r k, by rw [pres_spec hpre k o ho]; rfl, hkb⟩
  have hblk : ∀ b, b < w.heap.size → ¬ preX (fun k => g (r k)) pre b → w'.heap[b]? = w.heap[b]? := hb.block
  have hhold : ∀ b, b < w.heap.size → ¬ preX (fun k => g (r k)) pre b → ∀ o, H' b o = H b o := hb.hold
  have hmine : ∀ b, preX (fun k => g (r k)) pre b → cx.mine b := by
    intro b hx
    obtain ⟨k, hk, hkb⟩ := hXm b hx
    cases ho : ownq own k with
    | none => rw [ho] at hk; cases hk
    | some o => exact (h.ok k o ho).blk_mine hkb
  refine { size := h.size, den := fun t => Den.mono hb.le _ _ (h.den t), ok := fun j o hj => ?_, inj := fun i j hi hj => h.inj i j (by rw [← ownq_posts_some (r := r) post own i]; exact hi) (by rw [← ownq_posts_some (r := r) post own j]; exact hj), hp := hon, base := ?_ }
  · rcases ownq_posts_at hj with ⟨k, x, hk, hr, he⟩ | ⟨hno, hj⟩
    · subst hr; subst he
      have hlk := cellsLt_spec hpl hk
      have ho := hok k x hk
      have hfix : g' k = g (r k) := hb.fix k hlk.1
      cases ho' : ownq pre k with
      | none => have := hlt k hlk.1; rw [ho'] at this; cases this
      | some x0 =>
        have hown := h.ok (r k) _ (pres_spec hpre k x0 ho')
        cases x with
        | cells ty cs =>
          obtain ⟨b, vs, e, h1, h2, h3, h4, h5⟩ := ho
          rw [hfix] at e
          exact ⟨b, vs, e, Dens.ren (g := g') (g' := g) (r := r) (m := m) (fun k hk => (hb.fix k hk).symm) cs vs hlk.2 h1, h2, h3, h4, hown.blk_mine (by rw [e]; rfl)⟩
        | tok sz => exact hlk.2.elim
        | buf rw nn =>
          rcases ho with ⟨ty, b, vs, e, h1, h2, h3, h4, h5⟩ | ⟨e, h1⟩
          · rw [hfix] at e
            exact .inl ⟨ty, b, vs, e, Dens.plain g' g H' rw nn vs h1, h2, h3, h4, hown.blk_mine (by rw [e]; rfl)⟩
          · rw [hfix] at e
            exact .inr ⟨e, h1⟩
        | obj f =>
          obtain ⟨q, o, e, h1, h2, h3, h4⟩ := ho
          rw [hfix] at e
          exact ⟨q, o, e, h1, h2, h3, hown.blk_mine (by rw [e]; rfl)⟩
    · have hown := h.ok j o hj
      have hnX : ∀ b, blkOf (g j) = some b → ¬ preX (fun k => g (r k)) pre b := by
        rintro b hbj ⟨k, hk, hkb⟩
        cases ho : ownq pre k with
        | none => rw [ho] at hk; cases hk
        | some o' =>
          have hq := pres_spec hpre k o' ho
          have := h.inj (r k) j (by rw [hq]; rfl) (by rw [hj]; rfl) b hkb hbj
          have hs := keysB_spec hkeys k o' ho
          cases hp : ownq post k with
          | some x => exact hno k x hp this
          | none => rw [hp] at hs; cases hs
      have hb1 : ∀ b, blkOf (g j) = some b → b < w.heap.size := fun b hbj => hown.blk_lt hbj
      have hw' := hown.at (w' := w') fun b hbj => hblk b (hb1 b hbj) (hnX b hbj)
      cases o with
      | cells ty cs =>
        obtain ⟨b, vs, e, h1, h2, h3, h4, h5⟩ := hw'
        have hbb : blkOf (g j) = some b := by rw [e]; rfl
        exact ⟨b, vs, e, Dens.mono hb.le cs vs h1, h2, h3, fun o => by rw [hhold b (hb1 b hbb) (hnX b hbb)]; exact h4 o, h5⟩
      | tok sz =>
        obtain ⟨a, q, c, e, h1, hle, h2⟩ := hw'
        refine ⟨a, q, c, e, h1, hle, fun p hpa hlt => ?_⟩
        obtain ⟨h3, h4, cs, ty, h5, h6, h7⟩ := h2 p hpa hlt
        have hbb : blkOf (g j) = some p.block := by rw [e, hpa]; simp [blkOf, Nat.blt_eq.mpr hlt]
        exact ⟨h3, h4, cs, ty, h5, h6, fun i hi => by rw [hhold p.block (hb1 _ hbb) (hnX _ hbb)]; exact h7 i hi⟩
      | obj f =>
        obtain ⟨q, o, e, h1, h2, h3, h4⟩ := hw'
        have hbb : blkOf (g j) = some q := by rw [e]; rfl
        exact ⟨q, o, e, h1, fun H'' hl => h2 H'' (Hp.le_trans hb.le hl), fun i => by rw [hhold q (hb1 _ hbb) (hnX _ hbb)]; exact h3 i, h4⟩
      | buf rw nn =>
        rcases hw' with ⟨ty, b, vs, e, h1, h2, h3, h4, h5⟩ | h
        · have hbb : blkOf (g j) = some b := by rw [e]; rfl
          exact .inl ⟨ty, b, vs, e, Dens.mono hb.le _ vs h1, h2, h3, fun o => by rw [hhold b (hb1 b hbb) (hnX b hbb)]; exact h4 o, h5⟩
        · exact .inr h
  · refine { os := hb.os.trans h.base.os, tape := hb.tape.trans h.base.tape, output := hb.output.trans h.base.output, size := Nat.le_trans h.base.size hb.size, block := fun b hb0 hx => ?_, hold := fun b hb0 hx o => ?_, le := Hp.le_trans h.base.le hb.le, fix := h.base.fix, drawn := Nat.le_trans h.base.drawn hb.drawn }
    · have hnx : ¬ preX (fun k => g (r k)) pre b := fun hx' => (hmine b hx').elim (fun hle => absurd hb0 (by omega)) hx
      exact (hblk b (Nat.lt_of_lt_of_le hb0 h.base.size) hnx).trans (h.base.block b hb0 hx)
    · have hnx : ¬ preX (fun k => g (r k)) pre b := fun hx' => (hmine b hx').elim (fun hle => absurd hb0 (by omega)) hx
      exact (hhold b (Nat.lt_of_lt_of_le hb0 h.base.size) hnx o).trans (h.base.hold b hb0 hx o)

/-- Behind a call that was handed own blocks for good. -/
theorem Dn.left {cx : Cx} {g g' : Nat → Value} {H H' : Hp} {env : List (Nat × SV)} {own own2 : List (Nat × SO)} {n : Nat} {tmps : Array Value} {w w' : World} {m : Nat} {pre : List (Nat × SO)} {r : Nat → Nat}
    (h : Dn cx g H env own n tmps w) (hpre : pres r own pre) (hb : Base ⟨w, H, fun k => g (r k), m, preX (fun k => g (r k)) pre⟩ g' H' w') (hon : H'.on w')
    (hless : ∀ j o, ownq own2 j = some o → ownq own j = some o ∧ ∀ k, (ownq pre k).isSome = true → j ≠ r k) :
    Dn cx g H' env own2 n tmps w' ∧ ∀ b, (w.heap.size ≤ b ∨ preX (fun k => g (r k)) pre b) → cx.mine b ∧ ∀ j o, ownq own2 j = some o → blkOf (g j) ≠ some b := by
  have hXm : ∀ b, preX (fun k => g (r k)) pre b → ∃ k, (ownq own (r k)).isSome = true ∧ (ownq pre k).isSome = true ∧ blkOf (g (r k)) = some b := by
    rintro b ⟨k, hk, hkb⟩
    cases ho : ownq pre k with
    | none => rw [ho] at hk; cases hk
    | some o => exact ⟨k, by rw [pres_spec hpre k o ho]; rfl, by rw [ho]; rfl, hkb⟩
  have hblk : ∀ b, b < w.heap.size → ¬ preX (fun k => g (r k)) pre b → w'.heap[b]? = w.heap[b]? := hb.block
  have hhold : ∀ b, b < w.heap.size → ¬ preX (fun k => g (r k)) pre b → ∀ o, H' b o = H b o := hb.hold
  have hmine : ∀ b, preX (fun k => g (r k)) pre b → cx.mine b := by
    intro b hx
    obtain ⟨k, hk, _, hkb⟩ := hXm b hx
    cases ho : ownq own (r k) with
    | none => rw [ho] at hk; cases hk
    | some o => exact (h.ok (r k) o ho).blk_mine hkb
  have hdiff : ∀ j o, ownq own2 j = some o → ∀ b, blkOf (g j) = some b → ¬ preX (fun k => g (r k)) pre b := by
    intro j o hj b hbj hx
    obtain ⟨k, hk, hp, hkb⟩ := hXm b hx
    exact (hless j o hj).2 k hp (h.inj j (r k) (by rw [(hless j o hj).1]; rfl) hk b hbj hkb)
  refine ⟨{ size := h.size, den := fun t => Den.mono hb.le _ _ (h.den t), ok := fun j o hj => ?_, inj := fun i j hi hj => h.inj i j ?_ ?_, hp := hon, base := ?_ }, fun b hbb => ⟨?_, fun j o hj e => ?_⟩⟩
  · have hown := h.ok j o (hless j o hj).1
    have hnX := hdiff j o hj
    have hb1 : ∀ b, blkOf (g j) = some b → b < w.heap.size := fun b hbj => hown.blk_lt hbj
    have hw' := hown.at (w' := w') fun b hbj => hblk b (hb1 b hbj) (hnX b hbj)
    cases o with
    | cells ty cs =>
      obtain ⟨b, vs, e, h1, h2, h3, h4, h5⟩ := hw'
      have hbb : blkOf (g j) = some b := by rw [e]; rfl
      exact ⟨b, vs, e, Dens.mono hb.le cs vs h1, h2, h3, fun o => by rw [hhold b (hb1 b hbb) (hnX b hbb)]; exact h4 o, h5⟩
    | tok sz =>
      obtain ⟨a, q, c, e, h1, hle, h2⟩ := hw'
      refine ⟨a, q, c, e, h1, hle, fun p hpa hlt => ?_⟩
      obtain ⟨h3, h4, cs, ty, h5, h6, h7⟩ := h2 p hpa hlt
      have hbb : blkOf (g j) = some p.block := by rw [e, hpa]; simp [blkOf, Nat.blt_eq.mpr hlt]
      exact ⟨h3, h4, cs, ty, h5, h6, fun i hi => by rw [hhold p.block (hb1 _ hbb) (hnX _ hbb)]; exact h7 i hi⟩
    | buf rw nn =>
      rcases hw' with ⟨ty, b, vs, e, h1, h2, h3, h4, h5⟩ | h
      · have hbb : blkOf (g j) = some b := by rw [e]; rfl
        exact .inl ⟨ty, b, vs, e, Dens.mono hb.le _ vs h1, h2, h3, fun o => by rw [hhold b (hb1 b hbb) (hnX b hbb)]; exact h4 o, h5⟩
      · exact .inr h
    | obj f =>
      obtain ⟨q, o, e, h1, h2, h3, h4⟩ := hw'
      have hbb : blkOf (g j) = some q := by rw [e]; rfl
      exact ⟨q, o, e, h1, fun H'' hl => h2 H'' (Hp.le_trans hb.le hl), fun i => by rw [hhold q (hb1 _ hbb) (hnX _ hbb)]; exact h3 i, h4⟩
  · cases hq : ownq own2 i with
    | none => rw [hq] at hi; cases hi
    | some o => rw [(hless i o hq).1]; rfl
  · cases hq : ownq own2 j with
    | none => rw [hq] at hj; cases hj
    | some o => rw [(hless j o hq).1]; rfl
  · refine { os := hb.os.trans h.base.os, tape := hb.tape.trans h.base.tape, output := hb.output.trans h.base.output, size := Nat.le_trans h.base.size hb.size, block := fun b hb0 hx => ?_, hold := fun b hb0 hx o => ?_, le := Hp.le_trans h.base.le hb.le, fix := h.base.fix, drawn := Nat.le_trans h.base.drawn hb.drawn }
    · have hnx : ¬ preX (fun k => g (r k)) pre b := fun hx' => (hmine b hx').elim (fun hle => absurd hb0 (by omega)) hx
      exact (hblk b (Nat.lt_of_lt_of_le hb0 h.base.size) hnx).trans (h.base.block b hb0 hx)
    · have hnx : ¬ preX (fun k => g (r k)) pre b := fun hx' => (hmine b hx').elim (fun hle => absurd hb0 (by omega)) hx
      exact (hhold b (Nat.lt_of_lt_of_le hb0 h.base.size) hnx o).trans (h.base.hold b hb0 hx o)
  · rcases hbb with hbb | hbb
    · exact .inl (Nat.le_trans h.base.size hbb)
    · exact hmine b hbb
  · rcases hbb with hbb | hbb
    · have := (h.ok j o (hless j o hj).1).blk_lt e
      omega
    · exact hdiff j o hj b e hbb

end Go.Eng
/- The proof engine, part 14: the rules for calls, tests and loops, as they are used. -/
namespace Go.Eng

def dstLt (dst : Option Nat) (n : Nat) : Bool :=
  match dst with
  | some d => Nat.blt d n
  | none => true

/-- The callee of a call, and what it is handed. -/
def callK {α : Type} (o : Op) (env : List (Nat × SV)) (k : Nat → List SV → α) (f : α) : α :=
  match o with
  | .call { callee := .value x, args, argTypes := _ } => evK env x fun s => match s with
    | .clo g caps => evsK env args.toList fun l => k g (app l caps)
    | _ => f
  | _ => f
  where
  app : List SV → List SV → List SV
  | [], b => b
  | x :: a, b => x :: app a b

theorem app_eq : ∀ (a b : List SV), callK.app a b = a ++ b
  | [], _ => rfl
  | x :: a, b => by simp [callK.app, app_eq a b]

theorem run_call {P : Program} {cx : Cx} {g : Nat → Value} {H : Hp} {env : List (Nat × SV)} {own : List (Nat × SO)} {n : Nat} {a : Act} {w : World} {o : Oper} {f : Nat} {args : List SV}
    (hd : Dn cx g H env own n a.tmps w) (hE : Enter P f) (h : callK o.op env (fun f l => some (f, l)) none = some (f, args)) :
    ∃ vs, Dens g H args vs ∧ (execOp a.eval o).run P w = .ok (.enter f vs.toArray) w := by
  unfold callK at h
  split at h
  · rename_i x asx ats ho
    simp only [evK_eq, evsK_eq] at h
    split at h
    · rename_i q caps hx
      simp only [Option.some.injEq, Prod.mk.injEq] at h
      obtain ⟨e1, e2⟩ := h
      subst e1; subst e2
      have hv := hd.ev x
      rw [hx] at hv
      obtain ⟨cs, he, hc⟩ := hv
      have hev : ∀ l : List Operand, Dens g H (evs env l) (l.map a.eval) := by
        intro l
        induction l with
        | nil => trivial
        | cons x l ih => exact ⟨hd.ev x, ih⟩
      refine ⟨asx.toList.map a.eval ++ cs, by rw [app_eq]; exact (hev _).append hc, ?_⟩
      have hargs : asx.map a.eval = (asx.toList.map a.eval).toArray := by apply Array.ext'; simp
      simp only [execOp, ho, resolve, he, Deferred.ofValue]
      simp [invoke, hargs]
      exact hE _ _
    · cases h
  · cases h

/-- A call, by its contract. -/
theorem at_call {E : Stc} {all rest : List Oper} {o : Oper} {s : List Fr} {env : List (Nat × SV)} {own : List (Nat × SO)} {nx : List Nat} {f m : Nat} {pre : List (Nat × SO)} {args args' : List SV}
    {Post : SV → List (Nat × SO) → Prop} (r : Nat → Nat) (hC : Contract E.P f m pre args Post) (hc : callK o.op env (fun f l => some (f, l)) none = some (f, args')) (ha : args' = rens r args)
    (hpre : pres r own pre) (k : ∀ sv post, Post sv post → sv.lt m = true ∧ cellsLt m post = true ∧ keysB post pre = true ∧ Sat E (.ops all rest) s (put o.dst (ren r sv) env) (posts r post own) nx)
    (hinj : ∀ i j, (ownq pre i).isSome = true → (ownq pre j).isSome = true → r i = r j → i = j) (hm : ∀ k, k < m → (ownq pre k).isSome = true)
    (hg : guardK all o.guard env true false false = true := by rfl) (hd : dstLt o.dst E.n = true := by rfl) : Sat E (.ops all (o :: rest)) s env own nx := by
  intro a w hat
  have hwant : Region.wanted o (yielded all.toArray a.tmps) = true := by
    rcases guardK_wanted (E := E) (all := all) (o := o) (env := env) (own := own) (yes := true) (no := false) (stuck := false) with ⟨_, hw⟩ | ⟨h, _⟩ | h
    · exact hw a w hat
    · rw [hg] at h; cases h
    · rw [hg] at h; cases h
  obtain ⟨hdf, g, H, hdn⟩ := hat
  obtain ⟨vs, hv, hr⟩ := run_call (P := E.P) hdn hC.1 hc
  subst ha
  have hv' : Dens (fun k => g (r k)) H args vs := Dens.unren (g' := g) (r := r) (fun _ => rfl) args vs hv
  have hok : ∀ k o, ownq pre k = some o → OwnOk (fun _ => True) (fun k => g (r k)) H w k o := by
    intro k o hk
    have := hdn.ok (r k) _ (pres_spec hpre k o hk)
    cases o with
    | cells ty cs =>
      obtain ⟨b, ws, e, h1, h2, h3, h4, h5⟩ := this
      exact ⟨b, ws, e, Dens.unren (g' := g) (r := r) (fun _ => rfl) cs ws h1, h2, h3, h4, trivial⟩
    | tok sz =>
      obtain ⟨ad, q, c, e, h1, hle, h2⟩ := this
      refine ⟨ad, q, c, e, h1, hle, fun p hpa hlt => ?_⟩
      obtain ⟨h3, _, h5⟩ := h2 p hpa hlt
      exact ⟨h3, trivial, h5⟩
    | obj q =>
      obtain ⟨r, o, e, h1, h2, h3, _⟩ := this
      exact ⟨r, o, e, h1, h2, h3, trivial⟩
    | buf rw nn =>
      rcases this with ⟨ty, b, ws, e, h1, h2, h3, h4, h5⟩ | ⟨e, h1⟩
      · exact .inl ⟨ty, b, ws, e, Dens.plain g _ H rw nn ws h1, h2, h3, h4, trivial⟩
      · exact .inr ⟨e, h1⟩
  have hinj' : InjOn (fun k => g (r k)) pre := by
    intro i j hi hj b hbi hbj
    refine hinj i j hi hj (hdn.inj (r i) (r j) ?_ ?_ b hbi hbj)
    · cases ho : ownq pre i with
      | none => rw [ho] at hi; cases hi
      | some x => rw [pres_spec hpre i x ho]; rfl
    · cases ho : ownq pre j with
      | none => rw [ho] at hj; cases hj
      | some x => rw [pres_spec hpre j x ho]; rfl
  have hcall := hC.2 (fun k => g (r k)) H w vs hdn.hp hok hinj' hv'
  unfold wpList
  rw [if_pos hwant]
  refine .inl ?_
  unfold Oper.wp
  rw [hr]
  refine hcall.mono fun e w' he => ?_
  cases e with
  | panicked c => exact he.elim
  | outgrown => exact he.elim
  | returned v =>
    obtain ⟨sv, post, hP, hb⟩ := hdn.called hpre hm he
    obtain ⟨h1, h2, h3, hS⟩ := k sv post hP
    obtain ⟨H', hv2, hd2⟩ := hb h1 h2 h3
    have := At.put (E := E) (dst := o.dst) hdf hd2 hv2 (fun d e => by rw [e] at hd; exact Nat.blt_eq.mp hd)
    exact hS _ _ this

mutual
theorem ren_id : ∀ s : SV, ren (fun k => k) s = s
  | .int _ _ => rfl
  | .bl _ => rfl
  | .tt => rfl
  | .ff => rfl
  | .str _ => rfl
  | .val _ => rfl
  | .lst _ _ => rfl
  | .gl _ _ _ => rfl
  | .tl _ _ => rfl
  | .arr _ _ => rfl
  | .sl _ _ _ _ => rfl
  | .mp _ => rfl
  | .ptr _ _ => rfl
  | .rp _ _ => rfl
  | .agg l => by rw [ren, rens_id l]
  | .tup l => by rw [ren, rens_id l]
  | .clo _ l => by rw [ren, rens_id l]
  | .any => rfl
theorem rens_id : ∀ l : List SV, rens (fun k => k) l = l
  | [] => rfl
  | s :: l => by rw [rens, ren_id s, rens_id l]
end

/-- A function that only reckons. -/
def GivesP (P : Program) (f : FuncId) (args : List SV) (Post : SV → Prop) : Prop :=
  Contract P f 0 [] args fun sv own => Post sv ∧ sv.lt 0 = true ∧ own = []

def Gives (P : Program) (f : FuncId) (args : List SV) (res : SV) : Prop := GivesP P f args fun sv => sv = res

theorem at_pure {E : Stc} {all rest : List Oper} {o : Oper} {s : List Fr} {env : List (Nat × SV)} {own : List (Nat × SO)} {nx : List Nat} {f : Nat} {args : List SV} {Post : SV → Prop}
    (hC : GivesP E.P f args Post) (hc : callK o.op env (fun f l => some (f, l)) none = some (f, args)) (k : ∀ sv, Post sv → Sat E (.ops all rest) s (put o.dst sv env) own nx)
    (hg : guardK all o.guard env true false false = true := by rfl) (hd : dstLt o.dst E.n = true := by rfl) : Sat E (.ops all (o :: rest)) s env own nx :=
  at_call (fun k => k) hC hc (rens_id args).symm trivial (fun sv post hP => by
    obtain ⟨h1, h2, h3⟩ := hP
    subst h3
    rw [ren_id]
    exact ⟨h2, rfl, rfl, k sv h1⟩) (fun i j hi => by simp [ownq] at hi) (fun k hk => absurd hk (Nat.not_lt_zero k)) hg hd

theorem at_fn {E : Stc} {all rest : List Oper} {o : Oper} {s : List Fr} {env : List (Nat × SV)} {own : List (Nat × SO)} {nx : List Nat} {f : Nat} {args : List SV} {res : SV}
    (hC : Gives E.P f args res) (hc : callK o.op env (fun f l => some (f, l)) none = some (f, args)) (k : Sat E (.ops all rest) s (put o.dst res env) own nx)
    (hg : guardK all o.guard env true false false = true := by rfl) (hd : dstLt o.dst E.n = true := by rfl) : Sat E (.ops all (o :: rest)) s env own nx :=
  at_pure hC hc (fun sv h => by subst h; exact k) hg hd

/-- The run, taken. -/
theorem run {E : Stc} {m : Md} {s : List Fr} {env : List (Nat × SV)} {own : List (Nat × SO)} {nx : List Nat} {m' : Md} {s' : List Fr} {env' : List (Nat × SV)} {own' : List (Nat × SO)} {nx' : List Nat} {ob' : List Prop} (q : Nat)
    (h : exec E.T E.cx.m0 E.n q m s env own nx [] = .stop m' s' env' own' nx' ob') (hS : Sat E m' s' env' own' nx') (ha : All ob' := by first | exact trivial | (simp only [All, inR]; omega)) : Sat E m s env own nx :=
  run_go q h ha hS

/-- The function returns. -/
theorem at_ret {E : Stc} {env : List (Nat × SV)} {own : List (Nat × SO)} {nx : List Nat} {sv : SV} {rs : List ResultVar} (hr : E.fn.results.toList = rs) (h : retK E.T env own rs retS = some sv)
    (own' : List (Nat × SO)) (hP : E.Post sv own') (hs : subO own own') : Sat E .ret [] env own nx :=
  at_ret' own' (by rw [hr]; exact h) hs hP

/-- A test. -/
theorem at_if {E : Stc} {x : Operand} {c d : Code} {s : List Fr} {env : List (Nat × SV)} {own : List (Nat × SO)} {nx : List Nat} {b : Bool} (hx : ev env x = .bl b)
    (ht : b = true → Sat E (.code c) s env own nx) (hf : b = false → Sat E (.code d) s env own nx) : Sat E (.code (.cond x c d)) s env own nx := by
  intro a w hat
  have hat' := hat
  obtain ⟨_, g, H, hd⟩ := hat'
  have hv := hd.ev x
  rw [hx] at hv
  exact wp_cond_split hv (fun h => ht h a w hat) (fun h => hf h a w hat)

theorem at_ifd {E : Stc} {x : Operand} {c d : Code} {s : List Fr} {env : List (Nat × SV)} {own : List (Nat × SO)} {nx : List Nat} {p : Prop} [Decidable p] (hx : ev env x = .bl (decide p))
    (ht : p → Sat E (.code c) s env own nx) (hf : ¬ p → Sat E (.code d) s env own nx) : Sat E (.code (.cond x c d)) s env own nx :=
  at_if hx (fun h => ht (of_decide_eq_true h)) (fun h => hf (of_decide_eq_false h))

theorem At.refine {E : Stc} {env : List (Nat × SV)} {own : List (Nat × SO)} {a : Act} {w : World} {t : Nat} {sv sv' : SV} (h : At E env own a w) (hn : nth env t = sv) (hl : ∀ g H x, Den g H sv x → Den g H sv' x) :
    At E ((t, sv') :: env) own a w := by
  obtain ⟨hdf, g, H, hd⟩ := h
  refine ⟨hdf, g, H, { hd with den := fun i => ?_ }⟩
  simp only [nth]
  cases hb : Nat.beq t i with
  | true =>
    rw [← beq_true hb]
    have := hd.den t
    rw [hn] at this
    exact hl g H _ this
  | false => exact hd.den i

theorem sat_mono {E : Stc} {m : Md} {s : List Fr} {env env' : List (Nat × SV)} {own own' : List (Nat × SO)} {nx nx' : List Nat} (h : ∀ a w, At E env own a w → At E env' own' a w) (hS : Sat E m s env' own' nx') : Sat E m s env own nx := by
  cases m <;> exact fun a w hat => hS a w (h a w hat)

/-- What a temporary holds is parted into yes and no. -/
theorem at_split {E : Stc} {m : Md} {s : List Fr} {env : List (Nat × SV)} {own : List (Nat × SO)} {nx : List Nat} (t : Nat) {b : Bool} (hn : nth env t = .bl b)
    (ht : b = true → Sat E m s ((t, .tt) :: env) own nx) (hf : b = false → Sat E m s ((t, .ff) :: env) own nx) : Sat E m s env own nx := by
  cases b with
  | true => exact sat_mono (fun a w h => h.refine (sv' := .tt) hn fun _ _ _ h => h) (ht rfl)
  | false => exact sat_mono (fun a w h => h.refine (sv' := .ff) hn fun _ _ _ h => h) (hf rfl)

theorem at_true {E : Stc} {m : Md} {s : List Fr} {env : List (Nat × SV)} {own : List (Nat × SO)} {nx : List Nat} (t : Nat) {b : Bool} (hn : nth env t = .bl b) (hb : b = true)
    (k : Sat E m s ((t, .tt) :: env) own nx) : Sat E m s env own nx := at_split t hn (fun _ => k) (fun h => by rw [hb] at h; cases h)
theorem at_false {E : Stc} {m : Md} {s : List Fr} {env : List (Nat × SV)} {own : List (Nat × SO)} {nx : List Nat} (t : Nat) {b : Bool} (hn : nth env t = .bl b) (hb : b = false)
    (k : Sat E m s ((t, .ff) :: env) own nx) : Sat E m s env own nx := at_split t hn (fun h => by rw [hb] at h; cases h) (fun _ => k)

/-- One value says no more than another. -/
def SVle (a b : SV) : Prop := ∀ g H x, Den g H a x → Den g H b x
theorem SVle.refl (a : SV) : SVle a a := fun _ _ _ h => h
theorem SVle.any (a : SV) : SVle a .any := fun _ _ _ _ => trivial
theorem SVle.of_eq {a b : SV} (h : a = b) : SVle a b := h ▸ SVle.refl a

def subE (env : List (Nat × SV)) : List (Nat × SV) → Prop
  | [] => True
  | (t, s) :: l => SVle (nth env t) s ∧ subE env l

theorem subE_spec {env : List (Nat × SV)} : ∀ {l : List (Nat × SV)}, subE env l → ∀ t, SVle (nth env t) (nth l t)
  | [], _, t => SVle.any _
  | (i, s) :: l, h, t => by
    simp only [nth]
    cases hb : Nat.beq i t with
    | true => rw [← beq_true hb]; exact h.1
    | false => exact subE_spec h.2 t

theorem at_sub {E : Stc} {env env' : List (Nat × SV)} {own own' : List (Nat × SO)} {a : Act} {w : World} (h : At E env own a w) (he : subE env env') (ho : subO own own') : At E env' own' a w := by
  obtain ⟨hdf, g, H, hd⟩ := h
  refine ⟨hdf, g, H, { size := hd.size, den := fun t => subE_spec he t g H _ (hd.den t), ok := fun k o hk => hd.ok k o (subO_spec ho k o hk), inj := fun k j hk hj => hd.inj k j ?_ ?_, hp := hd.hp, base := hd.base }⟩
  · cases hq : ownq own' k with
    | none => rw [hq] at hk; cases hk
    | some o => rw [subO_spec ho k o hq]; rfl
  · cases hq : ownq own' j with
    | none => rw [hq] at hj; cases hj
    | some o => rw [subO_spec ho j o hq]; rfl

/-- Less is known from here on. -/
theorem at_less {E : Stc} {m : Md} {s : List Fr} {env : List (Nat × SV)} {own : List (Nat × SO)} {nx : List Nat} (env' : List (Nat × SV)) (own' : List (Nat × SO)) (nx' : List Nat) (he : subE env env') (ho : subO own own')
    (k : Sat E m s env' own' nx') : Sat E m s env own nx := sat_mono (fun _ _ h => at_sub h he ho) k

/-- What a round must come to. -/
def Again {α : Type} (φ : α → Prop) (σ : α → List (Nat × SV)) (τ : α → List (Nat × SO)) (μ : α → Nat) (x : α) (env : List (Nat × SV)) (own : List (Nat × SO)) : Prop :=
  ∃ y, φ y ∧ μ y < μ x ∧ subE env (σ y) ∧ subO own (τ y)

/-- A loop: the states at the head of each round, by a parameter; a measure that falls. -/
theorem at_loop {E : Stc} {c : Code} {s : List Fr} {env : List (Nat × SV)} {own : List (Nat × SO)} {nx : List Nat} {α : Type} (φ : α → Prop) (σ : α → List (Nat × SV)) (τ : α → List (Nat × SO)) (μ : α → Nat) (nx' : List Nat)
    (x0 : α) (h0 : φ x0) (he : subE env (σ x0)) (ho : subO own (τ x0)) (round : ∀ x, φ x → Sat E (.code c) (.lp (Again φ σ τ μ x) :: s) (σ x) (τ x) nx') : Sat E (.code (.loop c)) s env own nx := by
  intro a w hat
  refine wp_loop_ghost (fun n a w => ∃ x, φ x ∧ μ x = n ∧ At E (σ x) (τ x) a w) (μ x0) ⟨x0, h0, rfl, at_sub hat he ho⟩ ?_
  rintro n a w ⟨x, hx, hm, hat⟩
  refine wp_mono (round x hx a w hat) fun e a' w' hq => ?_
  cases e with
  | normal =>
    obtain ⟨env', own', ⟨y, hy, hlt, he', ho'⟩, hat'⟩ := hq
    exact ⟨μ y, by omega, y, hy, rfl, at_sub hat' he' ho'⟩
  | _ => exact hq

theorem at_again {E : Stc} {s : List Fr} {env : List (Nat × SV)} {own : List (Nat × SO)} {nx : List Nat} {α : Type} {φ : α → Prop} {σ : α → List (Nat × SV)} {τ : α → List (Nat × SO)} {μ : α → Nat} {x : α}
    (y : α) (h : φ y) (hm : μ y < μ x) (he : subE env (σ y)) (ho : subO own (τ y)) : Sat E .norm (.lp (Again φ σ τ μ x) :: s) env own nx :=
  fun _ _ hat => ⟨env, own, ⟨y, h, hm, he, ho⟩, hat⟩

/-- Ways that come together again. -/
def Joined {α : Type} (φ : α → Prop) (σ : α → List (Nat × SV)) (τ : α → List (Nat × SO)) (env : List (Nat × SV)) (own : List (Nat × SO)) : Prop :=
  ∃ y, φ y ∧ subE env (σ y) ∧ subO own (τ y)

theorem at_join {E : Stc} {c : Code} {s : List Fr} {env : List (Nat × SV)} {own : List (Nat × SO)} {nx : List Nat} {α : Type} (φ : α → Prop) (σ : α → List (Nat × SV)) (τ : α → List (Nat × SO)) (nx' : List Nat)
    (h : Sat E (.code c) (.lp (Joined φ σ τ) :: s) env own nx) (k : ∀ x, φ x → Sat E .norm s (σ x) (τ x) nx') : Sat E (.code c) s env own nx := by
  intro a w hat
  refine wp_mono (h a w hat) fun e a' w' hq => ?_
  cases e with
  | normal =>
    obtain ⟨env', own', ⟨y, hy, he, ho⟩, hat'⟩ := hq
    exact k y hy a' w' (at_sub hat' he ho)
  | _ => exact hq

theorem at_joined {E : Stc} {s : List Fr} {env : List (Nat × SV)} {own : List (Nat × SO)} {nx : List Nat} {α : Type} {φ : α → Prop} {σ : α → List (Nat × SV)} {τ : α → List (Nat × SO)}
    (y : α) (h : φ y) (he : subE env (σ y)) (ho : subO own (τ y)) : Sat E .norm (.lp (Joined φ σ τ) :: s) env own nx :=
  fun _ _ hat => ⟨env, own, ⟨y, h, he, ho⟩, hat⟩

theorem Gives.le {P : Program} {f : FuncId} {args : List SV} {a b : SV} (h : Gives P f args a) (hl : SVle a b) (h0 : b.lt 0 = true := by rfl) : Gives P f args b := by
  refine ⟨h.1, fun g H w vs h1 h2 h3 h4 => (h.2 g H w vs h1 h2 h3 h4).mono fun e w' he => ?_⟩
  cases e with
  | returned v =>
    obtain ⟨g', H', sv, own, ⟨rfl, _, rfl⟩, hv, hr⟩ := he
    exact ⟨g', H', b, [], ⟨rfl, h0, rfl⟩, hl _ _ _ hv, hr⟩
  | _ => exact he

theorem SVle.tt {b : Bool} (h : b = true) : SVle .tt (.bl b) := fun _ _ _ hd => by subst h; exact hd
theorem SVle.ff {b : Bool} (h : b = false) : SVle .ff (.bl b) := fun _ _ _ hd => by subst h; exact hd
theorem SVle.isT {b : Bool} (h : b = true) : SVle (.bl b) .tt := fun _ _ _ hd => by subst h; exact hd

def SVles : List SV → List SV → Prop
  | [], [] => True
  | a :: l, b :: r => SVle a b ∧ SVles l r
  | _, _ => False
theorem SVles.dens : ∀ {l r : List SV}, SVles l r → ∀ g H xs, Dens g H l xs → Dens g H r xs
  | [], [], _, _, _, _, h => h
  | _ :: _, _ :: _, hl, g, H, x :: xs, h => ⟨hl.1 g H x h.1, SVles.dens hl.2 g H xs h.2⟩
  | _ :: _, _ :: _, _, _, _, [], h => h.elim
  | [], _ :: _, hl, _, _, _, _ => hl.elim
  | _ :: _, [], hl, _, _, _, _ => hl.elim
theorem SVle.tup {l r : List SV} (h : SVles l r) : SVle (.tup l) (.tup r) := by
  rintro g H x ⟨cs, e, hd⟩
  exact ⟨cs, e, h.dens g H cs hd⟩

end Go.Eng
/- The proof engine, part 14b: lists: indexing, cutting, laying, appending. -/
namespace Go.Eng

/-- A list, whatever is known besides. -/
def lstv : SV → Option (Nat × List (List DV))
  | .lst sz r => some (sz, r)
  | .gl _ sz r => some (sz, r)
  | .tl sz r => some (sz, r)
  | _ => none

theorem lstv_den {g : Nat → Value} {H : Hp} {s : SV} {sz : Nat} {r : List (List DV)} {x : Value} (h : lstv s = some (sz, r)) (hd : Den g H s x) : DenD H (.lst sz r) x := by
  cases s <;> simp only [lstv, Option.some.injEq, Prod.mk.injEq, reduceCtorEq] at h
  · obtain ⟨rfl, rfl⟩ := h; exact hd
  · obtain ⟨rfl, rfl⟩ := h; exact hd.1
  · obtain ⟨rfl, rfl⟩ := h; exact hd.1

theorem SVle.gl (k sz : Nat) (r : List (List DV)) : SVle (.gl k sz r) (.lst sz r) := fun _ _ _ h => h.1
theorem SVle.tl (sz : Nat) (r : List (List DV)) : SVle (.tl sz r) (.lst sz r) := fun _ _ _ h => h.1

theorem DenRs.get {H : Hp} {b sz : Nat} : ∀ {rows : List (List DV)} {off j : Nat} {r : List DV}, DenRs H b off sz rows → rows[j]? = some r →
    ∃ vs, DenDs H r vs ∧ vs.length = sz ∧ ∀ i v, vs[i]? = some v → H b (off + j * sz + i) = some v
  | [], _, _, _, _, h => by simp at h
  | x :: xs, off, 0, r, hr, h => by
    simp only [List.getElem?_cons_zero, Option.some.injEq] at h
    subst h
    simpa using hr.1
  | x :: xs, off, j + 1, r, hr, h => by
    have := DenRs.get (off := off + sz) (j := j) hr.2 (by simpa using h)
    rw [show off + sz + j * sz = off + (j + 1) * sz from by rw [Nat.add_mul]; omega] at this
    exact this

theorem DenRs.drop {H : Hp} {b sz : Nat} : ∀ {rows : List (List DV)} {off : Nat} (l : Nat), DenRs H b off sz rows → DenRs H b (off + l * sz) sz (rows.drop l)
  | rows, off, 0, h => by simpa using h
  | [], off, l + 1, _ => by simp [DenRs]
  | x :: xs, off, l + 1, h => by
    have := DenRs.drop (off := off + sz) l h.2
    rw [show off + sz + l * sz = off + (l + 1) * sz from by rw [Nat.add_mul]; omega] at this
    exact this

theorem DenRs.take {H : Hp} {b sz : Nat} : ∀ {rows : List (List DV)} {off : Nat} (l : Nat), DenRs H b off sz rows → DenRs H b off sz (rows.take l)
  | rows, off, 0, h => by simp [DenRs]
  | [], off, l + 1, _ => by simp [DenRs]
  | x :: xs, off, l + 1, h => ⟨h.1, DenRs.take l h.2⟩

/-- The cells of rows, one behind the other. -/
def DenF (H : Hp) (sz : Nat) : List (List DV) → List Value → Prop
  | [], vs => vs = []
  | r :: rs, vs => ∃ v1 v2, vs = v1 ++ v2 ∧ DenDs H r v1 ∧ v1.length = sz ∧ DenF H sz rs v2

theorem DenF.length {H : Hp} {sz : Nat} : ∀ {rows : List (List DV)} {vs : List Value}, DenF H sz rows vs → vs.length = rows.length * sz
  | [], vs, h => by rw [show vs = [] from h]; simp
  | r :: rs, vs, h => by
    obtain ⟨v1, v2, e, _, h1, h2⟩ := h
    rw [e, List.length_append, h1, DenF.length h2, List.length_cons, Nat.add_mul]
    omega

theorem DenF.append {H : Hp} {sz : Nat} : ∀ {r1 r2 : List (List DV)} {v1 v2 : List Value}, DenF H sz r1 v1 → DenF H sz r2 v2 → DenF H sz (r1 ++ r2) (v1 ++ v2)
  | [], _, v1, _, h, h2 => by rw [show v1 = [] from h]; exact h2
  | r :: rs, _, v1, _, h, h2 => by
    obtain ⟨a, b, e, ha, hl, hb⟩ := h
    exact ⟨a, _, by rw [e, List.append_assoc], ha, hl, DenF.append hb h2⟩

theorem DenF.mono {H H' : Hp} (hl : H.le H') {sz : Nat} : ∀ {rows : List (List DV)} {vs : List Value}, DenF H sz rows vs → DenF H' sz rows vs
  | [], _, h => h
  | _ :: _, _, h => by
    obtain ⟨a, b, e, ha, hl', hb⟩ := h
    exact ⟨a, b, e, DenDs.mono hl _ _ ha, hl', DenF.mono hl hb⟩

theorem DenDs.one {H : Hp} : ∀ {ds : List DV} {vs : List Value}, DenDs H ds vs → ∀ v ∈ vs, v.oneCell' = true
  | [], [], _, v, hv => by cases hv
  | d :: ds, x :: xs, h, v, hv => by
    rcases List.mem_cons.1 hv with rfl | hv
    · exact h.1.oneCell
    · exact DenDs.one h.2 v hv
  | [], _ :: _, h, _, _ => h.elim
  | _ :: _, [], h, _, _ => h.elim

theorem DenF.one {H : Hp} {sz : Nat} : ∀ {rows : List (List DV)} {vs : List Value}, DenF H sz rows vs → ∀ v ∈ vs, v.oneCell' = true
  | [], vs, h, v, hv => by rw [show vs = [] from h] at hv; cases hv
  | r :: rs, vs, h, v, hv => by
    obtain ⟨a, b, e, ha, _, hb⟩ := h
    rw [e] at hv
    rcases List.mem_append.1 hv with hv | hv
    · exact ha.one v hv
    · exact DenF.one hb v hv

theorem DenRs.flat {H : Hp} {b sz : Nat} : ∀ {rows : List (List DV)} {off : Nat}, DenRs H b off sz rows → ∃ vs, DenF H sz rows vs ∧ ∀ j v, vs[j]? = some v → H b (off + j) = some v
  | [], _, _ => ⟨[], rfl, fun (j : Nat) (v : Value) (h : ([] : List Value)[j]? = some v) => by simp at h⟩
  | r :: rs, off, h => by
    obtain ⟨⟨v1, h1, h2, h3⟩, h4⟩ := h
    obtain ⟨v2, h5, h6⟩ := DenRs.flat h4
    refine ⟨v1 ++ v2, ⟨v1, v2, rfl, h1, h2, h5⟩, fun j v hj => ?_⟩
    by_cases hlt : j < v1.length
    · rw [List.getElem?_append_left hlt] at hj; exact h3 j v hj
    · rw [List.getElem?_append_right (by omega)] at hj
      have := h6 _ v hj
      rw [show off + sz + (j - v1.length) = off + j from by omega] at this
      exact this

theorem DenF.rs {H : Hp} {b sz : Nat} : ∀ {rows : List (List DV)} {off : Nat} {vs : List Value}, DenF H sz rows vs → (∀ j v, vs[j]? = some v → H b (off + j) = some v) → DenRs H b off sz rows
  | [], _, _, _, _ => trivial
  | r :: rs, off, vs, h, hc => by
    obtain ⟨v1, v2, e, h1, h2, h3⟩ := h
    subst e
    refine ⟨⟨v1, h1, h2, fun j v hj => hc j v ?_⟩, DenF.rs h3 fun j v hj => ?_⟩
    · rw [List.getElem?_append_left (List.getElem?_eq_some_iff.1 hj).1]; exact hj
    · have := hc (sz + j) v (by rw [List.getElem?_append_right (by omega), h2, Nat.add_sub_cancel_left]; exact hj)
      rw [← Nat.add_assoc] at this
      exact this

/-- New cells that stay as they are. -/
def Hp.ext (H : Hp) (b : Nat) (cs : List Value) : Hp := fun b' o => if b' = b then cs[o]? else H b' o

theorem Hp.ext_le {H : Hp} {b : Nat} (h : ∀ o, H b o = none) (cs : List Value) : H.le (H.ext b cs) := by
  intro b' o v hv
  unfold Hp.ext
  by_cases e : b' = b
  · subst e; rw [h] at hv; cases hv
  · rw [if_neg e]; exact hv

theorem Hp.ext_at (H : Hp) (b : Nat) (cs : List Value) (o : Nat) : H.ext b cs b o = cs[o]? := by simp [Hp.ext]
theorem Hp.ext_ne (H : Hp) {b b' : Nat} (cs : List Value) (o : Nat) (h : b' ≠ b) : H.ext b cs b' o = H b' o := by simp [Hp.ext, h]

theorem Hp.on_new {H : Hp} {w : World} (h : H.on w) (o : Nat) : H w.heap.size o = none := by
  cases hv : H w.heap.size o with
  | none => rfl
  | some v => exact absurd (Hp.on_lt h hv) (by omega)

theorem OwnOk.ext {mine : Nat → Prop} {g : Nat → Value} {H : Hp} {w : World} {k : Nat} {o : SO} {b : Nat} {cs : List Value} (h : OwnOk mine g H w k o) (hb : ∀ o, H b o = none) (hne : ∀ c, blkOf (g k) = some c → c ≠ b) :
    OwnOk mine g (H.ext b cs) w k o := by
  have hl := Hp.ext_le hb cs
  cases o with
  | cells ty cs' =>
    obtain ⟨c, vs, e, h1, h2, h3, h4, h5⟩ := h
    exact ⟨c, vs, e, Dens.mono hl _ _ h1, h2, h3, fun o => by rw [Hp.ext_ne _ _ _ (hne c (by rw [e]; rfl))]; exact h4 o, h5⟩
  | tok sz =>
    obtain ⟨a, n, c, e, h1, hle, h2⟩ := h
    refine ⟨a, n, c, e, h1, hle, fun p hpa hlt => ?_⟩
    obtain ⟨h3, h4, cs', ty, h5, h6, h7⟩ := h2 p hpa hlt
    exact ⟨h3, h4, cs', ty, h5, h6, fun j hj => by rw [Hp.ext_ne _ _ _ (hne p.block (by rw [e, hpa]; simp [blkOf, Nat.blt_eq.mpr hlt]))]; exact h7 j hj⟩
  | obj f =>
    obtain ⟨r, o, e, h1, h2, h3, h4⟩ := h
    exact ⟨r, o, e, h1, fun H' hl' => h2 H' (Hp.le_trans hl hl'), fun o => by rw [Hp.ext_ne _ _ _ (hne r (by rw [e]; rfl))]; exact h3 o, h4⟩
  | buf rw nn =>
    rcases h with ⟨ty, c, vs, e, h1, h2, h3, h4, h5⟩ | h
    · exact .inl ⟨ty, c, vs, e, Dens.mono hl _ _ h1, h2, h3, fun o => by rw [Hp.ext_ne _ _ _ (hne c (by rw [e]; rfl))]; exact h4 o, h5⟩
    · exact .inr h

/-- A new block is laid, whose first cells stay as they are. -/
theorem Dn.lay {cx : Cx} {g : Nat → Value} {H : Hp} {env : List (Nat × SV)} {own : List (Nat × SO)} {n : Nat} {tmps : Array Value} {w : World} (h : Dn cx g H env own n tmps w) (arr : Array Value) (t : TypeId) (cs : List Value)
    (hpre : ∀ (j : Nat) (v : Value), cs[j]? = some v → arr[j]? = some v) : Dn cx g (H.ext w.heap.size cs) env own n tmps (w.alloc (.cells arr t)) := by
  have h' := h.grown (w' := w.alloc (.cells arr t)) rfl rfl rfl (by simp) (fun b hb => heap_alloc_lt w _ hb)
  have hnew := Hp.on_new h.hp
  have hl := Hp.ext_le hnew cs
  refine { size := h.size, den := fun t => Den.mono hl _ _ (h.den t), ok := fun k o hk => (h'.ok k o hk).ext hnew fun c hc e => ?_, inj := h.inj, hp := fun b o v hv => ?_, base := { h'.base with hold := fun b hb hx o => ?_, le := Hp.le_trans h.base.le hl } }
  · have := (h.ok k o hk).blk_lt hc
    omega
  · unfold Hp.ext at hv
    by_cases e : b = w.heap.size
    · rw [if_pos e] at hv
      subst e
      have := hpre o v hv
      simp only [World.cell?, heap_alloc_new]
      exact this
    · rw [if_neg e] at hv
      exact h'.hp b o v hv
  · have := h.base.size
    rw [Hp.ext_ne _ _ _ (by omega)]
    exact h.base.hold b hb hx o

section
variable {P : Program} {env : List (Nat × SV)} {own : List (Nat × SO)}

theorem slice_ti {t : Nat} (hk : (tiOf P t).kd = .slice) : ∃ i, TiSpec P t i (.slice (tiOf P t).elem) := by
  obtain ⟨i, d, hs, e⟩ := und_kd (P := P) hk (by simp)
  cases d <;> simp [kdOf] at e
  rename_i el
  have : (tiOf P t).elem = el := hs.elem
  rw [this]
  exact ⟨i, hs⟩

theorem prog_elem {t e : Nat} (h : P.underlying t = some (.slice e)) : P.elem t = e := by simp [Program.elem, h]

/-- The type of a list whose rows have sz cells. -/
def lstT (T : Nat → TI) (t sz : Nat) : Bool :=
  match (T t).kd with
  | .slice => Nat.beq (T (T t).elem).size sz && !(T (T t).elem).kd.isOther && (T (T t).elem).zok && Nat.beq (T (T t).elem).zero.length sz
  | _ => false

theorem lstT_spec {T : Nat → TI} (hT : ∀ t, T t = tiOf P t) {t sz : Nat} (h : lstT T t sz = true) : (tiOf P t).kd = .slice ∧ (tiOf P (tiOf P t).elem).size = sz ∧ (tiOf P (tiOf P t).elem).kd ≠ .other ∧ (tiOf P (tiOf P t).elem).zok = true ∧ (tiOf P (tiOf P t).elem).zero.length = sz := by
  have : T = tiOf P := funext hT
  subst this
  unfold lstT at h
  split at h
  · rename_i hk
    simp only [Bool.and_eq_true, Bool.not_eq_true'] at h
    exact ⟨hk, beq_true h.1.1.1, fun e => by rw [e] at h; simp [KI.isOther] at h, h.1.2, beq_true h.2⟩
  · cases h

/-- A place of a list. -/
theorem does_index {T : Nat → TI} (hT : ∀ t, T t = tiOf P t) {o : Oper} {t sz : Nat} {x i : Operand} {rows : List (List DV)} {k : IntKind} {n : Int} (row : List DV) (ho : o.op = .indexAddr t x i) (hx : lstv (ev env x) = some (sz, rows)) (hi : ev env i = .int k n)
    (h0 : 0 ≤ n) (hr : rows[n.toNat]? = some row) (hkT : lstT T t sz = true) : DoesV P o env own (.rp row 0) := by
  obtain ⟨hk, hz, hk2, _⟩ := lstT_spec hT hkT
  obtain ⟨i1, h1⟩ := slice_ti hk
  obtain ⟨i2, d2, h2⟩ := ti_spec hk2
  refine does_val fun cx g H q a w hd => ?_
  obtain ⟨ad, c, e1, hc, hn, hp⟩ := lstv_den hx (hd.ev x)
  have e2 := hd.ev i
  rw [hi] at e2
  have e2 : a.eval i = .int k n := e2
  have hlt : n.toNat < rows.length := (List.getElem?_eq_some_iff.1 hr).1
  cases ad with
  | none => rw [(hn rfl).1] at hlt; simp at hlt
  | some p =>
    obtain ⟨hs, hR⟩ := hp p rfl
    have hs : p.spot = none := hs.resolve_left fun e => by rw [e] at hlt; simp at hlt
    obtain ⟨vs, v1, v2, v3⟩ := hR.get hr
    refine ⟨.pointer (some (p.add (n.toNat * sz))), ?_, p.block, p.off + n.toNat * sz, vs, ?_, v1, v3⟩
    · have : 0 ≤ n ∧ n < (rows.length : Int) := ⟨h0, by omega⟩
      simp [execOp, ho, e1, e2, Instr.indexAt, asIntOf, run_underlying h1.und, this, run_sizeOf' h2.info, ← h2.size, hz]
    · obtain ⟨b, off, spot⟩ := p
      simp only at hs
      subst hs
      simp [addr_add]

theorem DenRs.cut {H : Hp} {b off sz : Nat} {rows : List (List DV)} (h : DenRs H b off sz rows) (l n : Nat) : DenRs H b (off + l * sz) sz ((rows.drop l).take n) := (h.drop l).take n

/-- A part of a list, by what the bounds come to. -/
theorem sliced_den {H : Hp} {sz : Nat} {rows : List (List DV)} {ad : Option Addr} {c : Nat} (hc : rows.length ≤ c) (hn : ad = none → rows = [] ∧ c = 0) (hp : ∀ p, ad = some p → (rows = [] ∨ p.spot = none) ∧ DenRs H p.block p.off sz rows)
    {l h m : Nat} (h1 : l ≤ h) (h2 : h ≤ rows.length) (h3 : h ≤ m) (h4 : m ≤ c) : DenD H (.lst sz ((rows.drop l).take (h - l))) (sliced ad l h m sz) := by
  have hlen : ((rows.drop l).take (h - l)).length = h - l := by simp; omega
  refine ⟨if m = l then ad else ad.map (·.add (l * sz)), m - l, by rw [hlen]; rfl, by rw [hlen]; omega, fun e => ?_, fun p e => ?_⟩
  · have hnone : ad = none := by
      split at e
      · exact e
      · simpa using e
    obtain ⟨e1, e2⟩ := hn hnone
    subst e1
    exact ⟨by simp, by omega⟩
  · split at e
    · rename_i hml
      have : h - l = 0 := by omega
      refine ⟨.inl (by rw [this]; simp), ?_⟩
      rw [this]
      simp [DenRs]
    · cases ad with
      | none => simp at e
      | some q =>
        obtain ⟨q1, q2⟩ := hp q rfl
        simp only [Option.map_some, Option.some.injEq] at e
        subst e
        rcases q1 with q1 | q1
        · subst q1
          exact ⟨.inl (by simp), by simp [DenRs]⟩
        obtain ⟨b, off, spot⟩ := q
        simp only at q1
        subst q1
        simp only [addr_add]
        exact ⟨.inr trivial, q2.cut l (h - l)⟩

theorem does_slice_h {T : Nat → TI} (hT : ∀ t, T t = tiOf P t) {o : Oper} {t sz : Nat} {x hi : Operand} {rows : List (List DV)} {k : IntKind} {n : Int} (ho : o.op = .slice t x none (some hi) none) (hx : lstv (ev env x) = some (sz, rows)) (hh : ev env hi = .int k n)
    (h0 : 0 ≤ n ∧ n ≤ rows.length) (hkT : lstT T t sz = true) : DoesV P o env own (.lst sz (rows.take n.toNat)) := by
  obtain ⟨hk, hz, hk2, _⟩ := lstT_spec hT hkT
  obtain ⟨i1, h1⟩ := slice_ti hk
  obtain ⟨i2, d2, h2⟩ := ti_spec hk2
  have he := prog_elem h1.und
  refine does_val fun cx g H q a w hd => ?_
  obtain ⟨ad, c, e1, hc, hn, hp⟩ := lstv_den hx (hd.ev x)
  have e2 := hd.ev hi
  rw [hh] at e2
  have e2 : a.eval hi = .int k n := e2
  have hu : P.underlying t = some (.slice (P.elem t)) := by rw [he]; exact h1.und
  have key := sliced_den hc hn hp (l := 0) (h := n.toNat) (m := c) (Nat.zero_le _) (by omega) (by omega) (Nat.le_refl _)
  refine ⟨sliced ad 0 n.toNat c sz, ?_, (by simpa using key : DenD H (.lst sz (rows.take n.toNat)) _)⟩
  have hs := h2.size
  rw [hz] at hs
  simp [execOp, ho, e1, e2, run_sliceAt_slice w t _ _ _ _ hu, run_slice_h w t ad rows.length c hu k n h0.1 (by omega), he, run_sizeOf' h2.info, ← hs]

theorem does_slice_l {T : Nat → TI} (hT : ∀ t, T t = tiOf P t) {o : Oper} {t sz : Nat} {x lo : Operand} {rows : List (List DV)} {k : IntKind} {n : Int} (ho : o.op = .slice t x (some lo) none none) (hx : lstv (ev env x) = some (sz, rows)) (hh : ev env lo = .int k n)
    (h0 : 0 ≤ n ∧ n ≤ rows.length) (hkT : lstT T t sz = true) : DoesV P o env own (.lst sz (rows.drop n.toNat)) := by
  obtain ⟨hk, hz, hk2, _⟩ := lstT_spec hT hkT
  obtain ⟨i1, h1⟩ := slice_ti hk
  obtain ⟨i2, d2, h2⟩ := ti_spec hk2
  have he := prog_elem h1.und
  refine does_val fun cx g H q a w hd => ?_
  obtain ⟨ad, c, e1, hc, hn, hp⟩ := lstv_den hx (hd.ev x)
  have e2 := hd.ev lo
  rw [hh] at e2
  have e2 : a.eval lo = .int k n := e2
  have hu : P.underlying t = some (.slice (P.elem t)) := by rw [he]; exact h1.und
  have key := sliced_den hc hn hp (l := n.toNat) (h := rows.length) (m := c) (by omega) (by omega) (by omega) (Nat.le_refl _)
  refine ⟨sliced ad n.toNat rows.length c sz, ?_, by rw [List.take_of_length_le (by simp)] at key; exact key⟩
  have hs := h2.size
  rw [hz] at hs
  simp [execOp, ho, e1, e2, run_sliceAt_slice w t _ _ _ _ hu, run_slice_l w t ad rows.length c hu k n h0.1 h0.2, he, run_sizeOf' h2.info, ← hs]

theorem does_slice_hm {T : Nat → TI} (hT : ∀ t, T t = tiOf P t) {o : Oper} {t sz : Nat} {x hi mx : Operand} {rows : List (List DV)} {k k2 : IntKind} {n : Int} (ho : o.op = .slice t x none (some hi) (some mx)) (hx : lstv (ev env x) = some (sz, rows)) (hh : ev env hi = .int k n) (hm : ev env mx = .int k2 n)
    (h0 : 0 ≤ n ∧ n ≤ rows.length) (hkT : lstT T t sz = true) : DoesV P o env own (.tl sz (rows.take n.toNat)) := by
  obtain ⟨hk, hz, hk2, _⟩ := lstT_spec hT hkT
  obtain ⟨i1, h1⟩ := slice_ti hk
  obtain ⟨i2, d2, h2⟩ := ti_spec hk2
  have he := prog_elem h1.und
  refine does_val fun cx g H q a w hd => ?_
  obtain ⟨ad, c, e1, hc, hn, hp⟩ := lstv_den hx (hd.ev x)
  have e2 := hd.ev hi
  rw [hh] at e2
  have e2 : a.eval hi = .int k n := e2
  have e3 := hd.ev mx
  rw [hm] at e3
  have e3 : a.eval mx = .int k2 n := e3
  have hu : P.underlying t = some (.slice (P.elem t)) := by rw [he]; exact h1.und
  have key := sliced_den hc hn hp (l := 0) (h := n.toNat) (m := n.toNat) (Nat.zero_le _) (by omega) (by omega) (by omega)
  have hlen : (rows.take n.toNat).length = n.toNat := by simp; omega
  refine ⟨sliced ad 0 n.toNat n.toNat sz, ?_, (by simpa using key : DenD H (.lst sz (rows.take n.toNat)) _), _, by rw [hlen]; rfl⟩
  have hs := h2.size
  rw [hz] at hs
  simp [execOp, ho, e1, e2, e3, run_sliceAt_slice w t _ _ _ _ hu, run_slice_hm w t ad rows.length c hu k k2 n n h0.1 (Int.le_refl _) (by omega), he, run_sizeOf' h2.info, ← hs, sliced]

/-- An operation that lays what stays as it is, and hands it back. -/
def DoesG (P : Program) (o : Oper) (env : List (Nat × SV)) (own : List (Nat × SO)) (v : SV) : Prop :=
  v.lt 0 = true ∧ ∀ (cx : Cx) (g : Nat → Value) (H : Hp) (n : Nat) (own' : List (Nat × SO)) (env' : List (Nat × SV)) (a : Act) (w : World), Dn cx g H env own n a.tmps w → Dn cx g H env' own' n a.tmps w →
    ∃ x w' H', (execOp a.eval o).run P w = .ok (.value x) w' ∧ Den g H' v x ∧ Dn cx g H' env' own' n a.tmps w'

/-- Behind an appending to a list that has no room: the cells of both, in a new block. -/
theorem laid_append {cx : Cx} {g : Nat → Value} {H : Hp} {env : List (Nat × SV)} {own : List (Nat × SO)} {n : Nat} {tmps : Array Value} {w : World} (hd : Dn cx g H env own n tmps w) (e : TypeId) {sz : Nat} {rows : List (List DV)} {vs : List Value} (rest : Array Value)
    (hf : DenF H sz rows vs) (c : Nat) (hc : rows.length ≤ c) :
    Dn cx g (H.ext w.heap.size vs) env own n tmps (w.drew.alloc (.cells (vs.toArray ++ rest) e)) ∧ DenD (H.ext w.heap.size vs) (.lst sz rows) (.slice (some ⟨w.heap.size, 0, none⟩) rows.length c) := by
  have h1 := hd.drew.lay (vs.toArray ++ rest) e vs (fun j v hj => by
    rw [Array.getElem?_append_left (by simpa using (List.getElem?_eq_some_iff.1 hj).1)]
    simpa using hj)
  refine ⟨h1, some ⟨w.heap.size, 0, none⟩, c, rfl, hc, fun e => (by cases e), fun p hp => ?_⟩
  simp only [Option.some.injEq] at hp
  subst hp
  refine ⟨.inr rfl, (hf.mono (Hp.ext_le (Hp.on_new hd.hp) vs)).rs fun j v hj => ?_⟩
  rw [Nat.zero_add, Hp.ext_at]
  exact hj

/-- What room a list has is nobody else's. -/
def Spare (w : World) (H : Hp) (sz : Nat) (x : Value) (ok : Nat → Prop) : Prop :=
  ∃ (a : Option Addr) (n c : Nat), x = .slice a n c ∧ (a = none → n = 0 ∧ c = 0) ∧ n ≤ c ∧ ∀ p, a = some p → n < c → p.spot = none ∧ ok p.block ∧
      ∃ cs ty, w.heap[p.block]? = some (.cells cs ty (0, 0)) ∧ p.off + c * sz ≤ cs.size ∧ ∀ j, p.off + n * sz ≤ j → H p.block j = none

/-- An operation that hands back a list whose room is new. -/
def DoesT (P : Program) (o : Oper) (env : List (Nat × SV)) (own : List (Nat × SO)) (sz : Nat) (rows : List (List DV)) : Prop :=
  ∀ (cx : Cx) (g : Nat → Value) (H : Hp) (n : Nat) (own' : List (Nat × SO)) (env' : List (Nat × SV)) (a : Act) (w : World), Dn cx g H env own n a.tmps w → Dn cx g H env' own' n a.tmps w →
    ∃ x w' H', (execOp a.eval o).run P w = .ok (.value x) w' ∧ DenD H' (.lst sz rows) x ∧ Dn cx g H' env' own' n a.tmps w' ∧ Spare w' H' sz x (fun b => w.heap.size ≤ b)

theorem DoesT.g {P : Program} {o : Oper} {env : List (Nat × SV)} {own : List (Nat × SO)} {sz : Nat} {rows : List (List DV)} (h : DoesT P o env own sz rows) : DoesG P o env own (.lst sz rows) :=
  ⟨rfl, fun cx g H n own' env' a w hd hd' => by
    obtain ⟨x, w', H', h1, h2, h3, _⟩ := h cx g H n own' env' a w hd hd'
    exact ⟨x, w', H', h1, h2, h3⟩⟩

theorem laid_spare {w : World} {H : Hp} (e : TypeId) {sz : Nat} {rows : List (List DV)} {vs : List Value} (z : Array Value) (hz : z.size = sz)
    (hf : DenF H sz rows vs) (c : Nat) (hc : rows.length ≤ c) (ok : Nat → Prop) (ho : ok w.heap.size) :
    Spare (w.drew.alloc (.cells (vs.toArray ++ Builtin.zeroCells z (c - rows.length)) e)) (H.ext w.heap.size vs) sz (.slice (some ⟨w.heap.size, 0, none⟩) rows.length c) ok := by
  refine ⟨_, _, _, rfl, fun e => (by cases e), hc, fun p hp _ => ?_⟩
  simp only [Option.some.injEq] at hp
  subst hp
  have hl := hf.length
  refine ⟨rfl, ho, _, e, heap_alloc_new w.drew _, ?_, fun j hj => ?_⟩
  · simp only [Array.size_append, List.size_toArray, size_zeroCells, hz, hl, ← Nat.add_mul, Nat.zero_add]
    apply Nat.mul_le_mul_right
    omega
  · rw [Hp.ext_at]
    exact List.getElem?_eq_none (by omega)

theorem doesT_append {T : Nat → TI} (hT : ∀ t, T t = tiOf P t) {o : Oper} {t sz : Nat} {x y : Operand} {xs ys : List (List DV)} {c : Call} (ho : o.op = .call c) (hcl : c.callee = .builtin .append) (ha : c.args = #[x, y]) (hat : c.argTypes = #[t, t]) (hx : ev env x = .tl sz xs) (hy : lstv (ev env y) = some (sz, ys))
    (hkT : lstT T t sz = true)
    (hl : ((xs.length + ys.length : Nat) : Int) ≤ 9223372036854775807) (hb : (xs.length + ys.length) * (T (T t).elem).bytes ≤ 140737488355328) : DoesT P o env own sz (xs ++ ys) := by
  obtain ⟨hk, hz, hk2, hz2, hz0⟩ := lstT_spec hT hkT
  rw [hT (T t).elem, hT t] at hb
  intro cx g H n own' env' a w hd hd'
  obtain ⟨i1, h1⟩ := slice_ti hk
  obtain ⟨i2, d2, h2⟩ := ti_spec hk2
  obtain ⟨z, hz3, hz4⟩ := zero_spec h2 hz2
  have hzs : z.cells.size = sz := by rw [← hz0, hz4, Array.length_toList]
  have hsz : sz = i2.size := by rw [← hz, h2.size]
  rw [h2.bytes] at hb
  have ex := hd.ev x
  rw [hx] at ex
  obtain ⟨⟨ad, c1, e1, _, hn1, hp1⟩, ad', e1'⟩ := ex
  rw [e1'] at e1
  simp only [Value.slice.injEq, true_and] at e1
  obtain ⟨rfl, rfl⟩ := e1
  obtain ⟨bd, c2, e2, hc2, hn2, hp2⟩ := lstv_den hy (hd.ev y)
  have hrun : ∀ v w', (Builtin.append_ #[t, t] o.type #[a.eval x, a.eval y]).run P w = .ok v w' → (execOp a.eval o).run P w = .ok (.value v) w' := by
    intro v w' h
    simp only [execOp, ho, resolve, hcl, ha, hat]
    simp [invoke, builtin, h]
  have lens : ∀ (ys : List (List DV)), ys = [] → DenD H (.lst sz (xs ++ ys)) (.slice ad' xs.length xs.length) := by
    intro ys e
    subst e
    rw [List.append_nil]
    exact ⟨ad', _, rfl, Nat.le_refl _, hn1, hp1⟩
  have tight : Spare w H sz (.slice ad' xs.length xs.length) (fun b => w.heap.size ≤ b) := ⟨ad', _, _, rfl, fun e => ⟨by rw [(hn1 e).1]; rfl, by rw [(hn1 e).1]; rfl⟩, Nat.le_refl _, fun p _ hlt => absurd hlt (by omega)⟩
  cases hbd : bd with
  | none =>
    obtain ⟨e3, e4⟩ := hn2 hbd
    refine ⟨.slice ad' xs.length xs.length, w, H, hrun _ _ ?_, lens _ e3, hd', tight⟩
    rw [e1', e2, hbd, e3]
    simp [Builtin.append_, run_underlying h1.und, sizeOf, typeInfo, h2.info, Builtin.lenOf, Builtin.firstCells]
    cases ad' <;> simp [storeCells]
  | some q =>
    obtain ⟨hq1, hq2⟩ := hp2 q hbd
    obtain ⟨nv, hf2, hc3⟩ := hq2.flat
    have hnl := hf2.length
    have hnews : ∀ (j : Nat) (v : Value), nv[j]? = some v → w.cell? (q.add j) = some v := by
      intro j v hj
      have hq1 : q.spot = none := hq1.resolve_left fun e => by subst e; rw [show nv = [] from hf2] at hj; simp at hj
      obtain ⟨b, off, spot⟩ := q
      simp only at hq1
      subst hq1
      rw [addr_add]
      exact hd.hp _ _ _ (hc3 j v hj)
    by_cases hy0 : ys = []
    · refine ⟨.slice ad' xs.length xs.length, w, H, hrun _ _ ?_, lens _ hy0, hd', tight⟩
      rw [e1', e2, hbd, hy0]
      simp [Builtin.append_, run_underlying h1.und, sizeOf, typeInfo, h2.info, Builtin.lenOf, Builtin.firstCells, loadCells, loadCellsFrom]
      cases ad' <;> simp [storeCells]
    · have hpos : 0 < ys.length := List.length_pos_iff.2 hy0
      cases had : ad' with
      | none =>
        obtain ⟨e3, _⟩ := hn1 had
        subst e3
        simp only [List.length_nil, Nat.zero_add] at hl hb
        have hr := run_append_nil (P := P) w t o.type _ i2 z h1.und h2.info hz3 q ys.length c2 nv (by rw [hnl, hsz]) hnews hpos hl (by omega)
        obtain ⟨hd2, hv⟩ := laid_append hd' (tiOf P t).elem (Builtin.zeroCells z.cells (grownCap w ys.length 0 (tiOf P t).elem - ys.length)) hf2 (grownCap w ys.length 0 (tiOf P t).elem) (grownCap_ge _ _ _ _)
        refine ⟨_, _, _, hrun _ _ ?_, hv, hd2, laid_spare _ z.cells hzs hf2 _ (grownCap_ge _ _ _ _) _ (Nat.le_refl _)⟩
        rw [e1', e2, hbd, had]
        exact hr
      | some p =>
        obtain ⟨hp3, hp4⟩ := hp1 p had
        obtain ⟨ov, hf1, hc4⟩ := hp4.flat
        have hol := hf1.length
        have holds : ∀ (j : Nat) (v : Value), ov[j]? = some v → w.cell? (p.add j) = some v := by
          intro j v hj
          have hp3 : p.spot = none := hp3.resolve_left fun e => by subst e; rw [show ov = [] from hf1] at hj; simp at hj
          obtain ⟨b, off, spot⟩ := p
          simp only at hp3
          subst hp3
          rw [addr_add]
          exact hd.hp _ _ _ (hc4 j v hj)
        have hr := run_append_grow (P := P) w t o.type _ i2 z h1.und h2.info hz3 p xs.length xs.length ov (by rw [hol, hsz]) holds q ys.length c2 nv (by rw [hnl, hsz]) hnews (by omega) hl (growslice_fits (by omega) hb)
        obtain ⟨hd2, hv⟩ := laid_append hd' (tiOf P t).elem (Builtin.zeroCells z.cells (grownCap w (xs.length + ys.length) xs.length (tiOf P t).elem - (xs.length + ys.length))) (hf1.append hf2) (grownCap w (xs.length + ys.length) xs.length (tiOf P t).elem) (by rw [List.length_append]; exact grownCap_ge _ _ _ _)
        have e5 : (ov ++ nv).toArray = ov.toArray ++ nv.toArray := by simp
        have hsp := laid_spare (w := w) (tiOf P t).elem z.cells hzs (hf1.append hf2) (grownCap w (xs.length + ys.length) xs.length (tiOf P t).elem) (by rw [List.length_append]; exact grownCap_ge _ _ _ _) (fun b => w.heap.size ≤ b) (Nat.le_refl _)
        rw [e5] at hd2 hsp
        rw [List.length_append] at hsp
        refine ⟨_, _, _, hrun _ _ ?_, hv, hd2, by rw [List.length_append]; exact hsp⟩
        rw [e1', e2, hbd, had, List.length_append]
        exact hr

theorem doesG_append {T : Nat → TI} (hT : ∀ t, T t = tiOf P t) {o : Oper} {t sz : Nat} {x y : Operand} {xs ys : List (List DV)} {c : Call} (ho : o.op = .call c) (hcl : c.callee = .builtin .append) (ha : c.args = #[x, y]) (hat : c.argTypes = #[t, t]) (hx : ev env x = .tl sz xs) (hy : lstv (ev env y) = some (sz, ys))
    (hkT : lstT T t sz = true) (hl : ((xs.length + ys.length : Nat) : Int) ≤ 9223372036854775807) (hb : (xs.length + ys.length) * (T (T t).elem).bytes ≤ 140737488355328) : DoesG P o env own (.lst sz (xs ++ ys)) :=
  (doesT_append hT ho hcl ha hat hx hy hkT hl hb).g

/-- A list whose room is nobody else's is held by a name. -/
theorem Dn.tok {cx : Cx} {g : Nat → Value} {H : Hp} {env : List (Nat × SV)} {own : List (Nat × SO)} {n : Nat} {tmps : Array Value} {w : World} {k sz : Nat} {rows : List (List DV)} {x : Value}
    (h : Dn cx g H env own n tmps w) (hm : cx.m0 ≤ k) (hE : freshE k env = true) (hO : freshO k own = true) (hx : DenD H (.lst sz rows) x)
    (hs : Spare w H sz x fun b => cx.mine b ∧ ∀ j o, ownq own j = some o → blkOf (g j) ≠ some b) :
    Dn cx (Eng.upd g k x) H env ((k, .tok sz) :: own) n tmps w ∧ Den (Eng.upd g k x) H (.gl k sz rows) x := by
  have hne : ∀ i, i ≠ k → Eng.upd g k x i = g i := fun i hi => upd_ne _ _ _ i hi
  obtain ⟨a, m, c, e, h1, h2, h3⟩ := hs
  refine ⟨{ size := h.size, den := fun t => Den.upd hne _ _ (freshE_nth t hE) (h.den t), ok := fun j o hj => ?_, inj := fun i j hi hj b hbi hbj => ?_, hp := h.hp, base := { h.base with fix := fun j hj => by rw [hne j (by omega)]; exact h.base.fix j hj } }, hx, (upd_same _ _ _).symm⟩
  · simp only [ownq] at hj
    cases hb : Nat.beq k j with
    | true =>
      have := beq_true hb
      subst this
      simp only [hb, cond_true, Option.some.injEq] at hj
      subst hj
      refine ⟨a, m, c, by rw [upd_same]; exact e, h1, h2, fun p hp hlt => ?_⟩
      obtain ⟨q1, q2, q3⟩ := h3 p hp hlt
      exact ⟨q1, q2.1, q3⟩
    | false =>
      simp only [hb, cond_false] at hj
      exact (h.ok j o hj).upd (freshO_own hO hj)
  · have key : ∀ j b, (ownq ((k, SO.tok sz) :: own) j).isSome = true → blkOf (Eng.upd g k x j) = some b → (j = k ∧ ∀ i o, ownq own i = some o → blkOf (g i) ≠ some b) ∨ (j ≠ k ∧ (ownq own j).isSome = true ∧ blkOf (g j) = some b) := by
      intro j b hj hb
      by_cases hjk : j = k
      · subst hjk
        rw [upd_same, e] at hb
        refine .inl ⟨rfl, fun i o hi => ?_⟩
        cases a with
        | none => simp [blkOf] at hb
        | some p =>
          simp only [blkOf] at hb
          cases hlt : Nat.blt m c with
          | false => simp [hlt] at hb
          | true =>
            simp only [hlt, cond_true, Option.some.injEq] at hb
            subst hb
            exact (h3 p rfl (Nat.blt_eq.mp hlt)).2.1.2 i o hi
      · have hbf : Nat.beq k j = false := by
          cases hb' : Nat.beq k j with
          | false => rfl
          | true => exact absurd (beq_true hb').symm hjk
        simp only [ownq, hbf, cond_false] at hj
        rw [hne j hjk] at hb
        exact .inr ⟨hjk, hj, hb⟩
    rcases key i b hi hbi with ⟨e1, e2⟩ | ⟨n1, o1, b1⟩ <;> rcases key j b hj hbj with ⟨e3, e4⟩ | ⟨n2, o2, b2⟩
    · rw [e1, e3]
    · cases ho : ownq own j with
      | none => rw [ho] at o2; cases o2
      | some o => exact absurd b2 (e2 j o ho)
    · cases ho : ownq own i with
      | none => rw [ho] at o1; cases o1
      | some o => exact absurd b1 (e4 i o ho)
    · exact h.inj i j o1 o2 b b1 b2

theorem Spare.mono {w : World} {H : Hp} {sz : Nat} {x : Value} {ok ok' : Nat → Prop} (h : Spare w H sz x ok) (hm : ∀ b, ok b → ok' b) : Spare w H sz x ok' := by
  obtain ⟨a, n, c, e, h1, h2, h3⟩ := h
  exact ⟨a, n, c, e, h1, h2, fun p hp hlt => by
    obtain ⟨q1, q2, q3⟩ := h3 p hp hlt
    exact ⟨q1, hm _ q2, q3⟩⟩

/-- What is new is nobody's yet. -/
theorem Dn.new_ok {cx : Cx} {g : Nat → Value} {H : Hp} {env : List (Nat × SV)} {own : List (Nat × SO)} {n : Nat} {tmps : Array Value} {w : World} (h : Dn cx g H env own n tmps w) {b : Nat} (hb : w.heap.size ≤ b) :
    cx.mine b ∧ ∀ j o, ownq own j = some o → blkOf (g j) ≠ some b :=
  ⟨.inl (Nat.le_trans h.base.size hb), fun j o hj e => by
    have := (h.ok j o hj).blk_lt e
    omega⟩

theorem dn_up {g : Nat → Value} {H : Hp} : ∀ {d : DV} {v : Value}, Den g H (up d) v → DenD H d v
  | .int _ _, _, h => h
  | .bl _, _, h => h
  | .str _, _, h => h
  | .val _, _, h => h
  | .lst _ _, _, h => h
theorem dn_ups {g : Nat → Value} {H : Hp} : ∀ {l : List DV} {vs : List Value}, Dens g H (l.map up) vs → DenDs H l vs
  | [], [], _ => trivial
  | _ :: _, _ :: _, h => ⟨dn_up h.1, dn_ups h.2⟩
  | [], _ :: _, h => h.elim
  | _ :: _, [], h => h.elim

/-- The parts of a list that is built: one row each. -/
def bsOk (env : List (Nat × SV)) (sz : Nat) : List (Nat × Operand) → Nat → List (List DV) → Prop
  | [], _, [] => True
  | (j, x) :: ps, i, r :: rs => (j = i ∧ r.length = sz ∧ ∃ l, cellsOf (ev env x) = some l ∧ SVles l (r.map up)) ∧ bsOk env sz ps (i + 1) rs
  | _, _, _ => False

theorem fill_rows {cx : Cx} {g : Nat → Value} {H : Hp} {n : Nat} {a : Act} {w : World} (hd : Dn cx g H env own n a.tmps w) (sz : Nat) : ∀ (ps : List (Nat × Operand)) (rows : List (List DV)) (i : Nat) (pref tail : List Value) (zs : Array Value),
    bsOk env sz ps i rows → zs.toList = pref ++ tail → pref.length = i * sz → tail.length = rows.length * sz →
    ∃ zs', Instr.fill (fun i => some (i * sz, sz)) zs (ps.map fun p => (p.1, a.eval p.2)) = some zs' ∧ ∃ vs, zs'.toList = pref ++ vs ∧ DenF H sz rows vs := by
  intro ps
  induction ps with
  | nil =>
    intro rows i pref tail zs hb hz _ ht
    cases rows with
    | nil =>
      have : tail = [] := List.eq_nil_of_length_eq_zero (by simpa using ht)
      subst this
      exact ⟨zs, rfl, [], hz, rfl⟩
    | cons r rs => exact hb.elim
  | cons p ps ih =>
    obtain ⟨j, x⟩ := p
    intro rows i pref tail zs hb hz hp ht
    cases rows with
    | nil => exact hb.elim
    | cons r rs =>
      obtain ⟨⟨rfl, hr, l, hl, hle⟩, hb⟩ := hb
      have hdx := dn_ups (hle.dens g H _ (cellsOf_den hl (hd.ev x)))
      have hlen : (a.eval x).cells.size = sz := by have := hdx.length; rw [hr] at this; simpa using this
      have hzs : zs.size = j * sz + (rs.length + 1) * sz := by rw [← Array.length_toList, hz, List.length_append, hp, ht, List.length_cons]
      have hmul : (rs.length + 1) * sz = rs.length * sz + sz := by rw [Nat.add_mul, Nat.one_mul]
      simp only [List.map_cons, Instr.fill]
      have hcond : ((a.eval x).cells.size ≠ sz || j * sz + (a.eval x).cells.size > zs.size) = false := by
        rw [hlen, hzs]
        simp
        omega
      simp only [hcond, Bool.false_eq_true, if_false]
      have hf := fold_splice (a.eval x).cells.toList 0 (j * sz) zs (by simp only [Nat.add_zero, Array.length_toList]; omega)
      simp only [Nat.add_zero] at hf
      have hfo : (Array.foldl (fun (cs : Array Value) (x : Value × Nat) => cs.setIfInBounds (j * sz + x.2) x.1) zs (a.eval x).cells.zipIdx).toList = splice (a.eval x).cells.toList (j * sz) zs.toList := by
        rw [← hf, ← Array.foldl_toList, Array.toList_zipIdx]
      have hsp : splice (a.eval x).cells.toList (j * sz) zs.toList = (pref ++ (a.eval x).cells.toList) ++ tail.drop sz := by
        unfold splice
        have hl' : (a.eval x).cells.toList.length = sz := by rw [Array.length_toList, hlen]
        rw [hz, ← hp, List.take_left, hl', ← List.drop_drop, List.drop_left]
      obtain ⟨zs', h1, vs, h2, h3⟩ := ih rs (j + 1) (pref ++ (a.eval x).cells.toList) (tail.drop sz) _ hb (hfo.trans hsp) (by rw [List.length_append, hp, Array.length_toList, hlen, Nat.add_mul]; omega) (by rw [List.length_drop, ht, List.length_cons]; omega)
      exact ⟨zs', h1, (a.eval x).cells.toList ++ vs, by rw [h2, List.append_assoc], _, vs, rfl, hdx, by rw [Array.length_toList, hlen], h3⟩

theorem doesG_build {T : Nat → TI} (hT : ∀ t, T t = tiOf P t) {o : Oper} {t sz len : Nat} {parts : Array (Nat × Operand)} (rows : List (List DV)) (ho : o.op = .buildSlice t len parts) (hp : bsOk env sz parts.toList 0 rows) (hn : len = rows.length)
    (hkT : lstT T t sz = true) (hb : len * sz ≤ 16777216) : DoesG P o env own (.tl sz rows) := by
  obtain ⟨hk, hz, hk2, hz2, hz0⟩ := lstT_spec hT hkT
  refine ⟨rfl, fun cx g H n own' env' a w hd hd' => ?_⟩
  obtain ⟨i1, h1⟩ := slice_ti hk
  obtain ⟨i2, d2, h2⟩ := ti_spec hk2
  obtain ⟨z, hz3, _⟩ := zero_spec h2 hz2
  have hsz : i2.size = sz := by rw [← hz, h2.size]
  subst hn
  have key : ∀ zs : Array Value, zs.size = rows.length * sz → ∃ zs' H', Instr.fill (fun i => some (i * sz, sz)) zs (parts.toList.map fun p => (p.1, a.eval p.2)) = some zs' ∧
      Den g H' (.tl sz rows) (.slice (some ⟨w.heap.size, 0, none⟩) rows.length rows.length) ∧ Dn cx g H' env' own' n a.tmps (w.alloc (.cells zs' (tiOf P t).elem)) := by
    intro zs hzs
    obtain ⟨zs', h3, vs, h4, h5⟩ := fill_rows hd sz parts.toList rows 0 [] zs.toList zs hp rfl (by simp) (by simpa using hzs)
    have h4 : zs'.toList = vs := by simpa using h4
    have hd2 := hd'.lay zs' (tiOf P t).elem vs (fun j v hj => by rw [← h4] at hj; simpa using hj)
    refine ⟨zs', _, h3, ⟨⟨some ⟨w.heap.size, 0, none⟩, _, rfl, Nat.le_refl _, fun e => (by cases e), fun p hp => ?_⟩, _, rfl⟩, hd2⟩
    simp only [Option.some.injEq] at hp
    subst hp
    refine ⟨.inr rfl, (h5.mono (Hp.ext_le (Hp.on_new hd'.hp) vs)).rs fun j v hj => ?_⟩
    rw [Nat.zero_add, Hp.ext_at]
    exact hj
  have hmap : (parts.map fun x => (x.1, a.eval x.2)).toList = parts.toList.map fun p => (p.1, a.eval p.2) := by simp
  have hnb : ¬ (16777216 < rows.length * sz) := by omega
  by_cases h0 : rows.length * sz = 0
  · obtain ⟨zs', H', h3, h4, h5⟩ := key ((Array.range (rows.length * sz)).map (fun i => (#[] : Array Value)[i % (#[] : Array Value).size]!)) (by simp)
    refine ⟨_, _, H', ?_, h4, h5⟩
    simp only [execOp, ho, Instr.buildSlice, Sem.run_bind, run_underlying h1.und, Result.andThen_ok, run_sizeOf' h2.info, hsz]
    rw [if_neg (by omega), if_pos h0]
    simp only [Sem.run_bind, Sem.run_pure, Result.andThen_ok, hmap]
    rw [h3]
    simp [newRow]
  · obtain ⟨zs', H', h3, h4, h5⟩ := key ((Array.range (rows.length * sz)).map (fun i => z.cells[i % z.cells.size]!)) (by simp)
    refine ⟨_, _, H', ?_, h4, h5⟩
    simp only [execOp, ho, Instr.buildSlice, Sem.run_bind, run_underlying h1.und, Result.andThen_ok, run_sizeOf' h2.info, hsz]
    rw [if_neg (by omega), if_neg h0]
    simp only [Sem.run_bind, Sem.run_pure, Result.andThen_ok, hmap, run_zero' h2.info hz3]
    rw [h3]
    simp [newRow]

theorem run_append_room_off (w : World) (t ty e : TypeId) (i : TypeInfo) (ht : P.underlying t = some (.slice e)) (hi : P.info? e = some i) (e' : TypeId)
    (g off sLen sCap : Nat) (cur : Array Value) (hg : w.heap[g]? = some (.cells cur e' (0, 0)))
    (a : Addr) (m c : Nat) (news : List Value) (hl : news.length = m * i.size) (hnews : ∀ (j : Nat) (u : Value), news[j]? = some u → w.cell? (a.add j) = some u) (h1 : ∀ u ∈ news, u.oneCell' = true)
    (hroom : sLen + m ≤ sCap) (hfit : off + sLen * i.size + news.length ≤ cur.size) :
    (Builtin.append_ #[t, t] ty #[.slice (some ⟨g, off, none⟩) sLen sCap, .slice (some a) m c]).run P w =
      .ok (.slice (some ⟨g, off, none⟩) (sLen + m) sCap) (w.setRow g (splice news (off + sLen * i.size) cur.toList).toArray) := by
  have hf := run_firstCells_some (P := P) w i.size m a m c news hl hnews
  have hst := run_storeCells_at P g (off + sLen * i.size) e' news 0 cur w hg (by simpa using hfit) h1
  simp only [Nat.add_zero] at hst
  simp [Builtin.append_, run_underlying ht, sizeOf, typeInfo, hi, Builtin.lenOf, hroom, hf, Addr.add_lit, hst, splice]
end

/-- An operation that only reckons, by what is shown of it. -/
theorem at_val {E : Stc} {all rest : List Oper} {o : Oper} {s : List Fr} {env : List (Nat × SV)} {own : List (Nat × SO)} {nx : List Nat} (v : SV) (h : DoesV E.P o env own v) (k : Sat E (.ops all rest) s (put o.dst v env) own nx)
    (hg : guardK all o.guard env true false false = true := by rfl) (hd : dstLt o.dst E.n = true := by rfl) : Sat E (.ops all (o :: rest)) s env own nx := by
  intro a w hat
  have hwant : Region.wanted o (yielded all.toArray a.tmps) = true := by
    rcases guardK_wanted (E := E) (all := all) (o := o) (env := env) (own := own) (yes := true) (no := false) (stuck := false) with ⟨_, hw⟩ | ⟨h, _⟩ | h
    · exact hw a w hat
    · rw [hg] at h; cases h
    · rw [hg] at h; cases h
  unfold wpList
  rw [if_pos hwant]
  exact .inl (sat_op h.does (fun d e => by rw [e] at hd; exact Nat.blt_eq.mp hd) k hat)

/-- An operation that lays what stays. -/
theorem at_gro {E : Stc} {all rest : List Oper} {o : Oper} {s : List Fr} {env : List (Nat × SV)} {own : List (Nat × SO)} {nx : List Nat} (v : SV) (h : DoesG E.P o env own v) (k : Sat E (.ops all rest) s (put o.dst v env) own nx)
    (hg : guardK all o.guard env true false false = true := by rfl) (hd : dstLt o.dst E.n = true := by rfl) : Sat E (.ops all (o :: rest)) s env own nx := by
  intro a w hat
  have hwant : Region.wanted o (yielded all.toArray a.tmps) = true := by
    rcases guardK_wanted (E := E) (all := all) (o := o) (env := env) (own := own) (yes := true) (no := false) (stuck := false) with ⟨_, hw⟩ | ⟨h, _⟩ | h
    · exact hw a w hat
    · rw [hg] at h; cases h
    · rw [hg] at h; cases h
  unfold wpList
  rw [if_pos hwant]
  refine .inl ?_
  obtain ⟨hdf, g, H, hdn⟩ := hat
  obtain ⟨x, w', H', hr, hv, hd'⟩ := h.2 E.cx g H E.n own env a w hdn hdn
  unfold Oper.wp
  rw [hr]
  exact k _ _ (At.put hdf hd' hv fun d e => by rw [e] at hd; exact Nat.blt_eq.mp hd)

end Go.Eng
/- The proof engine, part 14c: appending to a list that has room of its own. -/
namespace Go.Eng

/-- More cells that stay as they are, in a block. -/
def Hp.add (H : Hp) (b q : Nat) (cs : List Value) : Hp := fun b' o => if b' = b ∧ q ≤ o ∧ o < q + cs.length then cs[o - q]? else H b' o

theorem Hp.add_le {H : Hp} {b q : Nat} (h : ∀ j, q ≤ j → H b j = none) (cs : List Value) : H.le (H.add b q cs) := by
  intro b' o v hv
  unfold Hp.add
  by_cases e : b' = b ∧ q ≤ o ∧ o < q + cs.length
  · obtain ⟨rfl, e2, _⟩ := e
    rw [h o e2] at hv
    cases hv
  · rw [if_neg e]; exact hv
theorem Hp.add_ne (H : Hp) {b b' q : Nat} (cs : List Value) (o : Nat) (h : b' ≠ b) : H.add b q cs b' o = H b' o := by
  unfold Hp.add
  rw [if_neg (fun e => h e.1)]
theorem Hp.add_at (H : Hp) (b q : Nat) (cs : List Value) {j : Nat} {v : Value} (h : cs[j]? = some v) : H.add b q cs b (q + j) = some v := by
  have hl := (List.getElem?_eq_some_iff.1 h).1
  unfold Hp.add
  rw [if_pos ⟨rfl, by omega, by omega⟩, Nat.add_sub_cancel_left]
  exact h
theorem Hp.add_out (H : Hp) (b q : Nat) (cs : List Value) {j : Nat} (h : j < q ∨ q + cs.length ≤ j) : H.add b q cs b j = H b j := by
  unfold Hp.add
  rw [if_neg (by omega)]

theorem OwnOk.hpmono {mine : Nat → Prop} {g : Nat → Value} {H H' : Hp} {w : World} {k : Nat} {o : SO} (h : OwnOk mine g H w k o) (hl : H.le H') (he : ∀ c, blkOf (g k) = some c → ∀ o, H' c o = H c o) :
    OwnOk mine g H' w k o := by
  cases o with
  | cells ty cs' =>
    obtain ⟨c, vs, e, h1, h2, h3, h4, h5⟩ := h
    exact ⟨c, vs, e, Dens.mono hl _ _ h1, h2, h3, fun o => by rw [he c (by rw [e]; rfl)]; exact h4 o, h5⟩
  | tok sz =>
    obtain ⟨a, n, c, e, h1, hle, h2⟩ := h
    refine ⟨a, n, c, e, h1, hle, fun p hpa hlt => ?_⟩
    obtain ⟨h3, h4, cs', ty, h5, h6, h7⟩ := h2 p hpa hlt
    exact ⟨h3, h4, cs', ty, h5, h6, fun j hj => by rw [he p.block (by rw [e, hpa]; simp [blkOf, Nat.blt_eq.mpr hlt])]; exact h7 j hj⟩
  | obj f =>
    obtain ⟨r, o, e, h1, h2, h3, h4⟩ := h
    exact ⟨r, o, e, h1, fun H'' hl' => h2 H'' (Hp.le_trans hl hl'), fun o => by rw [he r (by rw [e]; rfl)]; exact h3 o, h4⟩
  | buf rw nn =>
    rcases h with ⟨ty, c, vs, e, h1, h2, h3, h4, h5⟩ | h
    · exact .inl ⟨ty, c, vs, e, Dens.mono hl _ _ h1, h2, h3, fun o => by rw [he c (by rw [e]; rfl)]; exact h4 o, h5⟩
    · exact .inr h

/-- What is owned but for one. -/
def lessO (k : Nat) (own own2 : List (Nat × SO)) : Prop := ∀ j o, ownq own2 j = some o → j ≠ k ∧ ownq own j = some o

theorem splice_get {β : Type} (new old : List β) (n j : Nat) (h : n + new.length ≤ old.length) : (splice new n old)[j]? = if n ≤ j ∧ j < n + new.length then new[j - n]? else old[j]? := by
  unfold splice
  have h1 : (old.take n).length = n := by simp; omega
  by_cases a : j < n
  · rw [List.append_assoc, List.getElem?_append_left (by omega), List.getElem?_take_of_lt a, if_neg (by omega)]
  · by_cases b : j < n + new.length
    · rw [List.append_assoc, List.getElem?_append_right (by omega), h1, List.getElem?_append_left (by omega), if_pos ⟨by omega, b⟩]
    · rw [List.getElem?_append_right (by simp; omega), List.getElem?_drop, if_neg (by omega)]
      congr 1
      simp
      omega

/-- The room of a list is filled. -/
theorem Dn.fill {cx : Cx} {g : Nat → Value} {H : Hp} {env : List (Nat × SV)} {own own2 : List (Nat × SO)} {n : Nat} {tmps : Array Value} {w : World} {k b q : Nat} {cs : Array Value} {ty : TypeId} (news : List Value)
    (h : Dn cx g H env own n tmps w) (hl : lessO k own own2) (hb : ∀ j o, ownq own j = some o → j ≠ k → blkOf (g j) ≠ some b) (hm : cx.mine b) (hw : w.heap[b]? = some (.cells cs ty (0, 0))) (hH : ∀ j, q ≤ j → H b j = none) (hf : q + news.length ≤ cs.size) :
    Dn cx g (H.add b q news) env own2 n tmps (w.setRow b (splice news q cs.toList).toArray) := by
  have hle := Hp.add_le hH news
  have ho : ∀ i, i ≠ b → (w.setRow b (splice news q cs.toList).toArray).heap[i]? = w.heap[i]? := fun i hi => setRow_other w b i _ hi
  have hat := setRow_heap w b cs (splice news q cs.toList).toArray ty (0, 0) hw
  have hsz : q + news.length ≤ cs.toList.length := by simpa using hf
  refine { size := h.size, den := fun t => Den.mono hle _ _ (h.den t), ok := fun j o hj => ?_, inj := fun i j hi hj => h.inj i j ?_ ?_, hp := fun c o v hv => ?_, base := ?_ }
  · obtain ⟨h1, h2⟩ := hl j o hj
    have hne : ∀ c, blkOf (g j) = some c → c ≠ b := fun c hc e => hb j o h2 h1 (by rw [hc, e])
    exact ((h.ok j o h2).at fun c hc => ho c (hne c hc)).hpmono hle fun c hc i => Hp.add_ne _ _ _ (hne c hc)
  · cases ho' : ownq own2 i with
    | none => rw [ho'] at hi; cases hi
    | some o => rw [(hl i o ho').2]; rfl
  · cases ho' : ownq own2 j with
    | none => rw [ho'] at hj; cases hj
    | some o => rw [(hl j o ho').2]; rfl
  · by_cases e : c = b
    · subst e
      simp only [World.cell?, hat, Option.isSome_none, Bool.false_eq_true, if_false, List.getElem?_toArray]
      rw [splice_get _ _ _ _ hsz]
      unfold Hp.add at hv
      by_cases hr : q ≤ o ∧ o < q + news.length
      · rw [if_pos ⟨rfl, hr⟩] at hv
        rw [if_pos hr]
        exact hv
      · rw [if_neg (by simpa using hr)] at hv
        rw [if_neg hr]
        have := h.hp c o v hv
        simp only [World.cell?, hw, Option.isSome_none, Bool.false_eq_true, if_false] at this
        simpa using this
    · rw [Hp.add_ne _ _ _ e] at hv
      rw [World.cell?_same (w := w) (ho c e)]
      exact h.hp c o v hv
  · have hne : ∀ c, c < cx.w0.heap.size → ¬ cx.X c → c ≠ b := by
      intro c hc hx e
      subst e
      rcases hm with h0 | h0
      · omega
      · exact hx h0
    refine { os := h.base.os, tape := h.base.tape, output := h.base.output, size := by simpa using h.base.size, block := fun c hc hx => ?_, hold := fun c hc hx o => ?_, le := Hp.le_trans h.base.le hle, fix := h.base.fix, drawn := h.base.drawn }
    · rw [ho c (hne c hc hx)]
      exact h.base.block c hc hx
    · rw [Hp.add_ne _ _ _ (hne c hc hx)]
      exact h.base.hold c hc hx o

theorem Dn.lessO {cx : Cx} {g : Nat → Value} {H : Hp} {env : List (Nat × SV)} {own own2 : List (Nat × SO)} {n : Nat} {tmps : Array Value} {w : World} {k : Nat} (h : Dn cx g H env own n tmps w) (hl : lessO k own own2) :
    Dn cx g H env own2 n tmps w :=
  { size := h.size, den := h.den, ok := fun j o hj => h.ok j o (hl j o hj).2, hp := h.hp, base := h.base
    inj := fun i j hi hj => h.inj i j (by
      cases ho : ownq own2 i with
      | none => rw [ho] at hi; cases hi
      | some o => rw [(hl i o ho).2]; rfl) (by
      cases ho : ownq own2 j with
      | none => rw [ho] at hj; cases hj
      | some o => rw [(hl j o ho).2]; rfl) }

/-- An operation that uses up the token of a list, and hands back a list whose room is nobody else's. -/
def DoesU (P : Program) (o : Oper) (env : List (Nat × SV)) (own : List (Nat × SO)) (k sz : Nat) (rows : List (List DV)) : Prop :=
  ∀ (cx : Cx) (g : Nat → Value) (H : Hp) (n : Nat) (own' own2 : List (Nat × SO)) (env' : List (Nat × SV)) (a : Act) (w : World), Dn cx g H env own n a.tmps w → Dn cx g H env' own' n a.tmps w → ownq own' k = some (.tok sz) → lessO k own' own2 →
    ∃ x w' H', (execOp a.eval o).run P w = .ok (.value x) w' ∧ DenD H' (.lst sz rows) x ∧ Dn cx g H' env' own2 n a.tmps w' ∧ Spare w' H' sz x (fun b => cx.mine b ∧ ∀ j o, ownq own2 j = some o → blkOf (g j) ≠ some b)

section
variable {P : Program} {env : List (Nat × SV)} {own : List (Nat × SO)}

theorem doesU_append {T : Nat → TI} (hT : ∀ t, T t = tiOf P t) {o : Oper} {t k sz : Nat} {x y : Operand} {xs ys : List (List DV)} {c : Call} (ho : o.op = .call c) (hcl : c.callee = .builtin .append) (ha : c.args = #[x, y]) (hat : c.argTypes = #[t, t]) (hx : ev env x = .gl k sz xs) (hy : lstv (ev env y) = some (sz, ys))
    (hkT : lstT T t sz = true) (hl : ((xs.length + ys.length : Nat) : Int) ≤ 9223372036854775807) (hb : (xs.length + ys.length) * (T (T t).elem).bytes ≤ 140737488355328) : DoesU P o env own k sz (xs ++ ys) := by
  obtain ⟨hk, hz, hk2, hz2, hz0⟩ := lstT_spec hT hkT
  rw [hT (T t).elem, hT t] at hb
  intro cx g H n own' own2 env' a w hd hd' htok hless
  obtain ⟨i1, h1⟩ := slice_ti hk
  obtain ⟨i2, d2, h2⟩ := ti_spec hk2
  obtain ⟨z, hz3, hz4⟩ := zero_spec h2 hz2
  have hzs : z.cells.size = sz := by rw [← hz0, hz4, Array.length_toList]
  have hsz : sz = i2.size := by rw [← hz, h2.size]
  rw [h2.bytes] at hb
  have ex := hd.ev x
  rw [hx] at ex
  obtain ⟨⟨ad, c1, e1, hc1, hn1, hp1⟩, eg⟩ := ex
  obtain ⟨ad', n', c', eg', ht1, ht2, ht3⟩ := hd'.ok k _ htok
  rw [← eg, e1] at eg'
  simp only [Value.slice.injEq] at eg'
  obtain ⟨rfl, rfl, rfl⟩ := eg'
  obtain ⟨bd, c2, e2, hc2, hn2, hp2⟩ := lstv_den hy (hd.ev y)
  have hrun : ∀ v w', (Builtin.append_ #[t, t] o.type #[a.eval x, a.eval y]).run P w = .ok v w' → (execOp a.eval o).run P w = .ok (.value v) w' := by
    intro v w' h
    simp only [execOp, ho, resolve, hcl, ha, hat]
    simp [invoke, builtin, h]
  have hd2 := hd'.lessO hless
  have hother : ∀ p, ad = some p → xs.length < c1 → ∀ j o, ownq own' j = some o → j ≠ k → blkOf (g j) ≠ some p.block := by
    intro p hp hlt j o hj hne e
    refine hne (hd'.inj j k (by rw [hj]; rfl) (by rw [htok]; rfl) p.block e ?_)
    rw [← eg, e1, hp]
    simp [blkOf, Nat.blt_eq.mpr hlt]
  -- nothing new
  have none' : ys = [] → ∃ x w' H', (Result.ok (.slice ad xs.length c1) w : Result Value) = .ok x w' ∧ DenD H' (.lst sz (xs ++ ys)) x ∧ Dn cx g H' env' own2 n a.tmps w' ∧ Spare w' H' sz x (fun b => cx.mine b ∧ ∀ j o, ownq own2 j = some o → blkOf (g j) ≠ some b) := by
    intro e
    subst e
    rw [List.append_nil]
    refine ⟨_, _, H, rfl, ⟨ad, c1, rfl, hc1, hn1, hp1⟩, hd2, ad, _, c1, rfl, ht1, ht2, fun p hp hlt => ?_⟩
    obtain ⟨q1, q2, q3⟩ := ht3 p hp hlt
    exact ⟨q1, ⟨q2, fun j o hj => hother p hp hlt j o (hless j o hj).2 (hless j o hj).1⟩, q3⟩
  cases hbd : bd with
  | none =>
    obtain ⟨e3, e4⟩ := hn2 hbd
    obtain ⟨x', w', H', r1, r2⟩ := none' e3
    refine ⟨x', w', H', hrun _ _ ?_, r2⟩
    rw [← r1, e1, e2, hbd, e3]
    have : xs.length ≤ c1 := hc1
    simp [Builtin.append_, run_underlying h1.und, sizeOf, typeInfo, h2.info, Builtin.lenOf, Builtin.firstCells, this]
    cases ad <;> simp [storeCells]
  | some q =>
    obtain ⟨hq1, hq2⟩ := hp2 q hbd
    obtain ⟨nv, hf2, hc3⟩ := hq2.flat
    have hnl := hf2.length
    have hnews : ∀ (j : Nat) (v : Value), nv[j]? = some v → w.cell? (q.add j) = some v := by
      intro j v hj
      have hq1 : q.spot = none := hq1.resolve_left fun e => by subst e; rw [show nv = [] from hf2] at hj; simp at hj
      obtain ⟨b, off, spot⟩ := q
      simp only at hq1
      subst hq1
      rw [addr_add]
      exact hd.hp _ _ _ (hc3 j v hj)
    by_cases hy0 : ys = []
    · obtain ⟨x', w', H', r1, r2⟩ := none' hy0
      refine ⟨x', w', H', hrun _ _ ?_, r2⟩
      rw [← r1, e1, e2, hbd, hy0]
      have : xs.length ≤ c1 := hc1
      simp [Builtin.append_, run_underlying h1.und, sizeOf, typeInfo, h2.info, Builtin.lenOf, Builtin.firstCells, loadCells, loadCellsFrom, this]
      cases ad <;> simp [storeCells]
    · have hpos : 0 < ys.length := List.length_pos_iff.2 hy0
      cases had : ad with
      | none =>
        obtain ⟨e3, e4⟩ := hn1 had
        subst e3; subst e4
        simp only [List.length_nil, Nat.zero_add] at hl hb
        have hr := run_append_nil (P := P) w t o.type _ i2 z h1.und h2.info hz3 q ys.length c2 nv (by rw [hnl, hsz]) hnews hpos hl (by omega)
        obtain ⟨hd3, hv⟩ := laid_append hd2 (tiOf P t).elem (Builtin.zeroCells z.cells (grownCap w ys.length 0 (tiOf P t).elem - ys.length)) hf2 (grownCap w ys.length 0 (tiOf P t).elem) (grownCap_ge _ _ _ _)
        refine ⟨_, _, _, hrun _ _ ?_, hv, hd3, (laid_spare _ z.cells hzs hf2 _ (grownCap_ge _ _ _ _) _ (Nat.le_refl w.heap.size)).mono fun b hb => hd2.new_ok hb⟩
        rw [e1, e2, hbd, had]
        exact hr
      | some p =>
        obtain ⟨hp3, hp4⟩ := hp1 p had
        by_cases hroom : xs.length + ys.length ≤ c1
        · -- there is room
          obtain ⟨t1, t2, cs, ty, t3, t4, t5⟩ := ht3 p had (by omega)
          obtain ⟨b, off, spot⟩ := p
          simp only at t1 t2 t3 t4 t5
          subst t1
          have hfit : off + xs.length * sz + nv.length ≤ cs.size := by
            rw [hnl]
            have : (xs.length + ys.length) * sz ≤ c1 * sz := Nat.mul_le_mul_right _ hroom
            rw [Nat.add_mul] at this
            omega
          have hr := run_append_room_off (P := P) w t o.type _ i2 h1.und h2.info ty b off xs.length c1 cs t3 q ys.length c2 nv (by rw [hnl, hsz]) hnews hf2.one hroom (by rw [← hsz]; exact hfit)
          rw [← hsz] at hr
          have hd3 := hd'.fill nv hless (fun j o hj hne => hother _ had (by omega) j o hj hne) t2 t3 t5 hfit
          have hle := Hp.add_le t5 nv
          refine ⟨_, _, _, hrun _ _ (by rw [e1, e2, hbd, had]; exact hr), ⟨some ⟨b, off, none⟩, c1, by rw [List.length_append], by rw [List.length_append]; exact hroom, fun e => (by cases e), fun p hp => ?_⟩, hd3,
            some ⟨b, off, none⟩, _, c1, rfl, fun e => (by cases e), hroom, fun p hp hlt => ?_⟩
          · simp only [Option.some.injEq] at hp
            subst hp
            refine ⟨.inr rfl, ?_⟩
            obtain ⟨ov, hf1, hc4⟩ := hp4.flat
            refine (hf1.append hf2 |>.mono hle).rs fun j v hj => ?_
            by_cases hjl : j < ov.length
            · rw [List.getElem?_append_left hjl] at hj
              exact hle _ _ _ (hc4 j v hj)
            · rw [List.getElem?_append_right (by omega)] at hj
              have := Hp.add_at H b (off + xs.length * sz) nv hj
              rw [hf1.length] at this hjl
              rw [show off + xs.length * sz + (j - xs.length * sz) = off + j from by omega] at this
              exact this
          · simp only [Option.some.injEq] at hp
            subst hp
            refine ⟨rfl, ⟨t2, fun j o hj => hother _ had (by omega) j o (hless j o hj).2 (hless j o hj).1⟩, _, ty, setRow_heap w b cs _ ty (0, 0) t3, ?_, fun j hj => ?_⟩
            · rw [List.size_toArray, splice_length (by simpa using hfit), Array.length_toList]
              exact t4
            · rw [Nat.add_mul] at hj
              rw [Hp.add_out _ _ _ _ (.inr (by rw [hnl]; simp only at hj ⊢; omega))]
              exact t5 j (by simp only at hj ⊢; omega)
        · obtain ⟨ov, hf1, hc4⟩ := hp4.flat
          have hol := hf1.length
          have holds : ∀ (j : Nat) (v : Value), ov[j]? = some v → w.cell? (p.add j) = some v := by
            intro j v hj
            have hp3 : p.spot = none := hp3.resolve_left fun e => by subst e; rw [show ov = [] from hf1] at hj; simp at hj
            obtain ⟨b, off, spot⟩ := p
            simp only at hp3
            subst hp3
            rw [addr_add]
            exact hd.hp _ _ _ (hc4 j v hj)
          have hr := run_append_grow (P := P) w t o.type _ i2 z h1.und h2.info hz3 p xs.length c1 ov (by rw [hol, hsz]) holds q ys.length c2 nv (by rw [hnl, hsz]) hnews (by omega) hl (growslice_fits (by omega) hb)
          obtain ⟨hd3, hv⟩ := laid_append hd2 (tiOf P t).elem (Builtin.zeroCells z.cells (grownCap w (xs.length + ys.length) c1 (tiOf P t).elem - (xs.length + ys.length))) (hf1.append hf2) (grownCap w (xs.length + ys.length) c1 (tiOf P t).elem) (by rw [List.length_append]; exact grownCap_ge _ _ _ _)
          have e5 : (ov ++ nv).toArray = ov.toArray ++ nv.toArray := by simp
          have hsp := (laid_spare (w := w) (tiOf P t).elem z.cells hzs (hf1.append hf2) (grownCap w (xs.length + ys.length) c1 (tiOf P t).elem) (by rw [List.length_append]; exact grownCap_ge _ _ _ _) (fun b => w.heap.size ≤ b) (Nat.le_refl _)).mono fun b hb => hd2.new_ok hb
          rw [e5] at hd3 hsp
          rw [List.length_append] at hsp
          refine ⟨_, _, _, hrun _ _ ?_, hv, hd3, by rw [List.length_append]; exact hsp⟩
          rw [e1, e2, hbd, had, List.length_append]
          exact hr
end

end Go.Eng
