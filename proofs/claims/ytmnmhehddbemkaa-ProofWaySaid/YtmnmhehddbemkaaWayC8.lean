/- The texts CallG, Cut, W6a, L1, Maps, L3, L4, L6, Swap, SortR, W6b, one behind the other: an executor over the translated code, contracts of functions, and their laws. -/
import Derived.Maps.RangeRun
import Derived.MapKept
import Derived.Shelf.SlSortCmp.WholeK
import Derived.Test.YtmnmhehddbemkaaWayC7
/- The proof engine: calls that are handed own things, and hand back own things. -/
namespace Go.Eng

/-- Names by a list. -/
def rl (l : List Nat) : Nat → Nat := fun k => l.getD k 0

def updl (g : Nat → Value) : List (Nat × Value) → Nat → Value
  | [] => g
  | (n, v) :: r => upd (updl g r) n v
theorem updl_ne (g : Nat → Value) : ∀ (ps : List (Nat × Value)) (j : Nat), (∀ p ∈ ps, p.1 ≠ j) → updl g ps j = g j
  | [], _, _ => rfl
  | (n, v) :: r, j, h => by
    rw [updl, upd_ne _ _ _ _ (fun e => h (n, v) (by simp) e.symm), updl_ne g r j fun p hp => h p (by simp [hp])]
theorem updl_at (g : Nat → Value) : ∀ (ps : List (Nat × Value)) (i : Nat) (p : Nat × Value), ps[i]? = some p → (ps.map (·.1)).Nodup → updl g ps p.1 = p.2
  | [], _, _, h, _ => by simp at h
  | (n, v) :: r, 0, p, h, _ => by
    simp only [List.getElem?_cons_zero, Option.some.injEq] at h
    subst h
    rw [updl, upd_same]
  | (n, v) :: r, i + 1, p, h, hn => by
    simp only [List.getElem?_cons_succ] at h
    simp only [List.map_cons, List.nodup_cons] at hn
    rw [updl, upd_ne, updl_at g r i p h hn.2]
    intro e
    exact hn.1 (by rw [← e]; exact List.mem_map_of_mem (List.mem_of_getElem? h))

theorem Den.updl {g : Nat → Value} {H : Hp} {s : SV} {x : Value} : ∀ (ps : List (Nat × Value)), (∀ p ∈ ps, s.noK p.1 = true) → Den g H s x → Den (Eng.updl g ps) H s x
  | [], _, h => h
  | (n, v) :: r, hn, h => by
    have ih := Den.updl r (fun p hp => hn p (by simp [hp])) h
    exact Den.upd (k := n) (fun j hj => upd_ne _ _ _ j hj) s x (hn (n, v) (by simp)) ih
theorem OwnOk.updl {mine : Nat → Prop} {g : Nat → Value} {H : Hp} {w : World} {j : Nat} {o : SO} : ∀ (ps : List (Nat × Value)), (∀ p ∈ ps, j ≠ p.1 ∧ o.noK p.1) → OwnOk mine g H w j o → OwnOk mine (Eng.updl g ps) H w j o
  | [], _, h => h
  | (n, v) :: r, hn, h => (OwnOk.updl r (fun p hp => hn p (by simp [hp])) h).upd (hn (n, v) (by simp))

def mapO (r : Nat → Nat) : List (Nat × SO) → List (Nat × SO)
  | [] => []
  | (k, o) :: l => (r k, renO r o) :: mapO r l

def postLt (M : Nat) : List (Nat × SO) → Bool
  | [] => true
  | (k, .cells _ cs) :: l => bif Nat.blt k M then (bif SV.lts M cs then postLt M l else false) else false
  | (k, .buf _ _) :: l => bif Nat.blt k M then postLt M l else false
  | (k, .tok _) :: l => bif Nat.blt k M then postLt M l else false
  | (k, .obj _) :: l => bif Nat.blt k M then postLt M l else false

def SO.ltM (M : Nat) : SO → Prop
  | .cells _ cs => SV.lts M cs = true
  | _ => True

theorem postLt_spec {M : Nat} : ∀ {l : List (Nat × SO)}, postLt M l = true → ∀ p ∈ l, p.1 < M ∧ p.2.ltM M
  | [], _, p, hp => by cases hp
  | (k, .cells t cs) :: l, h, p, hp => by
    simp only [postLt] at h
    cases h1 : Nat.blt k M with
    | false => simp [h1] at h
    | true =>
      cases h2 : SV.lts M cs with
      | false => simp [h1, h2] at h
      | true =>
        simp only [h1, h2, cond_true] at h
        rcases List.mem_cons.1 hp with rfl | hp
        · exact ⟨Nat.blt_eq.mp h1, h2⟩
        · exact postLt_spec h p hp
  | (k, .buf c nn) :: l, h, p, hp => by
    simp only [postLt] at h
    cases h1 : Nat.blt k M with
    | false => simp [h1] at h
    | true =>
      simp only [h1, cond_true] at h
      rcases List.mem_cons.1 hp with rfl | hp
      · exact ⟨Nat.blt_eq.mp h1, trivial⟩
      · exact postLt_spec h p hp
  | (k, .tok c) :: l, h, p, hp => by
    simp only [postLt] at h
    cases h1 : Nat.blt k M with
    | false => simp [h1] at h
    | true =>
      simp only [h1, cond_true] at h
      rcases List.mem_cons.1 hp with rfl | hp
      · exact ⟨Nat.blt_eq.mp h1, trivial⟩
      · exact postLt_spec h p hp
  | (k, .obj f) :: l, h, p, hp => by
    simp only [postLt] at h
    cases h1 : Nat.blt k M with
    | false => simp [h1] at h
    | true =>
      simp only [h1, cond_true] at h
      rcases List.mem_cons.1 hp with rfl | hp
      · exact ⟨Nat.blt_eq.mp h1, trivial⟩
      · exact postLt_spec h p hp

theorem ownq_mem' {l : List (Nat × SO)} {k : Nat} {o : SO} (h : ownq l k = some o) : (k, o) ∈ l := by
  induction l with
  | nil => simp [ownq] at h
  | cons y l ih =>
    obtain ⟨i, x⟩ := y
    simp only [ownq] at h
    cases hb : Nat.beq i k with
    | true =>
      simp only [hb, cond_true, Option.some.injEq] at h
      rw [← beq_true hb, h]
      simp
    | false =>
      simp only [hb, cond_false] at h
      exact List.mem_cons_of_mem _ (ih h)

theorem ownq_mapO {r : Nat → Nat} {M : Nat} (hr : ∀ i j, i < M → j < M → r i = r j → i = j) : ∀ {l : List (Nat × SO)}, (∀ p ∈ l, p.1 < M) → ∀ {j : Nat} {o' : SO}, ownq (mapO r l) j = some o' → ∃ k o, ownq l k = some o ∧ k < M ∧ r k = j ∧ o' = renO r o
  | [], _, j, o', h => by simp [mapO, ownq] at h
  | (k, o) :: l, hl, j, o', h => by
    simp only [mapO, ownq] at h
    cases hb : Nat.beq (r k) j with
    | true =>
      simp only [hb, cond_true, Option.some.injEq] at h
      exact ⟨k, o, by simp [ownq], hl (k, o) (by simp), beq_true hb, h.symm⟩
    | false =>
      simp only [hb, cond_false] at h
      obtain ⟨k', o2, h1, h2, h3, h4⟩ := ownq_mapO hr (fun p hp => hl p (by simp [hp])) h
      refine ⟨k', o2, ?_, h2, h3, h4⟩
      have : Nat.beq k k' = false := by
        cases hk : Nat.beq k k' with
        | false => rfl
        | true =>
          rw [beq_true hk, h3] at hb
          simp at hb
      simp only [ownq, this, cond_false]
      exact h1
theorem ownq_mapO_none {r : Nat → Nat} : ∀ {l : List (Nat × SO)} {j : Nat}, ownq (mapO r l) j = none → ∀ k o, ownq l k = some o → r k ≠ j
  | [], _, _, k, o, h => by simp [ownq] at h
  | (i, x) :: l, j, hn, k, o, h => by
    simp only [mapO, ownq] at hn
    cases hb : Nat.beq (r i) j with
    | true => rw [hb] at hn; cases hn
    | false =>
      rw [hb, cond_false] at hn
      simp only [ownq] at h
      cases hk : Nat.beq i k with
      | true =>
        rw [← beq_true hk]
        exact beq_false hb
      | false =>
        rw [hk, cond_false] at h
        exact ownq_mapO_none hn k o h

/-- Names left out. -/
def outK {α : Type} : List Nat → List (Nat × SO) → (List (Nat × SO) → α) → α
  | [], own, c => c own
  | k :: l, own, c => lessK k own fun r => outK l r c
def outO : List Nat → List (Nat × SO) → List (Nat × SO)
  | [], own => own
  | k :: l, own => outO l (rm1 k own)
theorem outK_eq {α : Type} : ∀ (l : List Nat) (own : List (Nat × SO)) (c : List (Nat × SO) → α), outK l own c = c (outO l own)
  | [], _, _ => rfl
  | k :: l, own, c => by simp only [outK, outO, lessK_eq, outK_eq l]
theorem outO_spec : ∀ (l : List Nat) (own : List (Nat × SO)) (j : Nat) (o : SO), ownq (outO l own) j = some o → j ∉ l ∧ ownq own j = some o
  | [], _, _, _, h => ⟨by simp, h⟩
  | k :: l, own, j, o, h => by
    have h1 := outO_spec l (rm1 k own) j o h
    have h2 := rm1_less k own j o h1.2
    exact ⟨by simp [h1.1, h2.1], h2.2⟩

def nodB : List Nat → Bool
  | [] => true
  | x :: l => bif hasB x l then false else nodB l
  where
  hasB (x : Nat) : List Nat → Bool
  | [] => false
  | y :: l => bif Nat.beq x y then true else hasB x l
theorem hasB_spec {x : Nat} : ∀ {l : List Nat}, nodB.hasB x l = false → x ∉ l
  | [], _, h => by cases h
  | y :: l, h, hm => by
    simp only [nodB.hasB] at h
    cases hb : Nat.beq x y with
    | true => simp [hb] at h
    | false =>
      simp only [hb, cond_false] at h
      rcases List.mem_cons.1 hm with e | hm
      · exact beq_false hb e
      · exact hasB_spec h hm
theorem nodB_spec : ∀ {l : List Nat}, nodB l = true → l.Nodup
  | [], _ => List.nodup_nil
  | x :: l, h => by
    simp only [nodB] at h
    cases hb : nodB.hasB x l with
    | true => simp [hb] at h
    | false =>
      simp only [hb, cond_false] at h
      exact List.nodup_cons.2 ⟨hasB_spec hb, nodB_spec h⟩

def freshL (m0 : Nat) (env : List (Nat × SV)) (own : List (Nat × SO)) : List Nat → Bool
  | [] => true
  | k :: l => bif Nat.ble m0 k then (bif freshE k env then (bif freshO k own then freshL m0 env own l else false) else false) else false
theorem freshL_spec {m0 : Nat} {env : List (Nat × SV)} {own : List (Nat × SO)} : ∀ {l : List Nat}, freshL m0 env own l = true → ∀ k ∈ l, m0 ≤ k ∧ freshE k env = true ∧ freshO k own = true
  | [], _, k, hk => by cases hk
  | x :: l, h, k, hk => by
    simp only [freshL] at h
    cases h1 : Nat.ble m0 x with
    | false => simp [h1] at h
    | true =>
      cases h2 : freshE x env with
      | false => simp [h1, h2] at h
      | true =>
        cases h3 : freshO x own with
        | false => simp [h1, h2, h3] at h
        | true =>
          simp only [h1, h2, h3, cond_true] at h
          rcases List.mem_cons.1 hk with rfl | hk
          · exact ⟨Nat.le_of_ble_eq_true h1, h2, h3⟩
          · exact freshL_spec h k hk

def keysLt (pre : List (Nat × SO)) : Nat → Bool
  | 0 => true
  | n + 1 => (ownq pre n).isSome && keysLt pre n
theorem keysLt_spec {pre : List (Nat × SO)} : ∀ {m : Nat}, keysLt pre m = true → ∀ k, k < m → (ownq pre k).isSome = true
  | 0, _, k, hk => absurd hk (Nat.not_lt_zero k)
  | n + 1, h, k, hk => by
    simp only [keysLt, Bool.and_eq_true] at h
    rcases Nat.lt_or_ge k n with h' | h'
    · exact keysLt_spec h.2 k h'
    · rw [show k = n by omega]; exact h.1
def preLt (m : Nat) : List (Nat × SO) → Bool
  | [] => true
  | (k, _) :: l => bif Nat.blt k m then preLt m l else false
theorem preLt_spec {m : Nat} : ∀ {pre : List (Nat × SO)}, preLt m pre = true → ∀ k, (ownq pre k).isSome = true → k < m
  | [], _, k, hk => by simp [ownq] at hk
  | (i, x) :: l, h, k, hk => by
    simp only [preLt] at h
    cases h1 : Nat.blt i m with
    | false => simp [h1] at h
    | true =>
      simp only [h1, cond_true] at h
      simp only [ownq] at hk
      cases hb : Nat.beq i k with
      | true => rw [← beq_true hb]; exact Nat.blt_eq.mp h1
      | false =>
        rw [hb, cond_false] at hk
        exact preLt_spec h k hk

variable {E : Stc} {all rest : List Oper} {o : Oper} {s : List Fr} {env : List (Nat × SV)} {own own2 : List (Nat × SO)} {nx : List Nat}

/-- A call: l are the caller's names of the callee's names, first those that it is handed, then those of what it hands back. -/
theorem at_callG (l : List Nat) {m f : Nat} {pre : List (Nat × SO)} {args : List SV} {Post : SV → List (Nat × SO) → Prop} (hC : Contract E.P f m pre args Post) (hc : callK o.op env (fun f l => some (f, l)) none = some (f, rens (rl l) args))
    (hpre : pres (rl l) own pre) (ho : outK (l.take m) own some = some own2)
    (k : ∀ sv post, Post sv post → sv.lt l.length = true ∧ postLt l.length post = true ∧ Sat E (.ops all rest) s (put o.dst (ren (rl l) sv) env) (mapO (rl l) post ++ own2) nx)
    (hml : Nat.ble m l.length = true := by rfl) (hnd : nodB l = true := by rfl) (hfr : freshL E.cx.m0 env own2 (l.drop m) = true := by rfl) (hk1 : keysLt pre m = true := by rfl) (hk2 : preLt m pre = true := by rfl)
    (hg : guardK all o.guard env true false false = true := by rfl) (hd : dstLt o.dst E.n = true := by rfl) : Sat E (.ops all (o :: rest)) s env own nx := by
  intro a w hat
  have hwant := wanted_of (E := E) (own := own) hg a w hat
  rw [outK_eq] at ho
  simp only [Option.some.injEq] at ho
  subst ho
  have hml := Nat.le_of_ble_eq_true hml
  have hnd := nodB_spec hnd
  have hfr := freshL_spec hfr
  have hk1 := keysLt_spec hk1
  have hk2 := preLt_spec hk2
  have hrl : ∀ i (hi : i < l.length), rl l i = l[i] := fun i hi => by simp [rl, List.getD_eq_getElem?_getD, hi]
  have hinjr : ∀ i j, i < l.length → j < l.length → rl l i = rl l j → i = j := fun i j hi hj e => by
    rw [hrl i hi, hrl j hj] at e
    exact (List.getElem_inj hnd).1 e
  unfold wpList
  rw [if_pos hwant]
  refine .inl ?_
  obtain ⟨hdf, g, H, hdn⟩ := hat
  obtain ⟨vs, hv, hr⟩ := run_call (P := E.P) hdn hC.1 hc
  have hv' : Dens (fun k => g (rl l k)) H args vs := Dens.unren (g' := g) (r := rl l) (fun _ => rfl) args vs hv
  have hok : ∀ k o, ownq pre k = some o → OwnOk (fun _ => True) (fun k => g (rl l k)) H w k o := by
    intro k o hk
    have := hdn.ok (rl l k) _ (pres_spec hpre k o hk)
    cases o with
    | cells ty cs =>
      obtain ⟨b, ws, e, h1, h2, h3, h4, h5⟩ := this
      exact ⟨b, ws, e, Dens.unren (g' := g) (r := rl l) (fun _ => rfl) cs ws h1, h2, h3, h4, trivial⟩
    | tok sz =>
      obtain ⟨ad, q, c, e, h1, hle, h2⟩ := this
      refine ⟨ad, q, c, e, h1, hle, fun p hpa hlt => ?_⟩
      obtain ⟨h3, _, h5⟩ := h2 p hpa hlt
      exact ⟨h3, trivial, h5⟩
    | obj q =>
      obtain ⟨r, o, e, h1, h2, h3, _⟩ := this
      exact ⟨r, o, e, h1, h2, h3, trivial⟩
    | buf rw nn =>
      rcases this with ⟨ty, b, ws, e, h1, h2, h3, h4, h5⟩ | ⟨e, h1⟩
      · exact .inl ⟨ty, b, ws, e, Dens.plain g _ H rw nn ws h1, h2, h3, h4, trivial⟩
      · exact .inr ⟨e, h1⟩
  have hsome : ∀ i, (ownq pre i).isSome = true → (ownq own (rl l i)).isSome = true := fun i hi => by
    cases ho : ownq pre i with
    | none => rw [ho] at hi; cases hi
    | some x => rw [pres_spec hpre i x ho]; rfl
  have hinj' : InjOn (fun k => g (rl l k)) pre := by
    intro i j hi hj b hbi hbj
    have h1 := hk2 i hi
    have h2 := hk2 j hj
    exact hinjr i j (by omega) (by omega) (hdn.inj (rl l i) (rl l j) (hsome i hi) (hsome j hj) b hbi hbj)
  have hcall := hC.2 (fun k => g (rl l k)) H w vs hdn.hp hok hinj' hv'
  unfold Oper.wp
  rw [hr]
  refine hcall.mono fun e w' he => ?_
  cases e with
  | panicked c => exact he.elim
  | outgrown => exact he.elim
  | returned x =>
    obtain ⟨g', H', sv, post, hP, hx, hok', hinjp, hon, hb⟩ := he
    obtain ⟨hlt, hpl, hS⟩ := k sv post hP
    have hpl := postLt_spec hpl
    have hout := outO_spec (l.take m) own
    have htake : ∀ i, i < m → rl l i ∈ l.take m := fun i hi => by
      rw [hrl i (by omega)]
      exact List.mem_take_iff_getElem.2 ⟨i, by omega, rfl⟩
    obtain ⟨hd2, hother⟩ := hdn.left (r := rl l) (own2 := outO (l.take m) own) hpre hb hon (fun j o hj => ⟨(hout j o hj).2, fun i hi e => (hout j o hj).1 (by rw [e]; exact htake i (hk2 i hi))⟩)
    -- the new names
    let ps : List (Nat × Value) := (List.range' m (l.length - m)).map fun i => (rl l i, g' i)
    have hps : ∀ p ∈ ps, ∃ i, m ≤ i ∧ i < l.length ∧ p = (rl l i, g' i) := fun p hp => by
      obtain ⟨i, hi, rfl⟩ := List.mem_map.1 hp
      rw [List.mem_range'_1] at hi
      exact ⟨i, hi.1, by omega, rfl⟩
    have hpd : ∀ p ∈ ps, p.1 ∈ l.drop m := fun p hp => by
      obtain ⟨i, h1, h2, rfl⟩ := hps p hp
      rw [hrl i h2]
      exact List.mem_drop_iff_getElem.2 ⟨i - m, by omega, by simp [show m + (i - m) = i by omega]⟩
    have hpsn : (ps.map (·.1)).Nodup := by
      rw [List.map_map]
      have key : ∀ q : List Nat, q.Nodup → (∀ i ∈ q, i < l.length) → (q.map ((fun p : Nat × Value => p.1) ∘ fun i => (rl l i, g' i))).Nodup := by
        intro q
        induction q with
        | nil => intro _ _; exact List.nodup_nil
        | cons i q ih =>
          intro h1 h2
          rw [List.nodup_cons] at h1
          rw [List.map_cons, List.nodup_cons]
          refine ⟨fun hm => ?_, ih h1.2 fun i hi => h2 i (by simp [hi])⟩
          obtain ⟨j, hj, e⟩ := List.mem_map.1 hm
          have := hinjr j i (h2 j (by simp [hj])) (h2 i (by simp)) e
          exact h1.1 (this ▸ hj)
      exact key _ (List.nodup_range' ..) fun i hi => by rw [List.mem_range'_1] at hi; omega
    have hgk : ∀ i, i < l.length → updl g ps (rl l i) = g' i := fun i hi => by
      rcases Nat.lt_or_ge i m with h | h
      · rw [updl_ne, hb.fix i h]
        intro p hp e
        obtain ⟨j, h1, h2, rfl⟩ := hps p hp
        have := hinjr j i h2 hi e
        omega
      · have hidx : ps[i - m]? = some (rl l i, g' i) := by
          simp only [ps, List.getElem?_map]
          rw [List.getElem?_range' (by omega)]
          simp [show m + (i - m) = i by omega]
        exact updl_at g ps (i - m) (rl l i, g' i) hidx hpsn
    have hold : ∀ j, (∀ q ∈ l.drop m, q ≠ j) → updl g ps j = g j := fun j hj => updl_ne g ps j fun p hp e => hj p.1 (hpd p hp) e
    have hren : ∀ i, i < l.length → updl g ps (rl l i) = g' i := hgk
    have hfix : ∀ j, j < E.cx.m0 → updl g ps j = g j := fun j hj => hold j fun q hq e => by have := (hfr q hq).1; omega
    have hpost : ∀ k o, ownq post k = some o → OwnOk E.cx.mine (updl g ps) H' w' (rl l k) (renO (rl l) o) := by
      intro k o hk
      have hkl := hpl (k, o) (ownq_mem' hk)
      have h0 := hok' k o hk
      have hge := hgk k hkl.1
      cases o with
      | cells ty cs =>
        obtain ⟨b, ws, e, q1, q2, q3, q4, q5⟩ := h0
        exact ⟨b, ws, by rw [hge]; exact e, Dens.ren (g := g') (g' := updl g ps) (r := rl l) (m := l.length) hren cs ws hkl.2 q1, q2, q3, q4, (hother b q5).1⟩
      | tok sz =>
        obtain ⟨ad, q, c, e, q1, hle, q2⟩ := h0
        refine ⟨ad, q, c, by rw [hge]; exact e, q1, hle, fun p hpa hlt => ?_⟩
        obtain ⟨q3, q4, q5⟩ := q2 p hpa hlt
        exact ⟨q3, (hother _ q4).1, q5⟩
      | obj q =>
        obtain ⟨r, o, e, q1, q2, q3, q4⟩ := h0
        exact ⟨r, o, by rw [hge]; exact e, q1, q2, q3, (hother r q4).1⟩
      | buf rw nn =>
        rcases h0 with ⟨ty, b, ws, e, q1, q2, q3, q4, q5⟩ | ⟨e, q1⟩
        · exact .inl ⟨ty, b, ws, by rw [hge]; exact e, Dens.plain g' _ H' rw nn ws q1, q2, q3, q4, (hother b q5).1⟩
        · exact .inr ⟨by rw [hge]; exact e, q1⟩
    have hown2 : ∀ j o, ownq (outO (l.take m) own) j = some o → (∀ q ∈ l.drop m, j ≠ q ∧ o.noK q) := fun j o hj q hq => freshO_own (hfr q hq).2.2 hj
    have hd3 : Dn E.cx (updl g ps) H' env (mapO (rl l) post ++ outO (l.take m) own) E.n a.tmps w' := by
      refine { size := hd2.size, den := fun t => Den.updl ps (fun p hp => freshE_nth t (hfr p.1 (hpd p hp)).2.1) (hd2.den t), ok := fun j o hj => ?_, inj := fun i j hi hj b hbi hbj => ?_, hp := hd2.hp, base := { hd2.base with fix := fun j hj => by rw [hfix j hj]; exact hd2.base.fix j hj } }
      · rw [ownq_append] at hj
        cases hq : ownq (mapO (rl l) post) j with
        | some o' =>
          rw [hq] at hj
          simp only [Option.some_or, Option.some.injEq] at hj
          subst hj
          obtain ⟨k, o2, q1, _, rfl, rfl⟩ := ownq_mapO hinjr (fun p hp => (hpl p hp).1) hq
          exact hpost k o2 q1
        | none =>
          rw [hq, Option.none_or] at hj
          exact (hd2.ok j o hj).updl ps fun p hp => hown2 j o hj p.1 (hpd p hp)
      · have cls : ∀ j b, (ownq (mapO (rl l) post ++ outO (l.take m) own) j).isSome = true → blkOf (updl g ps j) = some b →
            (∃ k o, ownq post k = some o ∧ rl l k = j ∧ blkOf (g' k) = some b ∧ (w.heap.size ≤ b ∨ preX (fun k => g (rl l k)) pre b)) ∨ (∃ o, ownq (outO (l.take m) own) j = some o ∧ blkOf (g j) = some b) := by
          intro j b hj hbj
          rw [ownq_append] at hj
          cases hq : ownq (mapO (rl l) post) j with
          | some o' =>
            obtain ⟨k, o2, q1, q2, rfl, rfl⟩ := ownq_mapO hinjr (fun p hp => (hpl p hp).1) hq
            rw [hgk k q2] at hbj
            exact .inl ⟨k, o2, q1, rfl, hbj, (hok' k o2 q1).blk_mine hbj⟩
          | none =>
            rw [hq, Option.none_or] at hj
            cases ho : ownq (outO (l.take m) own) j with
            | none => rw [ho] at hj; cases hj
            | some o => exact .inr ⟨o, rfl, by rw [← hold j fun q hq e => (hown2 j o ho q hq).1 e.symm]; exact hbj⟩
        rcases cls i b hi hbi with ⟨k, o1, p1, rfl, p2, p3⟩ | ⟨o1, p1, p2⟩ <;> rcases cls j b hj hbj with ⟨k', o2, q1, rfl, q2, q3⟩ | ⟨o2, q1, q2⟩
        · rw [hinjp k k' (by rw [p1]; rfl) (by rw [q1]; rfl) b p2 q2]
        · exact absurd q2 ((hother b p3).2 j o2 q1)
        · exact absurd p2 ((hother b q3).2 i o1 p1)
        · exact hd2.inj i j (by rw [p1]; rfl) (by rw [q1]; rfl) b p2 q2
    exact hS _ _ (At.put hdf hd3 (Den.ren (g := g') (g' := updl g ps) (r := rl l) (m := l.length) hren sv x hlt hx) fun d e => by rw [e] at hd; exact Nat.blt_eq.mp hd)

/-- The same, where the answer is told. -/
theorem at_callF (l : List Nat) {m f : Nat} {pre q q' : List (Nat × SO)} {args : List SV} {sv : SV} (hC : Contract E.P f m pre args fun s post => s = sv ∧ post = q) (hc : callK o.op env (fun f l => some (f, l)) none = some (f, rens (rl l) args))
    (hpre : pres (rl l) own pre) (ho : outK (l.take m) own some = some own2) (hq : mapO (rl l) q = q') (hpl : postLt l.length q = true)
    (k : Sat E (.ops all rest) s (put o.dst (ren (rl l) sv) env) (q' ++ own2) nx) (hlt : sv.lt l.length = true := by rfl)
    (hml : Nat.ble m l.length = true := by rfl) (hnd : nodB l = true := by rfl) (hfr : freshL E.cx.m0 env own2 (l.drop m) = true := by rfl) (hk1 : keysLt pre m = true := by rfl) (hk2 : preLt m pre = true := by rfl)
    (hg : guardK all o.guard env true false false = true := by rfl) (hd : dstLt o.dst E.n = true := by rfl) : Sat E (.ops all (o :: rest)) s env own nx :=
  at_callG l hC hc hpre ho (fun sv' post hP => by
    obtain ⟨rfl, rfl⟩ := hP
    rw [hq]
    exact ⟨hlt, hpl, k⟩) hml hnd hfr hk1 hk2 hg hd

theorem flat_drop {sz : Nat} : ∀ {rows : List (List DV)} (i : Nat) (q : List SV), (∀ r ∈ rows, r.length = sz) → i ≤ rows.length → (flatU rows ++ q).drop (i * sz) = flatU (rows.drop i) ++ q
  | rows, 0, q, _, _ => by simp
  | [], i + 1, q, _, h => by simp at h
  | r :: rows, i + 1, q, hr, h => by
    have h1 : r.length = sz := hr r (by simp)
    have ih := flat_drop (rows := rows) i q (fun x hx => hr x (by simp [hx])) (by simpa using h)
    have e : flatU (r :: rows) = r.map up ++ flatU rows := by simp [flatU]
    rw [e, Nat.add_mul, Nat.one_mul, List.append_assoc, show i * sz + sz = (r.map up).length + i * sz by rw [List.length_map, h1]; omega, List.drop_append, Nat.add_sub_cancel_left, ih, List.drop_eq_nil_of_le (by omega)]
    rfl
theorem flat_get {sz i : Nat} {rows : List (List DV)} {r : List DV} (q : List SV) (hr : ∀ r ∈ rows, r.length = sz) (hi : rows[i]? = some r) : ((flatU rows ++ q).drop (i * sz)).take sz = r.map up := by
  have hlt := (List.getElem?_eq_some_iff.1 hi).1
  rw [flat_drop i q hr (by omega), List.drop_eq_getElem_cons hlt]
  have e : rows[i] = r := (List.getElem?_eq_some_iff.1 hi).2
  rw [e]
  have h1 : (r.map up).length = sz := by rw [List.length_map]; exact hr r (List.mem_of_getElem? hi)
  have e2 : flatU (r :: rows.drop (i + 1)) = r.map up ++ flatU (rows.drop (i + 1)) := by simp [flatU]
  rw [e2, List.append_assoc, ← h1, List.take_left']
  rfl

/-- A row of an owned slice is read. -/
theorem does_loadB {P : Program} {T : Nat → TI} (hT : ∀ t, T t = tiOf P t) {o : Oper} {t k off sz i : Nat} {x : Operand} {rows : List (List DV)} {n : Nat} {row : List DV} (ho : o.op = .load t x) (hx : ev env x = .ptr k off) (hk : ownq own k = some (.buf rows n)) (hs : (T t).kd = .struct) (hsz : (T t).size = sz) (hoff : off = i * sz) (hr : ∀ r ∈ rows, r.length = sz) (hi : rows[i]? = some row) :
    DoesV P o env own (.agg (row.map up)) := by
  subst hoff
  have h1 := flat_get (anys n) hr hi
  have h2 : sz ≤ ((bufC rows n).drop (i * sz)).length := by
    have := congrArg List.length h1
    rw [List.length_take, List.length_map, hr row (List.mem_of_getElem? hi)] at this
    rw [bufC]
    omega
  rw [hT t] at hs hsz
  rw [← hsz] at h1 h2
  have e : row.map up = ((bufC rows n).drop (i * (tiOf P t).size)).take (tiOf P t).size := h1.symm
  rw [e]
  refine does_load_buf (by rw [hx]) hk fun own' ty hk' => ?_
  rw [← hsz] at hx
  exact does_load_own ho hx hk' hs h2
/-- A plain cell of one. -/
theorem does_loadB1 {P : Program} {T : Nat → TI} (hT : ∀ t, T t = tiOf P t) {o : Oper} {t k off sz i j : Nat} {x : Operand} {rows : List (List DV)} {n : Nat} {row : List DV} {d : DV} (ho : o.op = .load t x) (hx : ev env x = .ptr k off) (hk : ownq own k = some (.buf rows n)) (hs : (T t).kd ≠ .struct) (hs' : (T t).kd ≠ .other) (hoff : off = i * sz + j) (hr : ∀ r ∈ rows, r.length = sz) (hi : rows[i]? = some row) (hj : row[j]? = some d) :
    DoesV P o env own (up d) := by
  subst hoff
  have h1 := flat_get (anys n) hr hi
  have hjl := (List.getElem?_eq_some_iff.1 hj).1
  have h2 : (bufC rows n)[i * sz + j]? = some (up d) := by
    have h3 := congrArg (fun l => l[j]?) h1
    simp only [List.getElem?_map, hj, Option.map_some] at h3
    rw [List.getElem?_take, if_pos (by rw [hr row (List.mem_of_getElem? hi)] at hjl; exact hjl), List.getElem?_drop] at h3
    exact h3
  rw [hT t] at hs hs'
  exact does_load_buf hx hk fun own' ty hk' => does_load_own1 ho hx hk' hs hs' h2

theorem flatU_cons (r : List DV) (l : List (List DV)) : flatU (r :: l) = r.map up ++ flatU l := by simp [flatU]
theorem splice_row {sz i n : Nat} {rows : List (List DV)} {r : List DV} (hr : ∀ r ∈ rows, r.length = sz) (hi : i < rows.length) (h : r.length = sz) : splice (r.map up) (i * sz) (bufC rows n) = bufC (rows.set i r) n := by
  have e1 : rows = rows.take i ++ rows[i] :: rows.drop (i + 1) := by rw [← List.drop_eq_getElem_cons hi, List.take_append_drop]
  have h1 : (flatU (rows.take i)).length = i * sz := by
    rw [flatU_len fun q hq => hr q (List.mem_of_mem_take hq), List.length_take, Nat.min_eq_left (by omega)]
  have h2 : (rows[i].map up).length = sz := by rw [List.length_map]; exact hr _ (List.getElem_mem hi)
  have e2 : bufC rows n = flatU (rows.take i) ++ (rows[i].map up ++ (flatU (rows.drop (i + 1)) ++ anys n)) := by
    have e4 := congrArg flatU e1
    rw [flatU_app] at e4
    have e5 := flatU_cons rows[i] (rows.drop (i + 1))
    rw [bufC, e4, e5, List.append_assoc, List.append_assoc]
  have e3 : bufC (rows.set i r) n = flatU (rows.take i) ++ (r.map up ++ (flatU (rows.drop (i + 1)) ++ anys n)) := by
    rw [bufC, List.set_eq_take_append_cons_drop, if_pos hi, flatU_app, List.append_assoc]
    have e5 := flatU_cons r (rows.drop (i + 1))
    rw [e5, List.append_assoc]
  rw [e2, e3]
  unfold splice
  rw [← h1, List.take_left, List.length_map, h, ← h2, List.append_assoc]
  congr 1
  congr 1
  rw [List.drop_append, Nat.add_sub_cancel_left, List.drop_eq_nil_of_le (by omega), List.nil_append, List.drop_left]

/-- A row of an owned slice is written. -/
theorem doesWS_row {P : Program} {T : Nat → TI} (hT : ∀ t, T t = tiOf P t) {o : Oper} {t k off sz i n : Nat} {x y : Operand} {rows : List (List DV)} (row : List DV) (ho : o.op = .store t x y) (hx : ev env x = .ptr k off) (hy : cellsOf (ev env y) = some (row.map up)) (hs : (T t).kd ≠ .other) (hsz : (T t).size = sz) (hoff : off = i * sz)
    (hr : ∀ r ∈ rows, r.length = sz) (hi : i < rows.length) (hl : row.length = sz) : DoesWS P o env own k (.buf rows n) (.buf (rows.set i row) n) := by
  subst hoff
  rw [hT t] at hs hsz
  refine doesWS_buf hx fun ty => ?_
  rw [← splice_row hr hi hl]
  refine doesW_store ho hx hy hs (by rw [List.length_map, hl, hsz]) ?_
  rw [List.length_map, hl, bufC, List.length_append, flatU_len hr]
  have : (i + 1) * sz ≤ rows.length * sz := Nat.mul_le_mul_right _ hi
  rw [Nat.add_mul, Nat.one_mul] at this
  omega

/-- The same, in the text's order. -/
theorem at_storeB {T : Nat → TI} (hT : ∀ t, T t = tiOf E.P t) {t k off sz i n : Nat} {x y : Operand} {rows : List (List DV)} (row : List DV) (ho : o.op = .store t x y) (hdst : o.dst = none) (hx : ev env x = .ptr k off) (hk : ownq own k = some (.buf rows n)) (hy : cellsOf (ev env y) = some (row.map up)) (hs : (T t).kd ≠ .other) (hsz : (T t).size = sz) (hoff : off = i * sz)
    (hr : ∀ r ∈ rows, r.length = sz) (hi : i < rows.length) (hl : row.length = sz) (hso : setOwnK k (.buf (rows.set i row) n) own some = some own2) (kk : Sat E (.ops all rest) s env own2 nx)
    (hg : guardK all o.guard env true false false = true := by rfl) : Sat E (.ops all (o :: rest)) s env own nx := by
  intro a w hat
  have hwant := wanted_of (E := E) (own := own) hg a w hat
  rw [setOwnK_eq] at hso
  simp only [Option.some.injEq] at hso
  subst hso
  unfold wpList
  rw [if_pos hwant]
  refine .inl ?_
  obtain ⟨hdf, g, H, hdn⟩ := hat
  obtain ⟨w', h1, h2⟩ := doesWS_row (own := own) hT row ho hx hy hs hsz hoff hr hi hl E.cx g H E.n own env a w hdn hdn hk
  unfold Oper.wp
  rw [h1]
  show wpList E.P all.toArray (KK E s) rest (a.put o.dst undef) w'
  rw [hdst]
  exact kk _ _ ⟨hdf, g, H, h2⟩
end Go.Eng
/- The proof engine: owned slices are cut, and cleared. -/
namespace Go.Eng
open Go.RowKit

variable {E : Stc} {all rest : List Oper} {o : Oper} {s : List Fr} {env : List (Nat × SV)} {own own2 : List (Nat × SO)} {nx : List Nat} {P : Program}

theorem does_sliceS_l {T : Nat → TI} (hT : ∀ t, T t = tiOf P t) {o : Oper} {t sz k off m c : Nat} {x lo : Operand} {kk : IntKind} {n : Int} (ho : o.op = .slice t x (some lo) none none) (hx : ev env x = .sl k off m c) (hh : ev env lo = .int kk n)
    (h0 : 0 ≤ n ∧ n < m) (hmc : m ≤ c) (hkT : lstT T t sz = true) : DoesV P o env own (.sl k (off + n.toNat * sz) (m - n.toNat) (c - n.toNat)) := by
  obtain ⟨hk, hz, hk2, _⟩ := lstT_spec hT hkT
  obtain ⟨i1, h1⟩ := slice_ti hk
  obtain ⟨i2, d2, h2⟩ := ti_spec hk2
  have he := prog_elem h1.und
  refine does_val fun cx g H q a w hd => ?_
  have e1 := hd.ev x
  rw [hx] at e1
  have e2 := hd.ev lo
  rw [hh] at e2
  have e2 : a.eval lo = .int kk n := e2
  have hu : P.underlying t = some (.slice (P.elem t)) := by rw [he]; exact h1.und
  have hs := h2.size
  rw [hz] at hs
  rcases e1 with ⟨b, hg, e1⟩ | ⟨_, hm, _⟩
  · refine ⟨sliced (some ⟨b, off, none⟩) n.toNat m c sz, ?_, .inl ⟨b, hg, ?_⟩⟩
    · simp [execOp, ho, e1, e2, run_sliceAt_slice w t _ _ _ _ hu, run_slice_l w t (some ⟨b, off, none⟩) m c hu kk n h0.1 (by omega), he, run_sizeOf' h2.info, ← hs]
    · simp [sliced, show c ≠ n.toNat by omega, Addr.add]
  · omega

theorem does_sliceS_h {T : Nat → TI} (hT : ∀ t, T t = tiOf P t) {o : Oper} {t sz k off m c : Nat} {x hi : Operand} {kk : IntKind} {n : Int} (ho : o.op = .slice t x none (some hi) none) (hx : ev env x = .sl k off m c) (hh : ev env hi = .int kk n)
    (h0 : 0 ≤ n ∧ n ≤ c) (hkT : lstT T t sz = true) : DoesV P o env own (.sl k off n.toNat c) := by
  obtain ⟨hk, hz, hk2, _⟩ := lstT_spec hT hkT
  obtain ⟨i1, h1⟩ := slice_ti hk
  obtain ⟨i2, d2, h2⟩ := ti_spec hk2
  have he := prog_elem h1.und
  refine does_val fun cx g H q a w hd => ?_
  have e1 := hd.ev x
  rw [hx] at e1
  have e2 := hd.ev hi
  rw [hh] at e2
  have e2 : a.eval hi = .int kk n := e2
  have hu : P.underlying t = some (.slice (P.elem t)) := by rw [he]; exact h1.und
  have hs := h2.size
  rw [hz] at hs
  rcases e1 with ⟨b, hg, e1⟩ | ⟨h3, hm, hc, hg, ad, e1⟩
  · refine ⟨sliced (some ⟨b, off, none⟩) 0 n.toNat c sz, ?_, .inl ⟨b, hg, ?_⟩⟩
    · simp [execOp, ho, e1, e2, run_sliceAt_slice w t _ _ _ _ hu, run_slice_h w t (some ⟨b, off, none⟩) m c hu kk n h0.1 (by omega), he, run_sizeOf' h2.info, ← hs]
    · simp [sliced, Addr.add]
  · subst hm hc
    refine ⟨sliced ad 0 n.toNat 0 sz, ?_, .inr ⟨h3, by omega, rfl, hg, ad, ?_⟩⟩
    · simp [execOp, ho, e1, e2, run_sliceAt_slice w t _ _ _ _ hu, run_slice_h w t ad 0 0 hu kk n h0.1 (by omega), he, run_sizeOf' h2.info, ← hs]
    · simp [sliced]
      omega

theorem does_sliceS_hm {T : Nat → TI} (hT : ∀ t, T t = tiOf P t) {o : Oper} {t sz k off m c : Nat} {x hi mx : Operand} {kk k2 : IntKind} {n : Int} (ho : o.op = .slice t x none (some hi) (some mx)) (hx : ev env x = .sl k off m c) (hh : ev env hi = .int kk n) (hm : ev env mx = .int k2 n)
    (h0 : 0 ≤ n ∧ n ≤ c) (hkT : lstT T t sz = true) : DoesV P o env own (.sl k off n.toNat n.toNat) := by
  obtain ⟨hk, hz, hk2, _⟩ := lstT_spec hT hkT
  obtain ⟨i1, h1⟩ := slice_ti hk
  obtain ⟨i2, d2, h2⟩ := ti_spec hk2
  have he := prog_elem h1.und
  refine does_val fun cx g H q a w hd => ?_
  have e1 := hd.ev x
  rw [hx] at e1
  have e2 := hd.ev hi
  rw [hh] at e2
  have e2 : a.eval hi = .int kk n := e2
  have e3 := hd.ev mx
  rw [hm] at e3
  have e3 : a.eval mx = .int k2 n := e3
  have hu : P.underlying t = some (.slice (P.elem t)) := by rw [he]; exact h1.und
  have hs := h2.size
  rw [hz] at hs
  rcases e1 with ⟨b, hg, e1⟩ | ⟨h3, hm, hc, hg, ad, e1⟩
  · refine ⟨sliced (some ⟨b, off, none⟩) 0 n.toNat n.toNat sz, ?_, .inl ⟨b, hg, ?_⟩⟩
    · simp [execOp, ho, e1, e2, e3, run_sliceAt_slice w t _ _ _ _ hu, run_slice_hm w t (some ⟨b, off, none⟩) m c hu kk k2 n n h0.1 (Int.le_refl _) (by omega), he, run_sizeOf' h2.info, ← hs]
    · simp [sliced, Addr.add]
  · subst hm hc
    refine ⟨sliced ad 0 n.toNat n.toNat sz, ?_, .inr ⟨h3, by omega, by omega, hg, ad, ?_⟩⟩
    · simp [execOp, ho, e1, e2, e3, run_sliceAt_slice w t _ _ _ _ hu, run_slice_hm w t ad 0 0 hu kk k2 n n h0.1 (Int.le_refl _) (by omega), he, run_sizeOf' h2.info, ← hs]
    · simp [sliced]
      omega

/-- The rest of an owned slice is cleared. -/
theorem at_clearS {T : Nat → TI} {t k off m c sz r : Nat} {x : Operand} {rows : List (List DV)} (rows1 rows2 : List (List DV)) {cl : Call} (hT : ∀ t, T t = tiOf E.P t) (ho : o.op = .call cl) (hcl : cl.callee = .builtin .clear) (ha : cl.args = #[x]) (hat : cl.argTypes = #[t])
    (hx : ev env x = .sl k off m c) (hk : ownq own k = some (.buf rows r)) (hrows : rows = rows1 ++ rows2) (hr : ∀ q ∈ rows, q.length = sz) (hoff : off = rows1.length * sz) (hm : m = rows2.length) (h0 : 0 < m) (hso : setOwnK k (.buf rows1 (m * sz + r)) own some = some own2)
    (kk : Sat E (.ops all rest) s (put o.dst (.tup []) env) own2 nx)
    (hkT : lstT T t sz = true := by rfl) (hones : SV.ones (constsS (T (T t).elem).zero) = true := by rfl)
    (hg : guardK all o.guard env true false false = true := by rfl) (hd : dstLt o.dst E.n = true := by rfl) : Sat E (.ops all (o :: rest)) s env own nx := by
  subst hrows hoff hm
  rw [setOwnK_eq] at hso
  simp only [Option.some.injEq] at hso
  subst hso
  intro a w hat0
  have hwant := wanted_of (E := E) (own := own) hg a w hat0
  unfold wpList
  rw [if_pos hwant]
  refine .inl ?_
  obtain ⟨hdf, g, H, hdn⟩ := hat0
  obtain ⟨hk1, hz, hk2, hz2, hz0⟩ := lstT_spec hT hkT
  rw [hT (T t).elem, hT t] at hones
  obtain ⟨i1, h1⟩ := slice_ti hk1
  obtain ⟨i2, d2, h2⟩ := ti_spec hk2
  obtain ⟨z, hz3, hz4⟩ := zero_spec h2 hz2
  have hzs : z.cells.size = sz := by rw [← hz0, hz4, Array.length_toList]
  have ex := hdn.ev x
  rw [hx] at ex
  rcases ex with ⟨b, hgk, ex⟩ | ⟨_, hn0, _⟩
  rotate_left
  · omega
  rcases hdn.ok k _ hk with ⟨ty, b', vs, e0, hv, hv1, hw, hH, hmine⟩ | ⟨e0, _⟩
  rotate_left
  · rw [e0] at hgk; cases hgk
  have hbb : b' = b := by rw [e0] at hgk; simpa using hgk
  subst hbb
  have hv0 : Dens g H (flatU rows1 ++ (flatU rows2 ++ anys r)) vs := by rw [bufC, flatU_app, List.append_assoc] at hv; exact hv
  obtain ⟨v1, v2, rfl, hva, hvb⟩ := Dens.append_inv hv0
  obtain ⟨v3, v4, rfl, hvc, hvd⟩ := Dens.append_inv hvb
  have hl1 : v1.length = rows1.length * sz := by rw [hva.length, flatU_len fun q hq => hr q (by simp [hq])]
  have hl3 : v3.length = rows2.length * sz := by rw [hvc.length, flatU_len fun q hq => hr q (by simp [hq])]
  have hl4 : v4.length = r := by rw [hvd.length]; simp [anys]
  have hz1 : ∀ v ∈ z.cells.toList, v.oneCell' = true := by
    rw [← hz4]
    exact (constsS_den g H _).oneCells hones
  have hone := zeroCells_one hz1 rows2.length
  have hzl : ((Builtin.zeroCells z.cells rows2.length).toList).length = rows2.length * sz := by rw [Array.length_toList, size_zeroCells, hzs]
  generalize hzv : (Builtin.zeroCells z.cells rows2.length).toList = zv at hone hzl
  have hst := run_storeCells_at E.P b' v1.length ty zv 0 (v1 ++ (v3 ++ v4)).toArray w hw (by simp [hzl, hl3]) hone
  have hsp : ((v1 ++ (v3 ++ v4)).toArray.toList.take (v1.length + 0) ++ zv ++ (v1 ++ (v3 ++ v4)).toArray.toList.drop (v1.length + 0 + zv.length)).toArray = (v1 ++ zv ++ v4).toArray := by
    congr 1
    simp only [Nat.add_zero]
    rw [List.take_left, List.drop_append, Nat.add_sub_cancel_left, List.drop_eq_nil_of_le (by omega), List.nil_append, List.drop_append, hzl, hl3, Nat.sub_self, List.drop_eq_nil_of_le (by omega)]
    rfl
  rw [hsp, hl1] at hst
  obtain ⟨ty', hd1⟩ := hdn.openB hk e0
  have hk' : ownq (setOwn k (.cells ty' (bufC (rows1 ++ rows2) r)) own) k = some (.cells ty' (bufC (rows1 ++ rows2) r)) := by rw [ownq_setOwn, if_pos rfl, hk]; rfl
  have hden : Dens g H (bufC rows1 (rows2.length * sz + r)) (v1 ++ zv ++ v4) := by
    rw [bufC, List.append_assoc]
    exact Dens.append hva (Dens.anys' (by rw [List.length_append, hzl, hl4]))
  have hone2 : ∀ v ∈ v1 ++ zv ++ v4, v.oneCell' = true := by
    intro v hv'
    rcases List.mem_append.1 hv' with hv' | hv'
    · rcases List.mem_append.1 hv' with hv' | hv'
      · exact hv1 v (by simp [hv'])
      · exact hone v hv'
    · exact hv1 v (by simp [hv'])
  have hd2 := hd1.write (new := bufC rows1 (rows2.length * sz + r)) hk' e0 hden hone2
  have hd3 := hd2.closeB (k := k) (ty := ty') (rw' := rows1) (nn := rows2.length * sz + r) (by rw [ownq_setOwn, if_pos rfl, hk']; rfl)
  rw [setOwn_setOwn, setOwn_setOwn] at hd3
  have hrun : (execOp a.eval o).run E.P w = .ok (.value (.tuple #[])) (w.setRow b' (v1 ++ zv ++ v4).toArray) := by
    have : (Builtin.clear_ #[t] o.type #[a.eval x]).run E.P w = .ok (.tuple #[]) (w.setRow b' (v1 ++ zv ++ v4).toArray) := by
      rw [ex]
      obtain ⟨q, hq⟩ : ∃ q, rows2.length = q + 1 := ⟨rows2.length - 1, by omega⟩
      rw [hq] at hzv ⊢
      unfold Builtin.clear_
      simp [run_underlying h1.und, zeroValue, typeInfo, h2.info, hz3, hzv, hst]
    simp only [execOp, ho, resolve, hcl, ha, hat]
    simp [invoke, builtin, this]
  unfold Oper.wp
  rw [hrun]
  exact kk _ _ (At.put hdf hd3 (show Den g H (.tup []) (.tuple #[]) from ⟨[], rfl, trivial⟩) fun d e => by rw [e] at hd; exact Nat.blt_eq.mp hd)
end Go.Eng
namespace Go.Proofs.Ytmnmhehddbemkaa
open Go Go.Eng
set_option maxRecDepth 100000

def cpt {α : Type} (e : α → α → Bool) : α → List α → List α
  | _, [] => []
  | p, x :: l => if e x p then cpt e x l else x :: cpt e x l
def cmpF {α : Type} (e : α → α → Bool) : List α → List α
  | [] => []
  | x :: l => x :: cpt e x l
theorem cpt_snoc {α : Type} (e : α → α → Bool) (x : α) : ∀ (l : List α) (p v : α), (p :: l).getLast? = some v → cpt e p (l ++ [x]) = cpt e p l ++ if e x v then [] else [x]
  | [], p, v, h => by
    simp only [List.getLast?_singleton, Option.some.injEq] at h
    subst h
    simp only [List.nil_append, cpt]
  | y :: l, p, v, h => by
    rw [List.getLast?_cons_cons] at h
    have ih := cpt_snoc e x l y v h
    simp only [List.cons_append, cpt, ih]
    split <;> rfl
theorem cmp_step {α : Type} (e : α → α → Bool) {l : List α} {i : Nat} {u v : α} (hi : 1 ≤ i) (hu : l[i]? = some u) (hv : l[i - 1]? = some v) : cmpF e (l.take (i + 1)) = cmpF e (l.take i) ++ if e u v then [] else [u] := by
  rw [List.take_add_one, hu]
  match l, i, hi with
  | [], _, _ => simp at hu
  | x :: l, i + 1, _ =>
    simp only [List.take_succ_cons, Option.toList_some, List.cons_append, cmpF]
    rw [cpt_snoc e u (l.take i) x v]
    have h2 : i < (x :: l).length := by have := (List.getElem?_eq_some_iff.1 hu).1; omega
    rw [show x :: l.take i = (x :: l).take (i + 1) from rfl, List.getLast?_eq_getElem?, List.length_take, Nat.min_eq_left (by omega), List.getElem?_take, if_pos (by omega)]
    exact hv
theorem cmp_one {α : Type} (e : α → α → Bool) (l : List α) : cmpF e (l.take 1) = l.take 1 := by
  cases l <;> rfl
theorem cpt_len {α : Type} (e : α → α → Bool) : ∀ (l : List α) (p : α), (cpt e p l).length ≤ l.length
  | [], _ => by simp [cpt]
  | x :: l, p => by
    have := cpt_len e l x
    rw [cpt]
    split <;> simp <;> omega
theorem cmp_len {α : Type} (e : α → α → Bool) (l : List α) : (cmpF e l).length ≤ l.length := by
  cases l with
  | nil => simp [cmpF]
  | cons x l => simp [cmpF, cpt_len]

/-- What stands in the cells while the later ones are drawn forward. -/
structure Cin {α : Type} (e : α → α → Bool) (l : List α) (m k : Nat) (B : List α) : Prop where
  len : B.length = l.length
  k1 : 1 ≤ k
  km : k < m
  ml : m ≤ l.length
  lo : B.take k = cmpF e (l.take m)
  hi : B.drop (m - 1) = l.drop (m - 1)
theorem Cin.at {α : Type} {e : α → α → Bool} {l : List α} {m k : Nat} {B : List α} (h : Cin e l m k B) {i : Nat} (hi : m - 1 ≤ i) : B[i]? = l[i]? := by
  have := congrArg (fun q => q[i - (m - 1)]?) h.hi
  simp only [List.getElem?_drop] at this
  rw [show m - 1 + (i - (m - 1)) = i by omega] at this
  exact this
theorem Cin.start {α : Type} {e : α → α → Bool} {l : List α} {i : Nat} {u v : α} (hi : 1 ≤ i) (hil : i < l.length) (hu : l[i]? = some u) (hv : l[i - 1]? = some v) (he : e u v = true) (hc : cmpF e (l.take i) = l.take i) : Cin e l (i + 1) i l :=
  ⟨rfl, hi, by omega, by omega, by rw [cmp_step e hi hu hv, he, hc]; simp, rfl⟩
theorem Cin.skip {α : Type} {e : α → α → Bool} {l : List α} {m k : Nat} {B : List α} {u v : α} (h : Cin e l m k B) (hm : m < l.length) (hu : l[m]? = some u) (hv : l[m - 1]? = some v) (he : e u v = true) : Cin e l (m + 1) k B :=
  ⟨h.len, h.k1, by have := h.km; omega, hm, by have := h.km; rw [cmp_step e (by omega) hu hv, he, h.lo]; simp, by
    apply List.ext_getElem?
    intro j
    rw [List.getElem?_drop, List.getElem?_drop]
    exact h.at (by omega)⟩
theorem Cin.keep {α : Type} {e : α → α → Bool} {l : List α} {m k : Nat} {B : List α} {u v : α} (h : Cin e l m k B) (hm : m < l.length) (hu : l[m]? = some u) (hv : l[m - 1]? = some v) (he : e u v = false) : Cin e l (m + 1) (k + 1) (B.set k u) := by
  have h1 := h.km
  have h2 := h.len
  refine ⟨by simp [h2], by have := h.k1; omega, by omega, hm, ?_, ?_⟩
  · rw [cmp_step e (by have := h.k1; omega) hu hv, he, ← h.lo, List.take_add_one, List.take_set_of_le (by omega), List.getElem?_set_self (by omega)]
    simp
  · apply List.ext_getElem?
    intro j
    rw [List.getElem?_drop, List.getElem?_drop, List.getElem?_set_ne (by omega)]
    exact h.at (by omega)
theorem Cin.done {α : Type} {e : α → α → Bool} {l : List α} {k : Nat} {B : List α} (h : Cin e l l.length k B) : B.take k = cmpF e l ∧ k = (cmpF e l).length := by
  have e1 := h.lo
  rw [List.take_length] at e1
  refine ⟨e1, ?_⟩
  rw [← e1, List.length_take, Nat.min_eq_left]
  have := h.km
  have := h.len
  omega

abbrev slO (l : List Tm) (r : Nat) : List (Nat × SO) := [(0, .buf (rowsT l) r)]
theorem rowsT_set (B : List Tm) (k : Nat) (u : Tm) : (rowsT B).set k (tr u) = rowsT (B.set k u) := by
  rw [rowsT_map, rowsT_map, List.map_set]; cases u; rfl
theorem rowsT_at {l : List Tm} {i : Nat} {u : Tm} (h : l[i]? = some u) : (rowsT l)[i]? = some (tr u) := by
  rw [rowsT_map, List.getElem?_map, h]; cases u; rfl

theorem cmpact_fn (l : List Tm) (c r : Nat) (hl : l.length ≤ 1000000) (hc : l.length ≤ c) (hsm : ∀ t ∈ l, Sm t) :
    Contract Try.prog 83 1 (slO l r) [.sl 0 0 l.length c, .clo 45 []] fun s post => s = .sl 0 0 (cmpF same l).length c ∧ post = slO (cmpF same l) ((l.length - (cmpF same l).length) * 4 + r) := by
  refine contract_of ty_ok [1, 2, 3, 4, 5, 6, 7] Try.func83 rfl (by decide) Try.ntmps83 rfl fun z => ?_
  refine run 400 rfl ?_
  refine at_ifd rfl (fun g => ?_) (fun g => ?_)
  · have e : cmpF same l = l := by
      match l, g with
      | [], _ => rfl
      | [x], _ => rfl
      | _ :: _ :: l, g => simp at g; omega
    refine run 400 rfl ?_
    exact at_ret rfl rfl (slO l r) ⟨by rw [e], by rw [e, Nat.sub_self, Nat.zero_mul, Nat.zero_add]⟩ ⟨rfl, trivial⟩
  refine run 400 rfl ?_
  refine at_loop (fun i : Nat => 1 ≤ i ∧ i ≤ l.length ∧ cmpF same (l.take i) = l.take i) (fun i => [(0, .sl 0 0 l.length c), (1, .clo 45 []), (5, I i)]) (fun _ => slO l r) (fun i => l.length - i) [1, 2, 3, 4, 5, 6, 7]
    1 ⟨by omega, by omega, cmp_one _ _⟩ ⟨SVle.refl _, SVle.refl _, SVle.refl _, trivial⟩ ⟨rfl, trivial⟩ ?_
  rintro i ⟨a1, a2, a3⟩
  refine run 400 rfl ?_
  refine at_ifd rfl (fun g => ?_) (fun g => ?_)
  rotate_left
  · have e : i = l.length := by omega
    subst e
    rw [List.take_length] at a3
    refine run 400 rfl ?_
    exact at_ret rfl rfl (slO l r) ⟨by rw [a3], by rw [a3, Nat.sub_self, Nat.zero_mul, Nat.zero_add]⟩ ⟨rfl, trivial⟩
  have hlt : i < l.length := by omega
  obtain ⟨u, hu⟩ : ∃ u, l[i]? = some u := ⟨_, List.getElem?_eq_getElem hlt⟩
  obtain ⟨v, hv⟩ : ∃ v, l[i - 1]? = some v := ⟨_, List.getElem?_eq_getElem (by omega)⟩
  have hsu := hsm u (List.mem_of_getElem? hu)
  have h63 : ((i : Int) - 1).toNat = i - 1 := by omega
  refine run 400 rfl ?_
  refine at_drawn 11 rfl rfl [(3, .val (.ptr 0 (0 + (i : Int).toNat * 4))), (4, .val u.sv), (8, .val (.ptr 0 (0 + ((i : Int) - 1).toNat * 4))), (9, .val v.sv), (10, .sv (.bl (same u v)))] [1, 2, 3] rfl
    ⟨tsame_fn u v hsu, does_loadB (sz := 4) (i := i - 1) ty_ok rfl rfl rfl rfl rfl (by omega) rowsT_sz (rowsT_at hv), does_indexS ty_ok rfl rfl rfl (by omega) rfl, by constructor <;> omega, does_loadB (sz := 4) (i := i) ty_ok rfl rfl rfl rfl rfl (by omega) rowsT_sz (rowsT_at hu), does_indexS ty_ok rfl rfl rfl (by omega) rfl⟩ ?_
  refine run 400 rfl ?_
  refine at_if rfl (fun q => ?_) (fun q => ?_)
  rotate_left
  · have q : same u v = false := by simpa using q
    refine run 400 rfl ?_
    exact at_again (i + 1) ⟨by omega, by omega, by rw [cmp_step same a1 hu hv, q, a3, List.take_add_one, hu]; rfl⟩ (by omega) ⟨SVle.refl _, SVle.refl _, SVle.of_eq (by show I ((i : Int) + 1) = I ((i + 1 : Nat) : Int); rw [Int.natCast_add]; rfl), trivial⟩ ⟨rfl, trivial⟩
  have q : same u v = true := by simpa using q
  refine run 400 rfl ?_
  refine at_val (.sl 0 (0 + (i : Int).toNat * 4) (l.length - (i : Int).toNat) (c - (i : Int).toNat)) (does_sliceS_l ty_ok rfl rfl rfl (by omega) hc rfl) ?_
  refine run 400 rfl ?_
  have hst := Cin.start a1 hlt hu hv q a3
  clear hsu hu hv q
  refine at_loop (fun p : Nat × Nat × List Tm => 1 ≤ p.1 ∧ Cin same l (i + p.1) p.2.1 p.2.2) (fun p => [(0, .sl 0 0 l.length c), (1, .clo 45 []), (5, I p.2.1), (6, .sl 0 (0 + (i : Int).toNat * 4) (l.length - (i : Int).toNat) (c - (i : Int).toNat)), (7, I p.1)]) (fun p => slO p.2.2 r) (fun p => l.length - p.1) [1, 2, 3, 4, 5, 6, 7]
    (1, i, l) ⟨Nat.le_refl _, hst⟩ ⟨SVle.refl _, SVle.refl _, SVle.refl _, SVle.refl _, SVle.refl _, trivial⟩ ⟨rfl, trivial⟩ ?_
  rintro ⟨j, k, B⟩ ⟨b1, b2⟩
  dsimp only at b1 b2
  have c1 := b2.k1
  have c2 := b2.km
  have c3 := b2.ml
  have c4 := b2.len
  refine run 400 rfl ?_
  refine at_ifd rfl (fun g2 => ?_) (fun g2 => ?_)
  rotate_left
  · have e : i + j = l.length := by simp at g2; omega
    rw [e] at b2
    obtain ⟨d1, d2⟩ := b2.done
    refine run 400 rfl ?_
    refine at_val (.sl 0 (0 + (k : Int).toNat * 4) (l.length - (k : Int).toNat) (c - (k : Int).toNat)) (does_sliceS_l ty_ok rfl rfl rfl (by omega) hc rfl) ?_
    refine at_clearS (rowsT (B.take k)) (rowsT (B.drop k)) ty_ok rfl rfl rfl rfl rfl rfl (by rw [← rowsT_app, List.take_append_drop]) rowsT_sz (by rw [rowsT_len, List.length_take]; omega) (by rw [rowsT_len, List.length_drop]; omega) (by omega) rfl ?_
    refine run 400 rfl ?_
    refine at_val (.sl 0 0 (k : Int).toNat c) (does_sliceS_h (sz := 4) ty_ok rfl rfl rfl (by omega) rfl) ?_
    refine run 400 rfl ?_
    exact at_ret rfl rfl (slO (cmpF same l) ((l.length - (cmpF same l).length) * 4 + r)) ⟨by show SV.sl _ _ _ _ = _; rw [← d2]; rfl, rfl⟩ ⟨by rw [← d2, ← d1]; rfl, trivial⟩
  have hlt2 : i + j < l.length := by simp at g2; omega
  obtain ⟨u, hu⟩ : ∃ u, l[i + j]? = some u := ⟨_, List.getElem?_eq_getElem hlt2⟩
  obtain ⟨v, hv⟩ : ∃ v, l[i + j - 1]? = some v := ⟨_, List.getElem?_eq_getElem (by omega)⟩
  have hsu := hsm u (List.mem_of_getElem? hu)
  have hBu : B[i + j]? = some u := by rw [b2.at (by omega)]; exact hu
  have hBv : B[i + j - 1]? = some v := by rw [b2.at (by omega)]; exact hv
  refine run 400 rfl ?_
  refine at_drawn 11 rfl rfl [(3, .val (.ptr 0 (0 + (i : Int).toNat * 4 + (j : Int).toNat * 4))), (4, .val u.sv), (8, .val (.ptr 0 (0 + (i : Int).toNat * 4 + ((j : Int) - 1).toNat * 4))), (9, .val v.sv), (10, .sv (.bl (same u v)))] [1, 2, 3] rfl
    ⟨tsame_fn u v hsu, does_loadB (sz := 4) (i := i + j - 1) ty_ok rfl rfl rfl rfl rfl (by omega) rowsT_sz (rowsT_at hBv), does_indexS ty_ok rfl rfl rfl (by omega) rfl, by constructor <;> omega, does_loadB (sz := 4) (i := i + j) ty_ok rfl rfl rfl rfl rfl (by omega) rowsT_sz (rowsT_at hBu), does_indexS ty_ok rfl rfl rfl (by omega) rfl⟩ ?_
  refine run 400 rfl ?_
  refine at_if rfl (fun q => ?_) (fun q => ?_)
  rotate_left
  · have q : same u v = true := by simpa using q
    refine run 400 rfl ?_
    exact at_again (j + 1, k, B) ⟨by dsimp only; omega, b2.skip hlt2 hu hv q⟩ (by dsimp only; omega) ⟨SVle.refl _, SVle.refl _, SVle.refl _, SVle.refl _, SVle.of_eq (by show I ((j : Int) + 1) = I ((j + 1 : Nat) : Int); rw [Int.natCast_add]; rfl), trivial⟩ ⟨rfl, trivial⟩
  have q : same u v = false := by simpa using q
  refine run 400 rfl ?_
  refine at_val (.ptr 0 (0 + (i : Int).toNat * 4 + (j : Int).toNat * 4)) (does_indexS ty_ok rfl rfl rfl (by omega) rfl) ?_
  refine at_val u.sv (does_loadB (sz := 4) (i := i + j) ty_ok rfl rfl rfl rfl rfl (by omega) rowsT_sz (rowsT_at hBu)) ?_
  refine at_val (.ptr 0 (0 + (k : Int).toNat * 4)) (does_indexS ty_ok rfl rfl rfl (by omega) rfl) ?_
  refine at_storeB (sz := 4) (i := k) ty_ok (tr u) rfl rfl rfl rfl rfl (fun e => by cases e) rfl (by omega) rowsT_sz (by show k < (rowsT B).length; rw [rowsT_len]; omega) rfl rfl ?_
  refine run 400 rfl ?_
  exact at_again (j + 1, k + 1, B.set k u) ⟨by dsimp only; omega, b2.keep hlt2 hu hv q⟩ (by dsimp only; omega) ⟨SVle.refl _, SVle.refl _, SVle.of_eq (by show I ((k : Int) + 1) = I ((k + 1 : Nat) : Int); rw [Int.natCast_add]; rfl), SVle.refl _, SVle.of_eq (by show I ((j : Int) + 1) = I ((j + 1 : Nat) : Int); rw [Int.natCast_add]; rfl), trivial⟩ ⟨by show some (SO.buf ((rowsT B).set k (tr u)) r) = some (.buf (rowsT (B.set k u)) r); rw [rowsT_set], trivial⟩
end Go.Proofs.Ytmnmhehddbemkaa
namespace Go.Proofs.Ytmnmhehddbemkaa
open Go Go.Eng

/-- A strict order in which of two one is less or they are the same. -/
structure Tot {α : Type} (lt : α → α → Prop) (e : α → α → Bool) : Prop where
  irr : ∀ a, ¬ lt a a
  tr : ∀ a b c, lt a b → lt b c → lt a c
  tri : ∀ a b, lt a b ∨ a = b ∨ lt b a
  eq : ∀ a b, e a b = true ↔ a = b

theorem ss_ext {α : Type} {lt : α → α → Prop} {e : α → α → Bool} (h : Tot lt e) : ∀ {l m : List α}, l.Pairwise lt → m.Pairwise lt → (∀ x, x ∈ l ↔ x ∈ m) → l = m
  | [], [], _, _, _ => rfl
  | [], y :: m, _, _, hx => by have := (hx y).2 (by simp); cases this
  | x :: l, [], _, _, hx => by have := (hx x).1 (by simp); cases this
  | x :: l, y :: m, h1, h2, hx => by
    rw [List.pairwise_cons] at h1 h2
    have hxy : x = y := by
      rcases List.mem_cons.1 ((hx x).1 (by simp)) with q | q
      · exact q
      · rcases List.mem_cons.1 ((hx y).2 (by simp)) with p | p
        · exact p.symm
        · exact absurd (h.tr _ _ _ (h1.1 y p) (h2.1 x q)) (h.irr _)
    subst hxy
    have : l = m := ss_ext h h1.2 h2.2 fun z => by
      constructor
      · intro hz
        rcases List.mem_cons.1 ((hx z).1 (by simp [hz])) with q | q
        · subst q; exact absurd (h1.1 z hz) (h.irr z)
        · exact q
      · intro hz
        rcases List.mem_cons.1 ((hx z).2 (by simp [hz])) with q | q
        · subst q; exact absurd (h2.1 z hz) (h.irr z)
        · exact q
    rw [this]

theorem cpt_ss {α : Type} {lt : α → α → Prop} {e : α → α → Bool} (h : Tot lt e) : ∀ (l : List α) (p : α), (p :: l).Pairwise (fun a b => ¬ lt b a) → (cpt e p l).Pairwise lt ∧ (∀ x ∈ cpt e p l, lt p x) ∧ ∀ x, (x = p ∨ x ∈ cpt e p l) ↔ (x = p ∨ x ∈ l)
  | [], p, _ => ⟨.nil, by simp [cpt], by simp [cpt]⟩
  | y :: l, p, hs => by
    have hs0 := hs
    rw [List.pairwise_cons] at hs
    have hpy := hs.1 y (by simp)
    obtain ⟨a1, a2, a3⟩ := cpt_ss h l y hs.2
    cases hq : e y p with
    | true =>
      have q := (h.eq _ _).1 hq
      subst q
      have e1 : cpt e y (y :: l) = cpt e y l := by rw [cpt, hq]; rfl
      rw [e1]
      refine ⟨a1, a2, fun x => ?_⟩
      rw [a3, List.mem_cons]
      constructor
      · rintro (q | q)
        · exact .inl q
        · exact .inr (.inr q)
      · rintro (q | q | q)
        · exact .inl q
        · exact .inl q
        · exact .inr q
    | false =>
      have hne : ¬ y = p := fun q => by rw [(h.eq _ _).2 q] at hq; cases hq
      have hlt : lt p y := by
        rcases h.tri p y with q | q | q
        · exact q
        · exact absurd q.symm hne
        · exact absurd q hpy
      have e1 : cpt e p (y :: l) = y :: cpt e y l := by rw [cpt, hq]; rfl
      rw [e1]
      refine ⟨List.pairwise_cons.2 ⟨a2, a1⟩, ?_, fun x => ?_⟩
      · intro x hx
        rcases List.mem_cons.1 hx with q | q
        · rw [q]; exact hlt
        · exact h.tr _ _ _ hlt (a2 x q)
      · rw [List.mem_cons, List.mem_cons, a3]

theorem cmpF_ss {α : Type} {lt : α → α → Prop} {e : α → α → Bool} (h : Tot lt e) {l : List α} (hs : l.Pairwise fun a b => ¬ lt b a) : (cmpF e l).Pairwise lt ∧ ∀ x, x ∈ cmpF e l ↔ x ∈ l := by
  cases l with
  | nil => exact ⟨.nil, fun _ => Iff.rfl⟩
  | cons y l =>
    obtain ⟨a1, a2, a3⟩ := cpt_ss h l y hs
    exact ⟨List.pairwise_cons.2 ⟨a2, a1⟩, fun x => by rw [cmpF, List.mem_cons, a3, List.mem_cons]⟩

/-- An insertion, by the order. -/
def insO {α : Type} (lt : α → α → Prop) [DecidableRel lt] (e : α → α → Bool) : List α → α → List α
  | [], t => [t]
  | u :: L, t => if lt u t then u :: insO lt e L t else if e u t then u :: L else t :: u :: L
theorem insO_mem {α : Type} {lt : α → α → Prop} [DecidableRel lt] {e : α → α → Bool} (h : Tot lt e) : ∀ {L : List α} {t x : α}, x ∈ insO lt e L t ↔ x ∈ L ∨ x = t
  | [], t, x => by simp [insO]
  | u :: L, t, x => by
    rw [insO]
    split
    · rw [List.mem_cons, insO_mem h, List.mem_cons, or_assoc]
    · split
      · rename_i q
        have := (h.eq _ _).1 q
        subst this
        simp only [List.mem_cons]
        constructor
        · exact .inl
        · rintro (q | q)
          · exact q
          · exact .inl q
      · simp only [List.mem_cons]
        constructor
        · rintro (q | q)
          · exact .inr q
          · exact .inl q
        · rintro (q | q)
          · exact .inr q
          · exact .inl q
theorem insO_ss {α : Type} {lt : α → α → Prop} [DecidableRel lt] {e : α → α → Bool} (h : Tot lt e) : ∀ {L : List α} {t : α}, L.Pairwise lt → (insO lt e L t).Pairwise lt
  | [], t, _ => List.pairwise_singleton _ _
  | u :: L, t, hs => by
    rw [List.pairwise_cons] at hs
    rw [insO]
    split
    · rename_i q
      refine List.pairwise_cons.2 ⟨fun x hx => ?_, insO_ss h hs.2⟩
      rcases (insO_mem h).1 hx with p | p
      · exact hs.1 x p
      · rw [p]; exact q
    · rename_i q
      split
      · exact List.pairwise_cons.2 hs
      · rename_i p
        have hlt : lt t u := by
          rcases h.tri t u with r | r | r
          · exact r
          · exact absurd ((h.eq _ _).2 r.symm) (by simpa using p)
          · exact absurd r q
        refine List.pairwise_cons.2 ⟨fun x hx => ?_, List.pairwise_cons.2 hs⟩
        rcases List.mem_cons.1 hx with r | r
        · rw [r]; exact hlt
        · exact h.tr _ _ _ hlt (hs.1 x r)
theorem foldO {α : Type} {lt : α → α → Prop} [DecidableRel lt] {e : α → α → Bool} (h : Tot lt e) : ∀ (l acc : List α), acc.Pairwise lt → (l.foldl (insO lt e) acc).Pairwise lt ∧ ∀ x, x ∈ l.foldl (insO lt e) acc ↔ x ∈ acc ∨ x ∈ l
  | [], acc, hs => ⟨hs, by simp⟩
  | t :: l, acc, hs => by
    obtain ⟨a1, a2⟩ := foldO h l (insO lt e acc t) (insO_ss h hs)
    refine ⟨a1, fun x => ?_⟩
    rw [List.foldl_cons, a2, insO_mem h, List.mem_cons, or_assoc]

theorem totT : Tot (fun a b : Tm => ordT a b < 0) same where
  irr a h := by simp only [ord_irr] at h; omega
  tr a b c := ord_trans
  tri a b := by
    rcases Int.lt_trichotomy (ordT a b) 0 with h | h | h
    · exact .inl h
    · exact .inr (.inl (ordT_eq a b h))
    · refine .inr (.inr ?_)
      show ordT b a < 0
      rw [ord_anti]; omega
  eq a b := same_iff
theorem addF_insO : addF = insO (fun a b : Tm => ordT a b < 0) same := by
  funext L t
  induction L with
  | nil => rfl
  | cons u L ih => rw [addF, insO, ih]
theorem rsort_ss (l : List Tm) : (rsortF l).Pairwise (fun a b => ordT a b < 0) ∧ ∀ x, x ∈ rsortF l ↔ x ∈ l := by
  have := foldO totT l [] .nil
  rw [rsortF, addF_insO]
  simpa using this

theorem totI : Tot (fun a b : Int => a < b) (fun u v => u == v) where
  irr a h := by simp at h
  tr a b c h1 h2 := by omega
  tri a b := by omega
  eq a b := by simp
theorem insF_insO : insF = insO (fun a b : Int => a < b) (fun u v => u == v) := by
  funext L t
  induction L with
  | nil => rfl
  | cons u L ih => rw [insF, insO, ih]; simp
mutual
theorem rnonT_ss : ∀ t : Tm, (rnonT t).Pairwise (· < ·) ∧ ∀ x, x ∈ rnonT t ↔ x ∈ nonT t
  | .mk k n s l => by
    have := rnonL_ss l (if k = 2 then [n] else []) (by split <;> simp)
    rw [rnonT, nonT]
    exact ⟨this.1, fun x => by rw [this.2, List.mem_append]⟩
theorem rnonL_ss : ∀ (l : List Tm) (acc : List Int), acc.Pairwise (· < ·) → (rnonL l acc).Pairwise (· < ·) ∧ ∀ x, x ∈ rnonL l acc ↔ x ∈ acc ∨ x ∈ nonL l
  | [], acc, h => ⟨h, by simp [rnonL, nonL]⟩
  | t :: l, acc, h => by
    have h1 := rnonT_ss t
    have h2 := foldO totI (rnonT t) acc h
    rw [← insF_insO] at h2
    have h3 := rnonL_ss l ((rnonT t).foldl insF acc) h2.1
    rw [rnonL, nonL]
    exact ⟨h3.1, fun x => by rw [h3.2, h2.2, h1.2, List.mem_append, or_assoc]⟩
end

theorem cmp_rsort {l l' : List Tm} (hs : l'.Pairwise fun a b => ¬ ordT b a < 0) (hm : ∀ x, x ∈ l' ↔ x ∈ l) : cmpF same l' = rsortF l := by
  have h1 := cmpF_ss totT hs
  have h2 := rsort_ss l
  exact ss_ext totT h1.1 h2.1 fun x => by rw [h1.2, h2.2, hm]
theorem cmp_rnon {t : Tm} {l' : List Int} (hs : l'.Pairwise fun a b => a ≤ b) (hm : ∀ x, x ∈ l' ↔ x ∈ nonT t) : cmpF (fun u v : Int => u == v) l' = rnonT t := by
  have h1 := cmpF_ss totI (l := l') (hs.imp fun h => by omega)
  have h2 := rnonT_ss t
  exact ss_ext totI h1.1 h2.1 fun x => by rw [h1.2, h2.2, hm]
end Go.Proofs.Ytmnmhehddbemkaa
/- The proof engine: maps of one's own, looked into, written, gone through. -/
namespace Go.Eng
open Go.MapKept
open Go.ChangeMaps (setBlock)

abbrev Ents := List (Value × SV)
def entOk (H : Hp) (e : MapEntry) (p : Value × SV) : Prop := e.key = p.1 ∧ Den (fun _ => undef) H p.2 e.val
def entsOk (H : Hp) : List MapEntry → Ents → Prop
  | [], [] => True
  | e :: l, p :: ps => entOk H e p ∧ entsOk H l ps
  | _, _ => False
structure MapP (d : TypeDesc) (es : Ents) (l : Array MapEntry) (c : Nat) : Prop where
  keys : ∀ p ∈ es, IsKey d p.1
  dist : es.Pairwise fun p q => p.1 ≠ q.1
  names : ∀ p ∈ es, p.2.lt 0 = true
  lt : ∀ e ∈ l.toList, e.born < c
  nodup : (l.toList.map (·.born)).Nodup
/-- A map with these entries. -/
def mapS (d : TypeDesc) (es : Ents) : Nat → Hp → Obj → Prop := fun _ H o => ∃ l c, o = .map l c ∧ entsOk H l.toList es ∧ MapP d es l c
/-- The same, where all is told. -/
def mapP (rm : Nat) (l : Array MapEntry) (c : Nat) (es : Ents) : Nat → Hp → Obj → Prop := fun r H o => r = rm ∧ o = .map l c ∧ entsOk H l.toList es
/-- One that goes through a map. -/
def itP (ri rm c : Nat) (seen : Array Nat) : Nat → Hp → Obj → Prop := fun r _ o => r = ri ∧ o = .mapIter (some rm) c seen c

theorem entsOk.mono {H H' : Hp} (hl : H.le H') : ∀ {l : List MapEntry} {es : Ents}, entsOk H l es → entsOk H' l es
  | [], [], _ => trivial
  | _ :: _, _ :: _, h => ⟨⟨h.1.1, Den.mono hl _ _ h.1.2⟩, entsOk.mono hl h.2⟩
  | [], _ :: _, h => h.elim
  | _ :: _, [], h => h.elim
theorem entsOk.len {H : Hp} : ∀ {l : List MapEntry} {es : Ents}, entsOk H l es → l.length = es.length
  | [], [], _ => rfl
  | _ :: _, _ :: _, h => by rw [List.length_cons, List.length_cons, entsOk.len h.2]
  | [], _ :: _, h => h.elim
  | _ :: _, [], h => h.elim
theorem entsOk.get {H : Hp} : ∀ {l : List MapEntry} {es : Ents}, entsOk H l es → ∀ {i : Nat} {e : MapEntry}, l[i]? = some e → ∃ p, es[i]? = some p ∧ entOk H e p
  | [], [], _, i, e, h => by simp at h
  | x :: l, p :: ps, hh, 0, e, h => by
    simp only [List.getElem?_cons_zero, Option.some.injEq] at h
    subst h
    exact ⟨p, rfl, hh.1⟩
  | x :: l, p :: ps, hh, i + 1, e, h => by
    rw [List.getElem?_cons_succ] at h
    obtain ⟨q, h1, h2⟩ := entsOk.get hh.2 h
    exact ⟨q, by rw [List.getElem?_cons_succ]; exact h1, h2⟩
  | [], _ :: _, h, _, _, _ => h.elim
  | _ :: _, [], h, _, _, _ => h.elim
theorem entsOk.get' {H : Hp} {l : List MapEntry} {es : Ents} (h : entsOk H l es) {i : Nat} {p : Value × SV} (hp : es[i]? = some p) : ∃ e, l[i]? = some e ∧ entOk H e p := by
  have hlt : i < l.length := by rw [h.len]; exact (List.getElem?_eq_some_iff.1 hp).1
  obtain ⟨q, h1, h2⟩ := h.get (List.getElem?_eq_getElem hlt)
  rw [hp] at h1
  cases h1
  exact ⟨_, List.getElem?_eq_getElem hlt, h2⟩
theorem entsOk.push {H : Hp} {e : MapEntry} {p : Value × SV} (he : entOk H e p) : ∀ {l : List MapEntry} {es : Ents}, entsOk H l es → entsOk H (l ++ [e]) (es ++ [p])
  | [], [], _ => ⟨he, trivial⟩
  | _ :: _, _ :: _, h => ⟨h.1, entsOk.push he h.2⟩
  | [], _ :: _, h => h.elim
  | _ :: _, [], h => h.elim
theorem entsOk.keys {H : Hp} {d : TypeDesc} {l : List MapEntry} {es : Ents} (h : entsOk H l es) (hk : ∀ p ∈ es, IsKey d p.1) : ∀ x ∈ l, IsKey d x.key := by
  intro x hx
  obtain ⟨i, hi⟩ := List.mem_iff_getElem?.1 hx
  obtain ⟨p, h1, h2⟩ := h.get hi
  rw [h2.1]
  exact hk p (List.mem_of_getElem? h1)
theorem mapS_mono {d : TypeDesc} {es : Ents} {r : Nat} {H H' : Hp} {o : Obj} (hl : H.le H') (h : mapS d es r H o) : mapS d es r H' o := by
  obtain ⟨l, c, e, h1, h2⟩ := h
  exact ⟨l, c, e, h1.mono hl, h2⟩

def keyV : SV → Option Value
  | .str b => some (.string b)
  | .int k n => some (.int k n)
  | _ => none
theorem keyV_den {g : Nat → Value} {H : Hp} {s : SV} {kv x : Value} (h : keyV s = some kv) (hd : Den g H s x) : x = kv := by
  cases s <;> simp only [keyV, Option.some.injEq, reduceCtorEq] at h
  · subst h; exact hd
  · subst h; exact hd
theorem Den.noname {g g' : Nat → Value} {H : Hp} {s : SV} {x : Value} (h : s.lt 0 = true) (hd : Den g H s x) : Den g' H s x := by
  have := Den.ren (g := g) (g' := g') (r := fun k => k) (m := 0) (fun k hk => absurd hk (Nat.not_lt_zero k)) s x h hd
  rw [ren_id] at this
  exact this

section
variable {P : Program} {T : Nat → TI} {env : List (Nat × SV)} {own : List (Nat × SO)}

/-- What a map has is found. -/
theorem does_lookY {o : Oper} {t k e q : Nat} {d : TypeDesc} {x y : Operand} {kv : Value} {es : Ents} (s : SV) (ht : P.underlying t = some (.map k e)) (hks : P.underlying k = some d) (ho : o.op = .lookup t x y true) (hx : ev env x = .mp q) (hy : keyV (ev env y) = some kv) (hq : ownq own q = some (.obj (mapS d es))) (hkv : IsKey d kv) (hs : (kv, s) ∈ es) :
    DoesV P o env own (.tup [s, .tt]) := by
  refine does_val fun cx g H n a w hd => ?_
  obtain ⟨r, ob, e1, h1, h2, _⟩ := hd.ok q _ hq
  obtain ⟨l, c, rfl, he, hM⟩ := h2 H (Hp.le_refl H)
  have ex := hd.ev x
  rw [hx] at ex
  obtain ⟨r', e2, e3⟩ := ex
  rw [e1] at e2
  simp only [Value.map.injEq, Option.some.injEq] at e2
  subst e2
  have ey := keyV_den hy (hd.ev y)
  have hget := MapKept.run_getObj_map (P := P) h1
  have hck := MapKept.run_checkKey (P := P) (w := w) hks hkv l.isEmpty 9999
  rcases MapKept.findNow_spec hkv l.toList 0 (he.keys hM.keys) with ⟨h3, h4⟩ | ⟨j, en, h3, h4, h5⟩
  · obtain ⟨i, hi⟩ := List.mem_iff_getElem?.1 hs
    obtain ⟨en, hen, hok⟩ := he.get' hi
    exact absurd hok.1 (h4 en (List.mem_of_getElem? hen))
  obtain ⟨p, hp, hok⟩ := he.get h4
  have hps : p = (kv, s) := by
    obtain ⟨i, hi⟩ := List.mem_iff_getElem?.1 hs
    have hpk : p.1 = kv := by rw [← hok.1, h5]
    have hij : i = j := by
      rcases Nat.lt_trichotomy i j with h | h | h
      · have := List.pairwise_iff_getElem.1 hM.dist i j (List.getElem?_eq_some_iff.1 hi).1 (List.getElem?_eq_some_iff.1 hp).1 h
        rw [(List.getElem?_eq_some_iff.1 hi).2, (List.getElem?_eq_some_iff.1 hp).2] at this
        exact absurd hpk.symm this
      · exact h
      · have := List.pairwise_iff_getElem.1 hM.dist j i (List.getElem?_eq_some_iff.1 hp).1 (List.getElem?_eq_some_iff.1 hi).1 h
        rw [(List.getElem?_eq_some_iff.1 hi).2, (List.getElem?_eq_some_iff.1 hp).2] at this
        exact absurd hpk this
    subst hij
    rw [hi] at hp
    exact (Option.some.inj hp).symm
  subst hps
  have hfind := MapKept.run_findKey (P := P) (w := w) hks h3
  refine ⟨.tuple #[en.val, .bool true], ?_, [en.val, .bool true], rfl, Den.noname (hM.names _ hs) hok.2, rfl, trivial⟩
  have hl : (Instr.lookup t (.map (some r)) kv true).run P w = .ok (.tuple #[en.val, .bool true]) w := by
    unfold Instr.lookup
    simp [run_underlying ht, hget, hck, hfind]
  simp only [execOp, ho, e3, ey]
  simp [hl]

/-- What it has not is not. -/
theorem does_lookN {o : Oper} {t k e q : Nat} {d : TypeDesc} {x y : Operand} {kv z : Value} {es : Ents} (s : SV) (ht : P.underlying t = some (.map k e)) (hks : P.underlying k = some d) (hz : (P.info? e).bind (·.zero) = some z) (ho : o.op = .lookup t x y true) (hx : ev env x = .mp q) (hy : keyV (ev env y) = some kv) (hq : ownq own q = some (.obj (mapS d es))) (hkv : IsKey d kv) (hn : ∀ p ∈ es, p.1 ≠ kv) (hs : ∀ g H, Den g H s z) :
    DoesV P o env own (.tup [s, .ff]) := by
  obtain ⟨i2, hi2, hz2⟩ := Option.bind_eq_some_iff.1 hz
  refine does_val fun cx g H n a w hd => ⟨.tuple #[z, .bool false], ?_, [z, .bool false], rfl, hs g H, rfl, trivial⟩
  obtain ⟨r, ob, e1, h1, h2, _⟩ := hd.ok q _ hq
  obtain ⟨l, c, rfl, he, hM⟩ := h2 H (Hp.le_refl H)
  have ex := hd.ev x
  rw [hx] at ex
  obtain ⟨r', e2, e3⟩ := ex
  rw [e1] at e2
  simp only [Value.map.injEq, Option.some.injEq] at e2
  subst e2
  have ey := keyV_den hy (hd.ev y)
  have hget := MapKept.run_getObj_map (P := P) h1
  have hck := MapKept.run_checkKey (P := P) (w := w) hks hkv l.isEmpty 9999
  rcases MapKept.findNow_spec hkv l.toList 0 (he.keys hM.keys) with ⟨h3, h4⟩ | ⟨j, en, h3, h4, h5⟩
  rotate_left
  · obtain ⟨p, hp, hok⟩ := he.get h4
    exact absurd (by rw [← hok.1, h5]) (hn p (List.mem_of_getElem? hp))
  have hfind := MapKept.run_findKey (P := P) (w := w) hks h3
  have hl : (Instr.lookup t (.map (some r)) kv true).run P w = .ok (.tuple #[z, .bool false]) w := by
    unfold Instr.lookup
    simp [run_underlying ht, hget, hck, hfind, run_zero' hi2 hz2]
  simp only [execOp, ho, e3, ey]
  simp [hl]
/-- The same, where it is not asked. -/
theorem does_lookY1 {o : Oper} {t k e q : Nat} {d : TypeDesc} {x y : Operand} {kv : Value} {es : Ents} (s : SV) (ht : P.underlying t = some (.map k e)) (hks : P.underlying k = some d) (ho : o.op = .lookup t x y false) (hx : ev env x = .mp q) (hy : keyV (ev env y) = some kv) (hq : ownq own q = some (.obj (mapS d es))) (hkv : IsKey d kv) (hs : (kv, s) ∈ es) :
    DoesV P o env own s := by
  refine does_val fun cx g H n a w hd => ?_
  obtain ⟨r, ob, e1, h1, h2, _⟩ := hd.ok q _ hq
  obtain ⟨l, c, rfl, he, hM⟩ := h2 H (Hp.le_refl H)
  have ex := hd.ev x
  rw [hx] at ex
  obtain ⟨r', e2, e3⟩ := ex
  rw [e1] at e2
  simp only [Value.map.injEq, Option.some.injEq] at e2
  subst e2
  have ey := keyV_den hy (hd.ev y)
  have hget := MapKept.run_getObj_map (P := P) h1
  have hck := MapKept.run_checkKey (P := P) (w := w) hks hkv l.isEmpty 9999
  rcases MapKept.findNow_spec hkv l.toList 0 (he.keys hM.keys) with ⟨h3, h4⟩ | ⟨j, en, h3, h4, h5⟩
  · obtain ⟨i, hi⟩ := List.mem_iff_getElem?.1 hs
    obtain ⟨en, hen, hok⟩ := he.get' hi
    exact absurd hok.1 (h4 en (List.mem_of_getElem? hen))
  obtain ⟨p, hp, hok⟩ := he.get h4
  have hps : p = (kv, s) := by
    obtain ⟨i, hi⟩ := List.mem_iff_getElem?.1 hs
    have hpk : p.1 = kv := by rw [← hok.1, h5]
    have hij : i = j := by
      rcases Nat.lt_trichotomy i j with h | h | h
      · have := List.pairwise_iff_getElem.1 hM.dist i j (List.getElem?_eq_some_iff.1 hi).1 (List.getElem?_eq_some_iff.1 hp).1 h
        rw [(List.getElem?_eq_some_iff.1 hi).2, (List.getElem?_eq_some_iff.1 hp).2] at this
        exact absurd hpk.symm this
      · exact h
      · have := List.pairwise_iff_getElem.1 hM.dist j i (List.getElem?_eq_some_iff.1 hp).1 (List.getElem?_eq_some_iff.1 hi).1 h
        rw [(List.getElem?_eq_some_iff.1 hi).2, (List.getElem?_eq_some_iff.1 hp).2] at this
        exact absurd hpk this
    subst hij
    rw [hi] at hp
    exact (Option.some.inj hp).symm
  subst hps
  have hfind := MapKept.run_findKey (P := P) (w := w) hks h3
  refine ⟨en.val, ?_, Den.noname (hM.names _ hs) hok.2⟩
  have hl : (Instr.lookup t (.map (some r)) kv false).run P w = .ok en.val w := by
    unfold Instr.lookup
    simp [run_underlying ht, hget, hck, hfind]
  simp only [execOp, ho, e3, ey]
  simp [hl]


/-- The same, where it is not asked. -/
theorem does_lookN1 {o : Oper} {t k e q : Nat} {d : TypeDesc} {x y : Operand} {kv z : Value} {es : Ents} (s : SV) (ht : P.underlying t = some (.map k e)) (hks : P.underlying k = some d) (hz : (P.info? e).bind (·.zero) = some z) (ho : o.op = .lookup t x y false) (hx : ev env x = .mp q) (hy : keyV (ev env y) = some kv) (hq : ownq own q = some (.obj (mapS d es))) (hkv : IsKey d kv) (hn : ∀ p ∈ es, p.1 ≠ kv) (hs : ∀ g H, Den g H s z) :
    DoesV P o env own s := by
  obtain ⟨i2, hi2, hz2⟩ := Option.bind_eq_some_iff.1 hz
  refine does_val fun cx g H n a w hd => ⟨z, ?_, hs g H⟩
  obtain ⟨r, ob, e1, h1, h2, _⟩ := hd.ok q _ hq
  obtain ⟨l, c, rfl, he, hM⟩ := h2 H (Hp.le_refl H)
  have ex := hd.ev x
  rw [hx] at ex
  obtain ⟨r', e2, e3⟩ := ex
  rw [e1] at e2
  simp only [Value.map.injEq, Option.some.injEq] at e2
  subst e2
  have ey := keyV_den hy (hd.ev y)
  have hget := MapKept.run_getObj_map (P := P) h1
  have hck := MapKept.run_checkKey (P := P) (w := w) hks hkv l.isEmpty 9999
  rcases MapKept.findNow_spec hkv l.toList 0 (he.keys hM.keys) with ⟨h3, h4⟩ | ⟨j, en, h3, h4, h5⟩
  rotate_left
  · obtain ⟨p, hp, hok⟩ := he.get h4
    exact absurd (by rw [← hok.1, h5]) (hn p (List.mem_of_getElem? hp))
  have hfind := MapKept.run_findKey (P := P) (w := w) hks h3
  have hl : (Instr.lookup t (.map (some r)) kv false).run P w = .ok z w := by
    unfold Instr.lookup
    simp [run_underlying ht, hget, hck, hfind, run_zero' hi2 hz2]
  simp only [execOp, ho, e3, ey]
  simp [hl]
end

/-- An own object is written. -/
theorem Dn.writeObj {cx : Cx} {g : Nat → Value} {H : Hp} {env : List (Nat × SV)} {own : List (Nat × SO)} {n : Nat} {tmps : Array Value} {w : World} {k r : Nat} {f f' : Nat → Hp → Obj → Prop} {o' : Obj}
    (h : Dn cx g H env own n tmps w) (hk : ownq own k = some (.obj f)) (hb : g k = .map (some r)) (hn : ∀ H', H.le H' → f' r H' o') :
    Dn cx g H env (setOwn k (.obj f') own) n tmps (setBlock w r o') := by
  obtain ⟨r', ob, e0, h1, h2, hH0, hm0⟩ := h.ok k _ hk
  have hbb : r' = r := by rw [e0] at hb; simpa using hb
  subst hbb
  have hset := MapKept.heap_set (o' := o') h1
  have ho : ∀ i, i ≠ r' → (setBlock w r' o').heap[i]? = w.heap[i]? := fun i hi => hset.2 i hi
  have hs : ∀ j, (ownq (setOwn k (.obj f') own) j).isSome = (ownq own j).isSome := by
    intro j
    rw [ownq_setOwn]
    split
    · rename_i e; subst e; simp [hk]
    · rfl
  refine { size := h.size, den := h.den, ok := fun j o hj => ?_, inj := fun i j hi hj => h.inj i j (by rw [← hs i]; exact hi) (by rw [← hs j]; exact hj), hp := fun c o v hv => ?_, base := ?_ }
  · rw [ownq_setOwn] at hj
    by_cases hjk : j = k
    · subst hjk
      rw [if_pos rfl, hk] at hj
      simp only [Option.map_some, Option.some.injEq] at hj
      subst hj
      exact ⟨r', o', e0, hset.1, hn, hH0, hm0⟩
    · rw [if_neg hjk] at hj
      refine (h.ok j o hj).at fun c hc => ho c fun e => hjk ?_
      subst e
      exact h.inj j k (by rw [hj]; rfl) (by rw [hk]; rfl) c hc (by rw [e0]; rfl)
  · have hc : c ≠ r' := fun e => by subst e; rw [hH0] at hv; cases hv
    rw [World.cell?_same (w := w) (ho c hc)]
    exact h.hp c o v hv
  · refine { os := h.base.os, tape := h.base.tape, output := h.base.output, size := by show _ ≤ (w.heap.setIfInBounds r' o').size; rw [Array.size_setIfInBounds]; exact h.base.size, block := fun c hc hx => ?_, hold := h.base.hold, le := h.base.le, fix := h.base.fix, drawn := h.base.drawn }
    have hne : c ≠ r' := by
      intro e
      subst e
      rcases hm0 with h0 | h0
      · omega
      · exact hx h0
    rw [ho c hne]
    exact h.base.block c hc hx

section
variable {E : Stc} {all rest : List Oper} {o : Oper} {s : List Fr} {env : List (Nat × SV)} {own own2 : List (Nat × SO)} {nx : List Nat}

/-- A new entry. -/
theorem at_mput {t k e q : Nat} {d : TypeDesc} {x y v : Operand} {kv : Value} {es : Ents} (sv : SV) (ht : E.P.underlying t = some (.map k e)) (hks : E.P.underlying k = some d) (ho : o.op = .mapUpdate t x y v ∨ o.op = .insert t x y v) (hdst : o.dst = none) (hx : ev env x = .mp q) (hy : keyV (ev env y) = some kv) (hv : ev env v = sv) (hlt : sv.lt 0 = true)
    (hq : ownq own q = some (.obj (mapS d es))) (hkv : IsKey d kv) (hn : ∀ p ∈ es, p.1 ≠ kv) (hso : setOwnK q (.obj (mapS d (es ++ [(kv, sv)]))) own some = some own2)
    (kk : Sat E (.ops all rest) s env own2 nx) (hg : guardK all o.guard env true false false = true := by rfl) : Sat E (.ops all (o :: rest)) s env own nx := by
  rw [setOwnK_eq] at hso
  simp only [Option.some.injEq] at hso
  subst hso
  intro a w hat0
  have hwant := wanted_of (E := E) (own := own) hg a w hat0
  unfold wpList
  rw [if_pos hwant]
  refine .inl ?_
  obtain ⟨hdf, g, H, hdn⟩ := hat0
  obtain ⟨r, ob, e1, h1, h2, h2b⟩ := hdn.ok q _ hq
  obtain ⟨l, c, rfl, he, hM⟩ := h2 H (Hp.le_refl H)
  have ex := hdn.ev x
  rw [hx] at ex
  obtain ⟨r', e2, e3⟩ := ex
  rw [e1] at e2
  simp only [Value.map.injEq, Option.some.injEq] at e2
  subst e2
  have ey := keyV_den hy (hdn.ev y)
  have ev' := hdn.ev v
  rw [hv] at ev'
  generalize hvv : a.eval v = vv at ev'
  have hget := MapKept.run_getObj_map (P := E.P) h1
  have hck := MapKept.run_checkKey (P := E.P) (w := w) hks hkv false 9999
  rcases MapKept.findNow_spec hkv l.toList 0 (he.keys hM.keys) with ⟨h3, h4⟩ | ⟨j, en, h3, h4, h5⟩
  rotate_left
  · obtain ⟨p, hp, hok⟩ := he.get h4
    exact absurd (by rw [← hok.1, h5]) (hn p (List.mem_of_getElem? hp))
  have hfind := MapKept.run_findKey (P := E.P) (w := w) hks h3
  have hset := MapKept.run_setObj_map (P := E.P) (.map (l.push { key := kv, val := vv, born := c }) (c + 1)) h1
  have hval : ∀ H', H.le H' → mapS d (es ++ [(kv, sv)]) r H' (.map (l.push { key := kv, val := vv, born := c }) (c + 1)) := by
    intro H' hH
    refine ⟨_, _, rfl, ?_, ?_⟩
    · rw [Array.toList_push]
      exact (he.mono hH).push ⟨rfl, Den.noname hlt (Den.mono hH _ _ ev')⟩
    · refine ⟨?_, ?_, ?_, ?_, ?_⟩
      · intro p hp
        rcases List.mem_append.1 hp with hp | hp
        · exact hM.keys p hp
        · rw [List.mem_singleton] at hp; subst hp; exact hkv
      · rw [List.pairwise_append]
        exact ⟨hM.dist, List.pairwise_singleton _ _, fun p hp q' hq' => by rw [List.mem_singleton] at hq'; subst hq'; exact hn p hp⟩
      · intro p hp
        rcases List.mem_append.1 hp with hp | hp
        · exact hM.names p hp
        · rw [List.mem_singleton] at hp; subst hp; exact hlt
      · intro x hx
        rw [Array.toList_push] at hx
        rcases List.mem_append.1 hx with hx | hx
        · have := hM.lt x hx; omega
        · rw [List.mem_singleton] at hx; subst hx; exact Nat.lt_succ_self _
      · rw [Array.toList_push, List.map_append, List.nodup_append]
        refine ⟨hM.nodup, by simp, ?_⟩
        intro x hx y' hy'
        obtain ⟨z, hz, rfl⟩ := List.mem_map.1 hx
        simp only [List.map_cons, List.map_nil, List.mem_singleton] at hy'
        have := hM.lt z hz
        omega
  have hd2 := hdn.writeObj hq e1 hval
  unfold Oper.wp
  have hrun : (execOp a.eval o).run E.P w = .ok .skip (setBlock w r (.map (l.push { key := kv, val := vv, born := c }) (c + 1))) := by
    have : (Instr.mapUpdate t (.map (some r)) kv vv).run E.P w = .ok () (setBlock w r (.map (l.push { key := kv, val := vv, born := c }) (c + 1))) := by
      unfold Instr.mapUpdate
      simp [run_underlying ht, hget, hck, hfind, hset, setBlock]
    rcases ho with ho | ho
    · simp only [execOp, ho, e3, ey]
      rw [hvv]
      simp [this]
    · simp only [execOp, ho, e3, ey]
      rw [hvv]
      simp [this]
  rw [hrun]
  show wpList E.P all.toArray (KK E s) rest (a.put o.dst undef) _
  rw [hdst]
  exact kk _ _ ⟨hdf, g, H, hd2⟩

/-- Going through a map begins. -/
theorem at_range {t k e q : Nat} {d : TypeDesc} {x : Operand} {es : Ents} (ki : Nat) (ht : E.P.underlying t = some (.map k e)) (ho : o.op = .range t x) (hx : ev env x = .mp q) (hq : ownq own q = some (.obj (mapS d es)))
    (kk : ∀ (rm ri c : Nat) (l : Array MapEntry), l.size = es.length → MapP d es l c → Sat E (.ops all rest) s (put o.dst (.val (.pointer (some ⟨ri, 0, none⟩))) env) ((ki, .obj (itP ri rm c #[])) :: setOwn q (.obj (mapP rm l c es)) own) nx)
    (hm : Nat.ble E.cx.m0 ki = true := by rfl) (hE : freshE ki env = true := by rfl) (hO : freshO ki (setOwn q (.obj (mapP 0 #[] 0 es)) own) = true := by rfl) (hq0 : Nat.beq q ki = false := by rfl)
    (hg : guardK all o.guard env true false false = true := by rfl) (hd : dstLt o.dst E.n = true := by rfl) : Sat E (.ops all (o :: rest)) s env own nx := by
  intro a w hat0
  have hwant := wanted_of (E := E) (own := own) hg a w hat0
  unfold wpList
  rw [if_pos hwant]
  refine .inl ?_
  obtain ⟨hdf, g, H, hdn⟩ := hat0
  obtain ⟨r, ob, e1, h1, h2, h2b⟩ := hdn.ok q _ hq
  obtain ⟨l, c, rfl, he, hM⟩ := h2 H (Hp.le_refl H)
  have ex := hdn.ev x
  rw [hx] at ex
  obtain ⟨r', e2, e3⟩ := ex
  rw [e1] at e2
  simp only [Value.map.injEq, Option.some.injEq] at e2
  subst e2
  have hrun : (execOp a.eval o).run E.P w = .ok (.value (.pointer (some ⟨w.heap.size, 0, none⟩))) (w.alloc (.mapIter (some r) c #[] c)) := by
    have := run_range_map (P := E.P) w t k e r l c ht h1
    simp only [execOp, ho, e3]
    simp [this]
  -- the map is told
  have hd1 : Dn E.cx g H env (setOwn q (.obj (mapP r l c es)) own) E.n a.tmps w := by
    refine { hdn with ok := fun j o' hj => ?_, inj := fun i j hi hj => hdn.inj i j ?_ ?_ }
    · rw [ownq_setOwn] at hj
      split at hj
      · rename_i e
        subst e
        rw [hq] at hj
        simp only [Option.map_some, Option.some.injEq] at hj
        subst hj
        exact ⟨r, _, e1, h1, fun H' hH => ⟨rfl, rfl, he.mono hH⟩, h2b⟩
      · exact hdn.ok j o' hj
    · rw [ownq_setOwn] at hi
      split at hi
      · rename_i e; subst e; rw [hq]; rfl
      · exact hi
    · rw [ownq_setOwn] at hj
      split at hj
      · rename_i e; subst e; rw [hq]; rfl
      · exact hj
  have hd2 := hd1.grown (w' := w.alloc (.mapIter (some r) c #[] c)) rfl rfl rfl (by simp) (fun b hb => heap_alloc_lt w _ hb)
  have hnew := hd1.new_ok (Nat.le_refl w.heap.size)
  have hfr : ∀ (f f' : Nat → Hp → Obj → Prop) (own : List (Nat × SO)), freshO ki (setOwn q (.obj f) own) = freshO ki (setOwn q (.obj f') own) := by
    intro f f' own
    induction own with
    | nil => rfl
    | cons y own ih =>
      obtain ⟨i, so⟩ := y
      simp only [setOwn]
      cases hb : Nat.beq i q with
      | true => simp only [cond_true, freshO]
      | false =>
        simp only [cond_false]
        cases so <;> simp only [freshO, ih]
  have hO' : freshO ki (setOwn q (.obj (mapP r l c es)) own) = true := by rw [hfr _ (mapP 0 #[] 0 es)]; exact hO
  have hd3 := hd2.bind (k := ki) (x := .map (some w.heap.size)) (so := .obj (itP w.heap.size r c #[])) (Nat.le_of_ble_eq_true hm) hE hO' ⟨w.heap.size, _, upd_same _ _ _, heap_alloc_new w _, fun _ _ => ⟨rfl, rfl⟩, fun j => Hp.on_new hdn.hp j, hnew.1⟩ (fun b hbx j o hj => by
    simp only [blkOf, Option.some.injEq] at hbx
    subst hbx
    exact hnew.2 j o hj)
  unfold Oper.wp
  rw [hrun]
  exact kk r w.heap.size c l (by have := he.len; simpa using this) hM _ _ (At.put hdf hd3 ⟨rfl, rfl⟩ fun d e => by rw [e] at hd; exact Nat.blt_eq.mp hd)

/-- The next entry, whichever it be. -/
theorem at_next {q ki ri rm c : Nat} {d : TypeDesc} {x : Operand} {es : Ents} {l : Array MapEntry} {seen : Array Nat} {own1 : MapEntry → List (Nat × SO)} (hM : MapP d es l c) (ho : o.op = .next x false) (hx : ev env x = .val (.pointer (some ⟨ri, 0, none⟩))) (hi : ownq own ki = some (.obj (itP ri rm c seen))) (hq : ownq own q = some (.obj (mapP rm l c es)))
    (hso : ∀ e : MapEntry, setOwnK ki (.obj (itP ri rm c (seen.push e.born))) own some = some (own1 e))
    (k0 : (leftOf l seen).size = 0 → Sat E (.ops all rest) s (put o.dst (.tup [.ff]) env) own nx)
    (k1 : ∀ e ∈ (leftOf l seen).toList, Sat E (.ops all rest) s (put o.dst (.tup [.tt, .any, .any]) env) (own1 e) nx)
    (hg : guardK all o.guard env true false false = true := by rfl) (hd : dstLt o.dst E.n = true := by rfl) : Sat E (.ops all (o :: rest)) s env own nx := by
  intro a w hat0
  have hwant := wanted_of (E := E) (own := own) hg a w hat0
  have hat1 := hat0
  unfold wpList
  rw [if_pos hwant]
  refine .inl ?_
  obtain ⟨hdf, g, H, hdn⟩ := hat0
  obtain ⟨r1, ob1, e1, h1, h2, h2b⟩ := hdn.ok q _ hq
  obtain ⟨rfl, rfl, he⟩ := h2 H (Hp.le_refl H)
  obtain ⟨r2, ob2, f1, g1, g2, g2b⟩ := hdn.ok ki _ hi
  obtain ⟨rfl, rfl⟩ := g2 H (Hp.le_refl H)
  have ex := hdn.ev x
  rw [hx] at ex
  have ex : a.eval x = .pointer (some ⟨r2, 0, none⟩) := ex.1
  have hstep := fun ty => run_next_at (P := E.P) w ty r2 r1 c c seen l c g1 h1 (fun x hx => hM.lt x hx) (Nat.le_refl _)
  unfold Oper.wp
  have hop : ∀ v w', (Instr.next (.pointer (some ⟨r2, 0, none⟩)) false o.type).run E.P w = .ok v w' → (execOp a.eval o).run E.P w = .ok (.value v) w' := by
    intro v w' h
    simp only [execOp, ho, ex]
    simp [h]
  rcases hstep o.type with ⟨h0, hr⟩ | ⟨en, hen, w1, hw1, hr⟩
  · rw [hop _ _ hr]
    exact k0 h0 _ _ (At.put hdf hdn (⟨[.bool false], rfl, rfl, trivial⟩ : Den g H (.tup [.ff]) (.tuple #[.bool false])) fun d e => by rw [e] at hd; exact Nat.blt_eq.mp hd)
  · rw [hop _ _ hr]
    have hs := hso en
    rw [setOwnK_eq] at hs
    simp only [Option.some.injEq] at hs
    have hd1 : Dn E.cx g H env own E.n a.tmps w1 := by
      rcases hw1 with rfl | rfl
      · exact hdn
      · exact hdn.grown (w' := w.drew) rfl rfl rfl (Nat.le_refl _) (fun _ _ => rfl) (Nat.le_succ _)
    have hd2 := hd1.writeObj (f' := itP r2 r1 c (seen.push en.born)) (o' := .mapIter (some r1) c (seen.push en.born) c) hi f1 fun H' _ => ⟨rfl, rfl⟩
    rw [hs] at hd2
    exact k1 en hen _ _ (At.put hdf hd2 (⟨[.bool true, en.key, en.val], rfl, rfl, trivial, trivial, trivial⟩ : Den g H (.tup [.tt, .any, .any]) (.tuple #[.bool true, en.key, en.val])) fun d e => by rw [e] at hd; exact Nat.blt_eq.mp hd)

def keyS : Value → SV
  | .string b => .str b
  | .int k n => .int k n
  | _ => .any
theorem keyS_den {g : Nat → Value} {H : Hp} (v : Value) : Den g H (keyS v) v := by
  cases v <;> first | rfl | trivial

/-- The entry that came. -/
theorem does_entry {P : Program} {q ki ri rm c i : Nat} {d : TypeDesc} {x : Operand} {es : Ents} {l : Array MapEntry} {seen : Array Nat} {e : MapEntry} {p : Value × SV} (hM : MapP d es l c) (ho : o.op = .entry x) (hx : ev env x = .val (.pointer (some ⟨ri, 0, none⟩))) (hi : ownq own ki = some (.obj (itP ri rm c (seen.push e.born)))) (hq : ownq own q = some (.obj (mapP rm l c es)))
    (he : l[i]? = some e) (hp : es[i]? = some p) : DoesV P o env own (.tup [keyS p.1, p.2]) := by
  refine does_val fun cx g H n a w hdn => ?_
  obtain ⟨r1, ob1, e1, h1, h2, h2b⟩ := hdn.ok q _ hq
  obtain ⟨rfl, rfl, hents⟩ := h2 H (Hp.le_refl H)
  obtain ⟨r2, ob2, f1, g1, g2, g2b⟩ := hdn.ok ki _ hi
  obtain ⟨rfl, rfl⟩ := g2 H (Hp.le_refl H)
  have ex := hdn.ev x
  rw [hx] at ex
  have ex : a.eval x = .pointer (some ⟨r2, 0, none⟩) := ex.1
  have hel : l.toList[i]? = some e := by rw [Array.getElem?_toList]; exact he
  obtain ⟨p', hp', hok⟩ := hents.get hel
  rw [hp] at hp'
  cases hp'
  have hr := run_entry_at (P := P) w r2 r1 c seen l c e g1 h1 (List.mem_of_getElem? hel) hM.nodup
  refine ⟨.tuple #[e.key, e.val], ?_, [e.key, e.val], rfl, ?_, Den.noname (hM.names p (List.mem_of_getElem? hp)) hok.2, trivial⟩
  · simp only [execOp, ho, ex]
    simp [hr]
  · rw [hok.1]
    exact keyS_den _
end
end Go.Eng
namespace Go.Proofs.Ytmnmhehddbemkaa
open Go Go.Eng

theorem parts_sub {t x : Tm} (h : x ∈ parts t) : x ∈ t.kids := by
  obtain ⟨k, n, s, l⟩ := t
  rw [parts] at h
  split at h
  · exact h
  · split at h
    · exact List.mem_of_mem_drop h
    · cases h
theorem may_part {t x : Tm} (h : mayF t = true) (hx : x ∈ parts t) : mayF x = true := by
  have := parts_sub hx
  obtain ⟨k, n, s, l⟩ := t
  exact may_kid h this
theorem sz_part {t x : Tm} (h : x ∈ parts t) : szT x < szT t := by
  have := sz_parts t
  have := szL_mem h
  omega

/-- Terms are put where they are not yet, with what comes out of them. -/
def putN : Nat → Tm → List Tm → List Tm
  | 0, _, O => O
  | n + 1, t, O => if amongF O t then O else (parts t).foldl (fun O u => putN n u O) (O ++ [t])
def putM (t : Tm) (O : List Tm) : List Tm := putN (szT t) t O
theorem foldl_congr' {α β : Type} {f g : β → α → β} : ∀ (l : List α) (b : β), (∀ x ∈ l, ∀ b, f b x = g b x) → l.foldl f b = l.foldl g b
  | [], _, _ => rfl
  | x :: l, b, h => by
    rw [List.foldl_cons, List.foldl_cons, h x (by simp), foldl_congr' l _ fun y hy => h y (by simp [hy])]
theorem putN_irr : ∀ (n m : Nat) (t : Tm) (O : List Tm), szT t ≤ n → szT t ≤ m → putN n t O = putN m t O
  | 0, _, t, O, h, _ => by have := szT_pos t; omega
  | _ + 1, 0, t, O, _, h => by have := szT_pos t; omega
  | n + 1, m + 1, t, O, h1, h2 => by
    rw [putN, putN]
    split
    · rfl
    · refine foldl_congr' _ _ fun u hu b => ?_
      have := sz_part hu
      exact putN_irr n m u b (by omega) (by omega)
theorem putM_eq (t : Tm) (O : List Tm) : putM t O = if amongF O t then O else (parts t).foldl (fun O u => putM u O) (O ++ [t]) := by
  have hp := szT_pos t
  obtain ⟨n, hn⟩ : ∃ n, szT t = n + 1 := ⟨szT t - 1, by omega⟩
  rw [putM, hn, putN]
  split
  · rfl
  · refine foldl_congr' _ _ fun u hu b => ?_
    have := sz_part hu
    exact putN_irr n _ u b (by omega) (Nat.le_refl _)

structure PutP (l : List Tm) (O R : List Tm) : Prop where
  sub : ∀ x ∈ O, x ∈ R
  has : ∀ t ∈ l, t ∈ R
  cl : ∀ x ∈ R, x ∉ O → ∀ p ∈ parts x, p ∈ R
  least : ∀ C : Tm → Prop, (∀ t ∈ l, C t) → (∀ x, C x → ∀ p ∈ parts x, C p) → ∀ x ∈ R, x ∈ O ∨ C x
  len : R.length ≤ O.length + szL l
theorem putL_P (hM : ∀ t O, PutP [t] O (putM t O)) : ∀ (l O : List Tm), PutP l O (l.foldl (fun O u => putM u O) O)
  | [], O => ⟨fun x h => h, by simp, fun x h h' => absurd h h', fun C _ _ x h => .inl h, by simp⟩
  | t :: l, O => by
    have h1 := hM t O
    have h2 := putL_P hM l (putM t O)
    rw [List.foldl_cons]
    refine ⟨fun x h => h2.sub x (h1.sub x h), fun x hx => ?_, fun x hx hn p hp => ?_, fun C c1 c2 x hx => ?_, ?_⟩
    · rcases List.mem_cons.1 hx with h | h
      · subst h; exact h2.sub x (h1.has x (by simp))
      · exact h2.has x h
    · by_cases hx2 : x ∈ putM t O
      · exact h2.sub p (h1.cl x hx2 hn p hp)
      · exact h2.cl x hx hx2 p hp
    · rcases h2.least C (fun y hy => c1 y (by simp [hy])) c2 x hx with h | h
      · exact h1.least C (fun y hy => by rw [List.mem_singleton] at hy; subst hy; exact c1 y (by simp)) c2 x h
      · exact .inr h
    · have e1 := h1.len
      have e2 := h2.len
      simp only [szL] at e1 ⊢
      omega
theorem putN_P : ∀ (n : Nat) (t : Tm) (O : List Tm), szT t ≤ n → PutP [t] O (putM t O)
  | 0, t, O, h => by have := szT_pos t; omega
  | n + 1, t, O, h => by
    rw [putM_eq]
    split
    · rename_i ha
      have ha := among_iff.1 ha
      exact ⟨fun x h => h, fun x hx => by rw [List.mem_singleton] at hx; subst hx; exact ha, fun x h h' => absurd h h', fun C _ _ x h => .inl h, by simp⟩
    · have hp := sz_parts t
      have key : ∀ (l O : List Tm), (∀ u ∈ l, szT u ≤ n) → PutP l O (l.foldl (fun O u => putM u O) O) := by
        intro l
        induction l with
        | nil => intro O _; exact ⟨fun x h => h, by simp, fun x h h' => absurd h h', fun C _ _ x h => .inl h, by simp⟩
        | cons t l ih =>
          intro O hl
          have h1 := putN_P n t O (hl t (by simp))
          have h2 := ih (putM t O) fun u hu => hl u (by simp [hu])
          rw [List.foldl_cons]
          refine ⟨fun x h => h2.sub x (h1.sub x h), fun x hx => ?_, fun x hx hn p hp => ?_, fun C c1 c2 x hx => ?_, ?_⟩
          · rcases List.mem_cons.1 hx with h | h
            · subst h; exact h2.sub x (h1.has x (by simp))
            · exact h2.has x h
          · by_cases hx2 : x ∈ putM t O
            · exact h2.sub p (h1.cl x hx2 hn p hp)
            · exact h2.cl x hx hx2 p hp
          · rcases h2.least C (fun y hy => c1 y (by simp [hy])) c2 x hx with h | h
            · exact h1.least C (fun y hy => by rw [List.mem_singleton] at hy; subst hy; exact c1 y (by simp)) c2 x h
            · exact .inr h
          · have e1 := h1.len
            have e2 := h2.len
            simp only [szL] at e1 ⊢
            omega
      have hK := key (parts t) (O ++ [t]) fun u hu => by have := sz_part hu; omega
      refine ⟨fun x hx => hK.sub x (by simp [hx]), fun x hx => ?_, fun x hx hn p hp' => ?_, fun C c1 c2 x hx => ?_, ?_⟩
      · rw [List.mem_singleton] at hx; subst hx; exact hK.sub x (by simp)
      · by_cases e : x = t
        · subst e; exact hK.has p hp'
        · exact hK.cl x hx (by simp [hn, e]) p hp'
      · have ct := c1 t (by simp)
        rcases hK.least C (fun y hy => c2 t ct y hy) c2 x hx with h | h
        · rcases List.mem_append.1 h with h | h
          · exact .inl h
          · rw [List.mem_singleton] at h; subst h; exact .inr ct
        · exact .inr h
      · have e1 := hK.len
        simp only [List.length_append, List.length_singleton, szL] at e1 ⊢
        omega
theorem putM_P (t : Tm) (O : List Tm) : PutP [t] O (putM t O) := putN_P _ t O (Nat.le_refl _)
theorem putM_may {t : Tm} {O : List Tm} (ht : mayF t = true) (hO : ∀ u ∈ O, mayF u = true) : ∀ u ∈ putM t O, mayF u = true := fun u hu =>
  ((putM_P t O).least (fun x => mayF x = true) (fun y hy => by rw [List.mem_singleton] at hy; subst hy; exact ht) (fun x hx p hp => may_part hx hp) u hu).elim (hO u) id

/-- What is open, by the map. -/
def openM (l : List Tm) : List Tm := l.foldl (fun O u => putM u O) []
theorem openM_P (l : List Tm) : PutP l [] (openM l) := putL_P putM_P l []
theorem openM_may {l : List Tm} (hl : ∀ u ∈ l, mayF u = true) : ∀ u ∈ openM l, mayF u = true := fun u hu =>
  ((openM_P l).least (fun x => mayF x = true) hl (fun x hx p hp => may_part hx hp) u hu).elim (by simp) id
theorem openM_mem {l : List Tm} (hg : ∀ t ∈ l, Gd t) (x : Tm) : x ∈ openM l ↔ x ∈ openF l := by
  have h1 := openM_P l
  have h2 := openF_P hg
  constructor
  · intro hx
    exact (h1.least (· ∈ openF l) h2.has (fun y hy p hp => h2.closed y hy p hp) x hx).elim (by simp) id
  · intro hx
    exact h2.least (· ∈ openM l) h1.has (fun y hy p hp => h1.cl y hy (by simp) p hp) x hx
theorem openG_ss : ∀ (n : Nat) (T L : List Tm), L.Pairwise (fun a b => ordT a b < 0) → (openG n T L).Pairwise (fun a b => ordT a b < 0)
  | 0, T, L, h => by cases T <;> exact h
  | n + 1, [], L, h => h
  | n + 1, t :: T, L, h => by
    have hA : (addF L t).Pairwise (fun a b => ordT a b < 0) := by rw [addF_insO]; exact insO_ss totT h
    rw [openG]
    split
    · exact openG_ss n _ _ hA
    · exact openG_ss n _ _ hA
theorem openF_ss (l : List Tm) : (openF l).Pairwise (fun a b => ordT a b < 0) := openG_ss _ _ _ .nil
theorem sort_open {l acc : List Tm} (hg : ∀ t ∈ l, Gd t) (h : ∀ x, x ∈ acc ↔ x ∈ openM l) : rsortF acc = openF l := by
  obtain ⟨h1, h2⟩ := rsort_ss acc
  exact ss_ext totT h1 (openF_ss l) fun x => by rw [h2, h, openM_mem hg]

/-- The entries of terms. -/
def entsT (O : List Tm) : Ents := O.map fun t => (.string (keyT t), t.sv)
theorem entsT_app (O : List Tm) (t : Tm) : entsT (O ++ [t]) = entsT O ++ [(.string (keyT t), t.sv)] := by simp [entsT]
theorem entsT_no {O : List Tm} {t : Tm} (hO : ∀ u ∈ O, mayF u = true) (ht : mayF t = true) (hn : amongF O t = false) : ∀ p ∈ entsT O, p.1 ≠ .string (keyT t) := by
  intro p hp e
  obtain ⟨u, hu, rfl⟩ := List.mem_map.1 hp
  have e : keyT u = keyT t := by simpa using e
  have := keyT_inj (may_allR (hO u hu)) (may_allR ht) e
  subst this
  rw [among_iff.2 hu] at hn
  cases hn
theorem entsT_yes {O : List Tm} {t : Tm} (h : amongF O t = true) : (Value.string (keyT t), t.sv) ∈ entsT O := List.mem_map.2 ⟨t, among_iff.1 h, rfl⟩
end Go.Proofs.Ytmnmhehddbemkaa
namespace Go.Proofs.Ytmnmhehddbemkaa
open Go Go.Eng

theorem gen_may (ns : List Int) (d : Nat) (hd : d ≤ 4) (j : Int) (hj : 0 ≤ j ∧ j ≤ ns.length) : mayF (genT ns d j).1 = true := by
  obtain ⟨h1, h2⟩ := genT_may ns d j hj
  have h3 := (genT_gd ns d j hj).2
  have : 2 ^ (d + 1) ≤ 2 ^ 5 := Nat.pow_le_pow_right (by omega) (by omega)
  rw [mayF_iff, h1, decide_eq_true (by omega)]
  rfl
theorem genL_may (ns : List Int) : ∀ (n : Nat) (j : Int), 0 ≤ j ∧ j ≤ ns.length → ∀ t ∈ genL ns n j, mayF t = true
  | 0, j, _, t, ht => by simp [genL] at ht
  | n + 1, j, h, t, ht => by
    rw [genL] at ht
    split at ht
    · rcases List.mem_cons.1 ht with e | ht
      · subst e; exact gen_may ns 3 (by omega) j h
      · exact genL_may ns n _ (genT_le ns 3 j h) t ht
    · cases ht

theorem among_congr {O O' : List Tm} (h : ∀ x, x ∈ O ↔ x ∈ O') (t : Tm) : amongF O t = amongF O' t := by
  cases e : amongF O' t with
  | true => exact among_iff.2 ((h t).2 (among_iff.1 e))
  | false =>
    cases e2 : amongF O t with
    | false => rfl
    | true => rw [among_iff.2 ((h t).1 (among_iff.1 e2))] at e; cases e
mutual
theorem made_congr {O O' : List Tm} (h : ∀ x, x ∈ O ↔ x ∈ O') : ∀ t : Tm, madeT O t = madeT O' t
  | .mk k n s l => by rw [madeT, madeT, among_congr h, madeL_congr h l]
theorem madeL_congr {O O' : List Tm} (h : ∀ x, x ∈ O ↔ x ∈ O') : ∀ l : List Tm, madeL O l = madeL O' l
  | [] => rfl
  | t :: l => by rw [madeL, madeL, made_congr h t, madeL_congr h l]
end
theorem made_in {O : List Tm} {t : Tm} (h : t ∈ O) : madeT O t = true := by
  obtain ⟨k, n, s, l⟩ := t
  rw [madeT, among_iff.2 h]
  simp
mutual
/-- What is made of what is made is made. -/
theorem made_tr {O O' : List Tm} (h : ∀ x ∈ O', madeT O x = true) : ∀ t : Tm, madeT O' t = true → madeT O t = true
  | .mk k n s l, hm => by
    have hm0 := hm
    rw [madeT] at hm
    simp only [Bool.or_eq_true, Bool.and_eq_true] at hm
    rcases hm with h1 | h1 | h1
    · rw [madeT, h1]; rfl
    · exact h _ (among_iff.1 h1)
    · rw [madeT, h1.1, madeL_tr h l h1.2]; simp
theorem madeL_tr {O O' : List Tm} (h : ∀ x ∈ O', madeT O x = true) : ∀ l : List Tm, madeL O' l = true → madeL O l = true
  | [], _ => rfl
  | t :: l, hm => by
    rw [madeL, Bool.and_eq_true] at hm
    rw [madeL, made_tr h t hm.1, madeL_tr h l hm.2]
    rfl
end
theorem madeL_mem {O : List Tm} : ∀ {l : List Tm}, madeL O l = true → ∀ t ∈ l, madeT O t = true
  | [], _, t, ht => by cases ht
  | u :: l, h, t, ht => by
    rw [madeL, Bool.and_eq_true] at h
    rcases List.mem_cons.1 ht with e | ht
    · subst e; exact h.1
    · exact madeL_mem h.2 t ht
theorem made_parts {O : List Tm} (hc : ∀ x ∈ O, ∀ p ∈ parts x, p ∈ O) {x : Tm} (hx : madeT O x = true) : ∀ p ∈ parts x, madeT O p = true := by
  intro p hp
  obtain ⟨k, n, s, l⟩ := x
  rw [madeT] at hx
  simp only [Bool.or_eq_true, Bool.and_eq_true] at hx
  rcases hx with h1 | h1 | h1
  · have : k = 1 := by simpa using h1
    subst this
    rw [parts] at hp
    simp at hp
  · exact made_in (hc _ (among_iff.1 h1) p hp)
  · exact madeL_mem h1.2 p (parts_sub hp)
theorem openM_cl (l : List Tm) : ∀ x ∈ openM l, ∀ p ∈ parts x, p ∈ openM l := fun x hx p hp => (openM_P l).cl x hx (by simp) p hp
theorem openM_sub {l m : List Tm} (h : ∀ x ∈ l, x ∈ m) : ∀ x ∈ openM l, x ∈ openM m := fun x hx =>
  ((openM_P l).least (· ∈ openM m) (fun t ht => (openM_P m).has t (h t ht)) (openM_cl m) x hx).elim (by simp) id
theorem made_mono {l m : List Tm} (h : ∀ x ∈ l, x ∈ m) {t : Tm} (ht : madeT (openM l) t = true) : madeT (openM m) t = true :=
  made_tr (fun x hx => made_in (openM_sub h x hx)) t ht
/-- What can be made adds nothing. -/
theorem made_adds {l : List Tm} {u : Tm} (hu : madeT (openM l) u = true) (t : Tm) : madeT (openM (l ++ [u])) t = madeT (openM l) t := by
  cases e : madeT (openM l) t with
  | true => exact made_mono (fun x hx => by simp [hx]) e
  | false =>
    cases e2 : madeT (openM (l ++ [u])) t with
    | false => rfl
    | true =>
      have hall : ∀ x ∈ openM (l ++ [u]), madeT (openM l) x = true := fun x hx =>
        ((openM_P (l ++ [u])).least (fun y => madeT (openM l) y = true) (fun y hy => by
          rcases List.mem_append.1 hy with h | h
          · exact made_in ((openM_P l).has y h)
          · rw [List.mem_singleton] at h; subst h; exact hu) (fun y hy p hp => made_parts (openM_cl l) hy p hp) x hx).elim (by simp) id
      rw [made_tr hall t e2] at e
      cases e
theorem openF_open {l : List Tm} (hm : ∀ u ∈ l, mayF u = true) : openF (openF l) = openF l := by
  have hg : ∀ t ∈ l, Gd t := fun t ht => mayF_gd (hm t ht)
  have hp := openF_P hg
  have hp2 := openF_P hp.gd
  exact ss_ext totT (openF_ss _) (openF_ss _) fun x => ⟨fun hx => hp2.least (· ∈ openF l) (fun y hy => hy) (fun y hy p hpp => hp.closed y hy p hpp) x hx, fun hx => hp2.has x hx⟩
theorem openF_may {l : List Tm} (hm : ∀ u ∈ l, mayF u = true) : ∀ u ∈ openF l, mayF u = true := fun u hu =>
  openM_may hm u ((openM_mem (fun t ht => mayF_gd (hm t ht)) u).2 hu)
theorem szL_may : ∀ {l : List Tm}, (∀ u ∈ l, mayF u = true) → szL l ≤ 64 * l.length
  | [], _ => by simp [szL]
  | t :: l, h => by
    have h1 := h t (by simp)
    rw [mayF_iff, Bool.and_eq_true, decide_eq_true_eq] at h1
    have h2 := szL_may (l := l) fun u hu => h u (by simp [hu])
    rw [szL, List.length_cons]
    omega
theorem may_T1 (k : Int) (u : Tm) (hk : k = 3 ∨ k = 4) (h : allR u = true) (hs : szT u ≤ 63) (hd : dpT u ≤ 15) : mayF (.mk k 0 .empty [u]) = true := by
  rw [mayF_iff, allR, right_k1 k u hk]
  simp [allRL, h, szT, szL, dpT, dpL]
  omega
theorem may_T2 (k : Int) (u v : Tm) (hk : k = 5 ∨ k = 6 ∨ k = 7) (h : allR u = true) (h' : allR v = true) (hs : szT u + szT v ≤ 63) (hd : dpT u ≤ 15) (hd' : dpT v ≤ 15) : mayF (.mk k 0 .empty [u, v]) = true := by
  rw [mayF_iff, allR, right_k2 k u v hk]
  simp [allRL, h, h', szT, szL, dpT, dpL]
  omega
end Go.Proofs.Ytmnmhehddbemkaa
namespace Go.Proofs.Ytmnmhehddbemkaa
open Go Go.Eng

/-- A move comes to a term. -/
def StepOk (l R : List Tm) (m : Mv) (t : Tm) : Prop := ∃ s, readF m = some s ∧ nearF s R.length l.length = true ∧ stepT l R s = some t ∧ mayF t = true
theorem runG_snoc {l : List Tm} {m : Mv} {t : Tm} : ∀ (ms : List Mv) (acc R : List Tm), runG l ms acc = (R, 0) → StepOk l R m t → runG l (ms ++ [m]) acc = (R ++ [t], 0)
  | [], acc, R, h, ⟨s, h1, h2, h3, h4⟩ => by
    rw [runG] at h
    have e : acc = R := by simpa using h
    subst e
    rw [List.nil_append, runG, h1]
    simp only [h2, if_true]
    have : doesF l acc s = (t, true) := by simp only [doesF, h3, h4]
    rw [this]
    rfl
  | x :: ms, acc, R, h, hs => by
    rw [List.cons_append, runG]
    rw [runG] at h
    cases hr : readF x with
    | none => rw [hr] at h; simp at h
    | some s =>
      rw [hr] at h
      simp only at h ⊢
      cases hn : nearF s acc.length l.length with
      | false => rw [hn] at h; simp at h
      | true =>
        rw [hn] at h
        simp only [if_true] at h ⊢
        rcases hd : doesF l acc s with ⟨u, b⟩
        rw [hd] at h
        cases b with
        | false => simp at h
        | true => exact runG_snoc ms (acc ++ [u]) R h hs

abbrev FE := List (Tm × Mv × Tm)
abbrev keysF (F : FE) : List Tm := F.map (·.1)
/-- Where a term comes from. -/
def FromOk (l : List Tm) (F : FE) (i : Nat) (t : Tm) (m : Mv) (f : Tm) : Prop :=
  mayF t = true ∧ ((m.k = 1 ∧ ∃ j : Nat, m.a = j ∧ l[j]? = some t) ∨
    (∃ j, j < i ∧ (keysF F)[j]? = some f ∧ ((m.k = 3 ∧ f.k = 7 ∧ f.kids[0]? = some t) ∨ (m.k = 4 ∧ f.k = 7 ∧ f.kids[1]? = some t) ∨ (m.k = 5 ∧ f.k = 6 ∧ f.kids[1]? = some t))))
def FInv (l : List Tm) (F : FE) : Prop := (∀ (i : Nat) (t : Tm) (m : Mv) (f : Tm), F[i]? = some (t, m, f) → FromOk l F i t m f) ∧ (keysF F).Nodup

/-- How many of these are not among those. -/
def phi (F : FE) (R : List Tm) : Nat := ((keysF F).filter fun t => !amongF R t).length
structure RInv (l : List Tm) (F : FE) (R : List Tm) (M : List Mv) : Prop where
  len : M.length = R.length
  run : runG l M [] = (R, 0)
  may : ∀ t ∈ R, mayF t = true
/-- How far it goes for a term, at most. -/
def Far (F : FE) (n : Nat) (t : Tm) : Prop := (∃ i, (keysF F)[i]? = some t ∧ i < n) ∨ (t ∉ keysF F ∧ F.length + szT t ≤ n)
def costF (F : FE) (t : Tm) : Nat := if amongF (keysF F) t then 0 else szT t
theorem filter_le {α : Type} {p q : α → Bool} (h : ∀ x, p x = true → q x = true) : ∀ l : List α, (l.filter p).length ≤ (l.filter q).length
  | [] => Nat.le_refl _
  | x :: l => by
    have ih := filter_le h l
    rw [List.filter_cons, List.filter_cons]
    cases hp : p x with
    | true => rw [h x hp]; simp; omega
    | false =>
      cases q x with
      | true => simp; omega
      | false => simpa using ih
theorem filter_lt {α : Type} {p q : α → Bool} (h : ∀ x, p x = true → q x = true) {y : α} (hq : q y = true) (hp : p y = false) : ∀ l : List α, y ∈ l → (l.filter p).length + 1 ≤ (l.filter q).length
  | [], hy => by cases hy
  | x :: l, hy => by
    rw [List.filter_cons, List.filter_cons]
    rcases List.mem_cons.1 hy with e | hy
    · subst e
      have := filter_le h l
      rw [hp, hq]
      simp
      omega
    · have ih := filter_lt h hq hp l hy
      cases hpx : p x with
      | true => rw [h x hpx]; simp; omega
      | false =>
        cases q x with
        | true => simp; omega
        | false => simpa using ih
theorem phi_le (F : FE) (R : List Tm) : phi F R ≤ F.length := by
  have := List.length_filter_le (fun t => !amongF R t) (keysF F)
  simpa [phi] using this
theorem among_app (R S : List Tm) (t : Tm) : amongF (R ++ S) t = (amongF R t || amongF S t) := by
  unfold amongF
  rw [List.any_append]
theorem phi_mono (F : FE) (R S : List Tm) : phi F (R ++ S) ≤ phi F R :=
  filter_le (fun x h => by
    rw [among_app] at h
    simp only [Bool.not_eq_true', Bool.or_eq_false_iff] at h ⊢
    exact h.1) _
theorem phi_add {F : FE} {R : List Tm} {t : Tm} (ht : t ∈ keysF F) (hn : t ∉ R) : phi F (R ++ [t]) + 1 ≤ phi F R :=
  filter_lt (fun x h => by
    rw [among_app] at h
    simp only [Bool.not_eq_true', Bool.or_eq_false_iff] at h ⊢
    exact h.1) (by
    cases e : amongF R t with
    | false => rfl
    | true => exact absurd (among_iff.1 e) hn) (by
    rw [among_app, among_iff.2 (show t ∈ [t] by simp), Bool.or_true]
    rfl) _ ht

def SBound (F : FE) (t : Tm) (S : List Tm) : Prop :=
  (∀ i : Nat, (keysF F)[i]? = some t → ∀ x ∈ S, ∃ k, k ≤ i ∧ (keysF F)[k]? = some x) ∧ (t ∉ keysF F → ∀ x ∈ S, x ∈ keysF F ∨ szT x ≤ szT t)
structure PvP (l : List Tm) (F : FE) (t : Tm) (R : List Tm) (i : Nat) (R' : List Tm) (M' : List Mv) : Prop where
  inv : RInv l F R' M'
  ext : ∃ S, R' = R ++ S ∧ SBound F t S
  at_ : R'[i]? = some t
  cost : R'.length + phi F R' ≤ R.length + phi F R + costF F t
  last : t ∉ R → R'.length = i + 1

theorem RInv.add {l : List Tm} {F : FE} {R : List Tm} {M : List Mv} {m : Mv} {t : Tm} (h : RInv l F R M) (hs : StepOk l R m t) : RInv l F (R ++ [t]) (M ++ [m]) :=
  ⟨by rw [List.length_append, List.length_append, h.len]; rfl, runG_snoc M [] R h.run hs, fun x hx => by
    rcases List.mem_append.1 hx with hx | hx
    · exact h.may x hx
    · rw [List.mem_singleton] at hx; subst hx; obtain ⟨_, _, _, _, h4⟩ := hs; exact h4⟩

theorem getD_of {R : List Tm} {i : Nat} {t : Tm} (h : R[i]? = some t) : R.getD i .zero = t := by
  rw [List.getD_eq_getElem?_getD, h]; rfl
theorem inF_of {R : List Tm} {i : Nat} {t : Tm} (h : R[i]? = some t) : inF i R.length = true := by
  have := (List.getElem?_eq_some_iff.1 h).1
  simp [inF]
  omega
theorem step_given {l R : List Tm} {m : Mv} {t : Tm} {j : Nat} (hm : mayF t = true) (hk : m.k = 1) (ha : m.a = j) (hl : l[j]? = some t) : StepOk l R m t :=
  ⟨.given m.a, by rw [readF, if_pos hk], by rw [ha]; exact inF_of hl, by rw [stepT, ha]; simp only [Int.toNat_natCast]; rw [getD_of hl], hm⟩
theorem step_half {l R : List Tm} {m : Mv} {t f : Tm} {a : Nat} (hm : mayF t = true) (hf : R[a]? = some f) (ha : m.a = a) (h : (m.k = 3 ∧ f.k = 7 ∧ f.kids[0]? = some t) ∨ (m.k = 4 ∧ f.k = 7 ∧ f.kids[1]? = some t) ∨ (m.k = 5 ∧ f.k = 6 ∧ f.kids[1]? = some t)) : StepOk l R m t := by
  rcases h with ⟨h1, h2, h3⟩ | ⟨h1, h2, h3⟩ | ⟨h1, h2, h3⟩
  · refine ⟨.half a 7 0, by rw [readF, h1, ha]; rfl, inF_of hf, ?_, hm⟩
    have hlt := (List.getElem?_eq_some_iff.1 h3).1
    rw [stepT]
    simp only [Int.toNat_natCast]
    rw [getD_of hf, if_pos ⟨h2, by omega⟩]
    exact congrArg some (getD_of h3)
  · refine ⟨.half a 7 1, by rw [readF, h1, ha]; rfl, inF_of hf, ?_, hm⟩
    have hlt := (List.getElem?_eq_some_iff.1 h3).1
    rw [stepT]
    simp only [Int.toNat_natCast]
    rw [getD_of hf, if_pos ⟨h2, by omega⟩]
    exact congrArg some (getD_of h3)
  · refine ⟨.half a 6 1, by rw [readF, h1, ha]; rfl, inF_of hf, ?_, hm⟩
    have hlt := (List.getElem?_eq_some_iff.1 h3).1
    rw [stepT]
    simp only [Int.toNat_natCast]
    rw [getD_of hf, if_pos ⟨h2, by omega⟩]
    exact congrArg some (getD_of h3)

def mvK (k : Int) : Int := if k = 1 then 2 else if k = 3 then 6 else if k = 4 then 7 else if k = 5 then 8 else if k = 6 then 9 else if k = 7 then 10 else 0
/-- The move by which a term is made of its kids' results. -/
theorem step_make {l R : List Tm} {k n : Int} {s : ByteArray} {kl : List Tm} {m : Mv} (hm : mayF (.mk k n s kl) = true) (hk2 : k ≠ 2) (hmk : m.k = mvK k) (hs : m.s = s) (hA : ∀ t, kl[0]? = some t → ∃ a : Nat, m.a = a ∧ R[a]? = some t) (hB : ∀ t, kl[1]? = some t → ∃ b : Nat, m.b = b ∧ R[b]? = some t) : StepOk l R m (.mk k n s kl) := by
  have hr : rightF (.mk k n s kl) = true := by
    have := may_allR hm
    rw [allR, Bool.and_eq_true] at this
    exact this.1
  obtain ⟨h1, h2, h3⟩ := right_spec hr
  have hk := kidsF_k (k := k) (by omega)
  have hn : n = 0 := by rcases h3 with h | h; exact h; exact absurd h.1 hk2
  subst hn
  have two : k = 5 ∨ k = 6 ∨ k = 7 → ∃ x y, kl = [x, y] := by
    intro h
    have hl : kl.length = 2 := by
      have : kidsF k = 2 := by rcases h with rfl | rfl | rfl <;> rfl
      omega
    match kl, hl with
    | [x, y], _ => exact ⟨x, y, rfl⟩
  have one : k = 3 ∨ k = 4 → ∃ x, kl = [x] := by
    intro h
    have hl : kl.length = 1 := by
      have : kidsF k = 1 := by rcases h with rfl | rfl <;> rfl
      omega
    match kl, hl with
    | [x], _ => exact ⟨x, rfl⟩
  have hse : k ≠ 1 → s = .empty := fun h => by rcases h2 with h' | h'; exact h'; exact absurd h'.1 h
  by_cases e1 : k = 1
  · subst e1
    have hl : kl = [] := by
      have : kidsF 1 = 0 := rfl
      exact List.length_eq_zero_iff.1 (by omega)
    subst hl
    refine ⟨.atom s, ?_, rfl, rfl, hm⟩
    rw [readF, hmk, hs]
    rfl
  have hse := hse e1
  subst hse
  by_cases e3 : k = 3 ∨ k = 4
  · obtain ⟨x, rfl⟩ := one e3
    obtain ⟨a, ha, hR⟩ := hA x rfl
    refine ⟨.one k a, ?_, inF_of hR, ?_, hm⟩
    · rw [readF, hmk, ha]
      rcases e3 with rfl | rfl <;> rfl
    · rw [stepT]; simp only [Int.toNat_natCast]; rw [getD_of hR]
  have e5 : k = 5 ∨ k = 6 ∨ k = 7 := by omega
  obtain ⟨x, y, rfl⟩ := two e5
  obtain ⟨a, ha, hR⟩ := hA x rfl
  obtain ⟨b, hb, hR2⟩ := hB y rfl
  refine ⟨.two k a b, ?_, ?_, ?_, hm⟩
  · rw [readF, hmk, ha, hb]
    rcases e5 with rfl | rfl | rfl <;> rfl
  · rw [nearF, inF_of hR, inF_of hR2]; rfl
  · rw [stepT]; simp only [Int.toNat_natCast]; rw [getD_of hR, getD_of hR2]
end Go.Proofs.Ytmnmhehddbemkaa
/- The proof engine: two names change places. -/
namespace Go.Eng

def swpN (a b : Nat) : Nat → Nat := fun k => bif Nat.beq k a then b else bif Nat.beq k b then a else k
theorem swpN_swpN (a b k : Nat) : swpN a b (swpN a b k) = k := by
  unfold swpN
  cases h1 : Nat.beq k a with
  | true =>
    have e := beq_true h1
    subst e
    simp only [cond_true]
    cases h2 : Nat.beq b k with
    | true => simpa using beq_true h2
    | false => simp
  | false =>
    simp only [cond_false]
    cases h2 : Nat.beq k b with
    | true =>
      have e := beq_true h2
      subst e
      simp only [cond_true]
      simp
    | false => simp [h1, h2]

mutual
theorem ren_ren {r : Nat → Nat} (hr : ∀ k, r (r k) = k) : ∀ s : SV, ren r (ren r s) = s
  | .int _ _ => rfl
  | .bl _ => rfl
  | .tt => rfl
  | .ff => rfl
  | .str _ => rfl
  | .val _ => rfl
  | .lst _ _ => rfl
  | .gl k _ _ => by simp only [ren, hr]
  | .tl _ _ => rfl
  | .arr k _ => by simp only [ren, hr]
  | .sl k _ _ _ => by simp only [ren, hr]
  | .mp k => by simp only [ren, hr]
  | .ptr k _ => by simp only [ren, hr]
  | .rp _ _ => rfl
  | .agg l => by simp only [ren, rens_rens hr l]
  | .tup l => by simp only [ren, rens_rens hr l]
  | .clo _ l => by simp only [ren, rens_rens hr l]
  | .any => rfl
theorem rens_rens {r : Nat → Nat} (hr : ∀ k, r (r k) = k) : ∀ l : List SV, rens r (rens r l) = l
  | [] => rfl
  | s :: l => by simp only [rens, ren_ren hr s, rens_rens hr l]
end

def renE (r : Nat → Nat) : List (Nat × SV) → List (Nat × SV)
  | [] => []
  | (t, s) :: l => (t, ren r s) :: renE r l
theorem nth_renE (r : Nat → Nat) : ∀ (env : List (Nat × SV)) (t : Nat), nth (renE r env) t = ren r (nth env t)
  | [], _ => rfl
  | (i, s) :: l, t => by
    simp only [renE, nth]
    cases Nat.beq i t with
    | true => rfl
    | false => exact nth_renE r l t

theorem ownq_mapO' {r : Nat → Nat} (hr : ∀ k, r (r k) = k) : ∀ (l : List (Nat × SO)) (j : Nat), ownq (mapO r l) j = (ownq l (r j)).map (renO r)
  | [], _ => rfl
  | (k, o) :: l, j => by
    simp only [mapO, ownq]
    have e : Nat.beq (r k) j = Nat.beq k (r j) := by
      cases h1 : Nat.beq (r k) j with
      | true =>
        have := beq_true h1
        subst this
        rw [hr]; simp
      | false =>
        cases h2 : Nat.beq k (r j) with
        | false => rfl
        | true =>
          have := beq_true h2
          subst this
          rw [hr] at h1
          simp at h1
    rw [e]
    cases Nat.beq k (r j) with
    | true => rfl
    | false => exact ownq_mapO' hr l j

theorem at_swap {E : Stc} {m : Md} {s : List Fr} {env : List (Nat × SV)} {own : List (Nat × SO)} {nx : List Nat} (a b : Nat) (kk : Sat E m s (renE (swpN a b) env) (mapO (swpN a b) own) nx) (ha : Nat.ble E.cx.m0 a = true := by rfl) (hb : Nat.ble E.cx.m0 b = true := by rfl) : Sat E m s env own nx := by
  refine sat_mono (fun ac w h => ?_) kk
  obtain ⟨hdf, g, H, hd⟩ := h
  have hr := swpN_swpN a b
  have ha := Nat.le_of_ble_eq_true ha
  have hb := Nat.le_of_ble_eq_true hb
  have den : ∀ s x, Den g H s x → Den (fun k => g (swpN a b k)) H (ren (swpN a b) s) x := fun s x h =>
    Den.unren (g := fun k => g (swpN a b k)) (g' := g) (r := swpN a b) (fun _ => rfl) (ren (swpN a b) s) x (by rw [ren_ren hr]; exact h)
  have dens : ∀ l xs, Dens g H l xs → Dens (fun k => g (swpN a b k)) H (rens (swpN a b) l) xs := fun l xs h =>
    Dens.unren (g := fun k => g (swpN a b k)) (g' := g) (r := swpN a b) (fun _ => rfl) (rens (swpN a b) l) xs (by rw [rens_rens hr]; exact h)
  have hfix : ∀ k, k < E.cx.m0 → swpN a b k = k := fun k hk => by
    unfold swpN
    have h1 : Nat.beq k a = false := by
      cases h : Nat.beq k a with
      | false => rfl
      | true => have := beq_true h; omega
    have h2 : Nat.beq k b = false := by
      cases h : Nat.beq k b with
      | false => rfl
      | true => have := beq_true h; omega
    simp [h1, h2]
  refine ⟨hdf, fun k => g (swpN a b k), H, { size := hd.size, den := fun t => by rw [nth_renE]; exact den _ _ (hd.den t), ok := fun k o hk => ?_, inj := fun i j hi hj c hci hcj => ?_, hp := hd.hp, base := { hd.base with fix := fun k hk => by show g (swpN a b k) = _; rw [hfix k hk]; exact hd.base.fix k hk } }⟩
  · rw [ownq_mapO' hr] at hk
    cases ho : ownq own (swpN a b k) with
    | none => rw [ho] at hk; cases hk
    | some so =>
      rw [ho] at hk
      simp only [Option.map_some, Option.some.injEq] at hk
      subst hk
      have := hd.ok _ _ ho
      cases so with
      | cells ty cs =>
        obtain ⟨b, vs, e, h1, h2⟩ := this
        exact ⟨b, vs, e, dens cs vs h1, h2⟩
      | tok sz => exact this
      | obj f => exact this
      | buf rw nn =>
        rcases this with ⟨ty, b, ws, e, h1, h2⟩ | h
        · exact .inl ⟨ty, b, ws, e, Dens.plain g _ H rw nn ws h1, h2⟩
        · exact .inr h
  · have key : ∀ i, (ownq (mapO (swpN a b) own) i).isSome = true → (ownq own (swpN a b i)).isSome = true := fun i hi => by
      rw [ownq_mapO' hr] at hi
      simpa using hi
    have e := hd.inj _ _ (key i hi) (key j hj) c hci hcj
    have := congrArg (swpN a b) e
    rw [hr, hr] at this
    exact this
end Go.Eng
namespace Go.Eng
open Go.Sort

theorem putRow_at {α : Type} [Inhabited α] (enc : α → Value) (w : World) (b ty : Nat) (v1 v2 : List Value) (d : Array α) (h : w.heap[b]? = some (.cells (v1 ++ v2).toArray ty (0, 0))) (hs : d.size = v1.length) :
    putRow enc w b 0 d = w.setRow b (d.toList.map enc ++ v2).toArray := by
  show mapBlock w b (putCells enc 0 d) = mapBlock w b (fun _ => (d.toList.map enc ++ v2).toArray)
  refine mapBlock_congr w b _ _ fun c e fr hc => ?_
  rw [h] at hc
  cases hc
  unfold putCells
  apply Array.ext
  · simp [hs]
  · intro i h1 h2
    simp only [Array.size_mapIdx, List.size_toArray, List.length_append] at h1
    simp only [Array.getElem_mapIdx, List.getElem_toArray]
    by_cases hi : i < d.size
    · rw [if_pos ⟨Nat.zero_le _, by omega⟩, List.getElem_append_left (by simpa using hi), List.getElem_map, Nat.sub_zero, getElem!_pos d i hi]
      rfl
    · rw [if_neg (by omega), List.getElem_append_right (by omega), List.getElem_append_right (by simpa using hi)]
      simp only [List.length_map, Array.length_toList, hs]

theorem holds_at {α : Type} [Inhabited α] (enc : α → Value) (w : World) (b ty : Nat) (v2 : List Value) (d : Array α) (h : w.heap[b]? = some (.cells (d.toList.map enc ++ v2).toArray ty (0, 0))) : Holds enc w b 0 d := by
  intro j hj
  refine ⟨?_, by simp [World.frozen?, h]⟩
  rw [Nat.zero_add, ok_cell h, List.getElem?_append_left (by simpa using hj), List.getElem?_map, Array.getElem?_toList, Array.getElem?_eq_getElem hj, getElem!_pos d j hj]
  rfl

theorem flatten_get {β : Type} {k : Nat} : ∀ (L : List (List β)), (∀ x ∈ L, x.length = k) → ∀ i j, j < k → L.flatten[i * k + j]? = (L[i]?).bind (·[j]?)
  | [], _, i, j, _ => by simp
  | x :: L, h, 0, j, hj => by
    have := h x (by simp)
    simp only [List.flatten_cons, Nat.zero_mul, Nat.zero_add, List.getElem?_cons_zero, Option.bind_some]
    rw [List.getElem?_append_left (by omega)]
  | x :: L, h, i + 1, j, hj => by
    have h1 := h x (by simp)
    have ih := flatten_get L (fun y hy => h y (by simp [hy])) i j hj
    simp only [List.flatten_cons, List.getElem?_cons_succ]
    rw [← ih, List.getElem?_append_right (by rw [h1, Nat.add_mul]; omega), h1]
    congr 1
    rw [Nat.add_mul]
    omega
theorem flatK_eq {α : Type} [Inhabited α] (enc : α → List Value) (k : Nat) (hk : ∀ x, (enc x).length = k) (es : List α) : (flatK enc k es.toArray).toList = (es.map enc).flatten := by
  have hlen : (es.map enc).flatten.length = es.length * k := by
    induction es with
    | nil => simp
    | cons x l ih => simp only [List.map_cons, List.flatten_cons, List.length_append, hk, ih, List.length_cons, Nat.add_mul]; omega
  apply List.ext_getElem?
  intro t
  by_cases ht : t < es.length * k
  · have k0 : 0 < k := by
      rcases Nat.eq_zero_or_pos k with h | h
      · subst h; simp at ht
      · exact h
    have hi : t / k < es.length := (Nat.div_lt_iff_lt_mul k0).2 ht
    have hj : t % k < k := Nat.mod_lt _ k0
    have e : t / k * k + t % k = t := Nat.div_add_mod' t k
    have h1 := flatten_get (es.map enc) (fun x hx => by obtain ⟨y, _, rfl⟩ := List.mem_map.1 hx; exact hk y) (t / k) (t % k) hj
    rw [e] at h1
    rw [h1, List.getElem?_map, List.getElem?_eq_getElem hi]
    have h2 : t < (flatK enc k es.toArray).size := by simpa using ht
    rw [Array.getElem?_toList, Array.getElem?_eq_getElem h2]
    have h3 := get_flatK enc k es.toArray t (by simpa using ht)
    rw [getElem!_pos _ t h2] at h3
    rw [h3, getElem!_pos es.toArray (t / k) (by simpa using hi), getElem!_pos _ _ (by rw [hk]; exact hj)]
    simp [hk, hj]
  · rw [List.getElem?_eq_none (by simpa using Nat.not_lt.1 ht), List.getElem?_eq_none (by omega)]

/-- A world that differs by what was drawn and what was laid. -/
theorem world_grow {w w' : World} (hos : w'.os = w.os) (ht : w'.tape = w.tape) (ho : w'.output = w.output) (hd : w.drawn ≤ w'.drawn) (hz : w.heap.size ≤ w'.heap.size) (hb : ∀ b, b < w.heap.size → w'.heap[b]? = w.heap[b]?) :
    ∃ q os', w' = grow (w.drewN q) os' := by
  refine ⟨w'.drawn - w.drawn, w'.heap.extract w.heap.size w'.heap.size, ?_⟩
  obtain ⟨h', t', d', o', p'⟩ := w'
  obtain ⟨h, t, d, o, p⟩ := w
  simp only at hos ht ho hd hz hb
  subst hos; subst ht; subst ho
  simp only [grow, World.drewN, World.mk.injEq, and_true, true_and]
  refine ⟨?_, by omega⟩
  apply Array.ext_getElem?
  intro i
  by_cases hi : i < h.size
  · rw [Array.getElem?_append_left hi]
    exact hb i hi
  · rw [Array.getElem?_append_right (by omega), Array.getElem?_extract]
    by_cases hi2 : i < h'.size
    · rw [if_pos (by omega)]
      congr 1
      omega
    · rw [if_neg (by omega), Array.getElem?_eq_none (by omega)]
end Go.Eng

namespace Go.Proofs.Ytmnmhehddbemkaa
open Go Go.Eng Go.Shelf Go.RowKit Go.Lib Go.Sort
set_option maxRecDepth 100000
def Try.sortTm_ren : Go.Shelf.Ren := ⟨fun | 6 => 81 | 15 => 96 | 14 => 103 | 28 => 114 | 29 => 115 | 20 => 118 | 21 => 119 | 22 => 120 | 23 => 121 | 24 => 122 | 25 => 123 | 26 => 124 | 27 => 125 | 46 => 133 | 47 => 128 | 48 => 129 | 49 => 134 | 50 => 135 | 57 => 137 | n => n, fun | 22 => 24 | 24 => 33 | 25 => 96 | 3 => 3 | 39 => 118 | 0 => 0 | 53 => 141 | 55 => 143 | 4 => 4 | 46 => 135 | 45 => 134 | 50 => 110 | 5 => 5 | 9 => 9 | 66 => 150 | 70 => 154 | 76 => 158 | 77 => 159 | n => n, fun | n => n⟩
theorem Try.sortTm : Go.Proofs.SlLaysF0.n6 Try.prog Try.sortTm_ren := {
  mixed := by kernel_rfl,
  f6 := ⟨Try.f81.name, by decide, Try.func81.trans (congrArg some (by kernel_rfl))⟩,
  f14 := ⟨Try.f103.name, by decide, Try.func103.trans (congrArg some (by kernel_rfl))⟩,
  f15 := Try.func96.trans (congrArg some (by kernel_rfl)),
  f20 := ⟨Try.f118.name, by decide, Try.func118.trans (congrArg some (by kernel_rfl))⟩,
  f21 := ⟨Try.f119.name, by decide, Try.func119.trans (congrArg some (by kernel_rfl))⟩,
  f22 := ⟨Try.f120.name, by decide, Try.func120.trans (congrArg some (by kernel_rfl))⟩,
  f23 := ⟨Try.f121.name, by decide, Try.func121.trans (congrArg some (by kernel_rfl))⟩,
  f24 := ⟨Try.f122.name, by decide, Try.func122.trans (congrArg some (by kernel_rfl))⟩,
  f25 := ⟨Try.f123.name, by decide, Try.func123.trans (congrArg some (by kernel_rfl))⟩,
  f26 := ⟨Try.f124.name, by decide, Try.func124.trans (congrArg some (by kernel_rfl))⟩,
  f27 := ⟨Try.f125.name, by decide, Try.func125.trans (congrArg some (by kernel_rfl))⟩,
  f28 := Try.func114.trans (congrArg some (by kernel_rfl)),
  f29 := Try.func115.trans (congrArg some (by kernel_rfl)),
  f46 := ⟨Try.f133.name, by decide, Try.func133.trans (congrArg some (by kernel_rfl))⟩,
  f47 := Try.func128.trans (congrArg some (by kernel_rfl)),
  f48 := Try.func129.trans (congrArg some (by kernel_rfl)),
  f49 := ⟨Try.f134.name, by decide, Try.func134.trans (congrArg some (by kernel_rfl))⟩,
  f50 := ⟨Try.f135.name, by decide, Try.func135.trans (congrArg some (by kernel_rfl))⟩,
  f57 := ⟨Try.f137.name, by decide, Try.func137.trans (congrArg some (by kernel_rfl))⟩,
  t0 := Try.underlying0,
  a0 := Try.isAgg0,
  z0 := Try.sizeOf0,
  v0 := Try.zeroValue0,
  t3 := Try.underlying3,
  a3 := Try.isAgg3,
  z3 := Try.sizeOf3,
  v3 := Try.zeroValue3,
  t4 := Try.underlying4,
  a4 := Try.isAgg4,
  z4 := Try.sizeOf4,
  v4 := Try.zeroValue4,
  t5 := Try.underlying5,
  a5 := Try.isAgg5,
  z5 := Try.sizeOf5,
  v5 := Try.zeroValue5,
  t9 := Try.underlying9,
  a9 := Try.isAgg9,
  z9 := Try.sizeOf9,
  v9 := Try.zeroValue9,
  t22 := Try.underlying24,
  a22 := Try.isAgg24,
  z22 := Try.sizeOf24,
  v22 := Try.zeroValue24,
  t25 := Try.underlying96,
  a25 := Try.isAgg96,
  z25 := Try.sizeOf96,
  v25 := Try.zeroValue96,
  t39 := Try.underlying118,
  a39 := Try.isAgg118,
  z39 := Try.sizeOf118,
  v39 := Try.zeroValue118,
  t45 := Try.underlying134,
  a45 := Try.isAgg134,
  z45 := Try.sizeOf134,
  v45 := Try.zeroValue134,
  t46 := Try.underlying135,
  a46 := Try.isAgg135,
  z46 := Try.sizeOf135,
  v46 := Try.zeroValue135,
  t50 := Try.underlying110,
  a50 := Try.isAgg110,
  z50 := Try.sizeOf110,
  v50 := Try.zeroValue110,
  t53 := Try.underlying141,
  a53 := Try.isAgg141,
  z53 := Try.sizeOf141,
  v53 := Try.zeroValue141,
  t55 := Try.underlying143,
  a55 := Try.isAgg143,
  z55 := Try.sizeOf143,
  v55 := Try.zeroValue143,
  t66 := Try.underlying150,
  a66 := Try.isAgg150,
  z66 := Try.sizeOf150,
  v66 := Try.zeroValue150,
  t70 := Try.underlying154,
  a70 := Try.isAgg154,
  z70 := Try.sizeOf154,
  v70 := Try.zeroValue154,
  t76 := Try.underlying158,
  a76 := Try.isAgg158,
  z76 := Try.sizeOf158,
  v76 := Try.zeroValue158,
  t77 := Try.underlying159,
  a77 := Try.isAgg159,
  z77 := Try.sizeOf159,
  v77 := Try.zeroValue159 }

/-- Elements: terms, as they stand in memory. -/
structure SE (H : Hp) where
  t : Tm
  vs : List Value
  sm : Sm t
  den : DenDs H (tr t) vs
abbrev zE : Tm := .mk 0 0 .empty []
theorem z0_den (H : Hp) : DenDs H (tr zE) [.int .i64 0, .int .i64 0, .string .empty, .slice none 0 0] := by
  refine ⟨rfl, rfl, rfl, ?_, trivial⟩
  show DenD H (.lst 4 (rowsT [])) _
  rw [rowsT_nil]
  exact ⟨none, 0, rfl, Nat.le_refl _, fun _ => ⟨rfl, rfl⟩, fun p hp => by cases hp⟩
instance (H : Hp) : Inhabited (SE H) := ⟨⟨zE, [.int .i64 0, .int .i64 0, .string .empty, .slice none 0 0], .mk (by simp) (by simp), z0_den H⟩⟩
def encE {H : Hp} (x : SE H) : List Value := x.vs
def cfE {H : Hp} (x y : SE H) : Int := ordT x.t y.t
theorem encE_len {H : Hp} (x : SE H) : (encE x).length = 4 := by
  obtain ⟨t, vs, h1, h2⟩ := x
  match vs, h2 with
  | [_, _, _, _], _ => rfl
  | [], h => exact h.elim
  | [_], h => exact h.2.elim
  | [_, _], h => exact h.2.2.elim
  | [_, _, _], h => exact h.2.2.2.elim
  | _ :: _ :: _ :: _ :: _ :: _, h => exact h.2.2.2.2.elim
theorem encE_one {H : Hp} (x : SE H) : ∀ v ∈ encE x, v.oneCell' = true := x.den.one
theorem swoE (H : Hp) : SWO (ltOf (cfE (H := H))) where
  irrefl x := by unfold ltOf cfE; rw [ord_irr]; rfl
  trans x y z h1 h2 := by
    unfold ltOf cfE at *
    simp only [decide_eq_true_eq] at *
    exact ord_trans h1 h2
  ntrans x y z h1 h2 := by
    unfold ltOf cfE at *
    simp only [decide_eq_false_iff_not] at *
    have e1 := ord_anti x.t y.t
    have e2 := ord_anti y.t z.t
    have e3 := ord_anti x.t z.t
    have := (tr_ord z.t y.t x.t (by omega) (by omega)).1
    omega

theorem elems {H : Hp} : ∀ (l : List Tm) (vs : List Value), (∀ t ∈ l, Sm t) → DenF H 4 (rowsT l) vs → ∃ es : List (SE H), es.map (·.t) = l ∧ (es.map encE).flatten = vs
  | [], vs, _, h => by rw [rowsT_nil] at h; exact ⟨[], rfl, (show vs = [] from h).symm⟩
  | t :: l, vs, hs, h => by
    rw [rowsT_cons] at h
    obtain ⟨v1, v2, rfl, h1, h2, h3⟩ := h
    obtain ⟨es, e1, e2⟩ := elems l v2 (fun x hx => hs x (by simp [hx])) h3
    exact ⟨⟨t, v1, hs t (by simp), h1⟩ :: es, by simp [e1], by simp [e2, encE]⟩
theorem elems_den {H : Hp} : ∀ (es : List (SE H)), DenF H 4 (rowsT (es.map (·.t))) (es.map encE).flatten
  | [] => by rw [List.map_nil, rowsT_nil]; rfl
  | x :: es => by
    rw [List.map_cons, rowsT_cons, List.map_cons, List.flatten_cons]
    exact ⟨_, _, rfl, x.den, encE_len x, elems_den es⟩

theorem cmpLaysE {H : Hp} {w : World} {b n : Nat} (hH : H.on w) (hb : ∀ o, H b o = none) : CmpLays Try.prog 77 #[] (encE (H := H)) 4 cfE b 0 n w := by
  intro m os dk hdk x y
  have hW : H.on (sortWorldK encE 4 w b 0 m dk os) := by
    intro b' o v hv
    have hne : b' ≠ b := fun e => by rw [e, hb] at hv; cases hv
    have hlt := Hp.on_lt hH hv
    rw [World.cell?_same (w := w)]
    · exact hH b' o v hv
    · show (grow (putRowK encE 4 (Sort.ahead w m) b 0 dk) os).heap[b']? = _
      have e1 : (putRowK encE 4 (Sort.ahead w m) b 0 dk).heap[b']? = w.heap[b']? := by
        show ((Sort.ahead w m).heap.modify b _)[b']? = _
        rw [Array.getElem?_modify, if_neg (Ne.symm hne)]
        rfl
      have e2 : (putRowK encE 4 (Sort.ahead w m) b 0 dk).heap.size = w.heap.size := by
        show ((Sort.ahead w m).heap.modify b _).size = _
        rw [Array.size_modify]
        rfl
      show ((putRowK encE 4 (Sort.ahead w m) b 0 dk).heap ++ os)[b']? = _
      rw [Array.getElem?_append_left (by rw [e2]; exact hlt), e1]
  have hc := tcmp_fn x.t y.t x.sm
  have hd : Dens (fun _ => undef) H [x.t.sv, y.t.sv] [.agg (encE x).toArray, .agg (encE y).toArray] := ⟨⟨_, rfl, ups_den x.den⟩, ⟨_, rfl, ups_den y.den⟩, trivial⟩
  refine (hc.2 (fun _ => undef) H _ _ hW (fun k o hk => by simp [ownq] at hk) (fun i j hi => by simp [ownq] at hi) hd).mono fun e w' he => ?_
  cases e with
  | returned v =>
    obtain ⟨g', H', sv, own, ⟨rfl, _, rfl⟩, hv, _, _, _, hbase⟩ := he
    have e : v = .int .i64 (cfE x y) := hv
    subst e
    refine ⟨rfl, world_grow hbase.os hbase.tape hbase.output hbase.drawn hbase.size fun c hc => hbase.block c hc ?_⟩
    rintro ⟨k, hk, _⟩
    simp [ownq] at hk
  | _ => exact he.elim

theorem perm_full {α : Type} [Inhabited α] {d d' : Array α} (h : PermIn 0 d.size d d') : d'.toList.Perm d.toList := by
  have h1 := h.2.2
  have e1 : d'.extract 0 d.size = d' := by rw [← h.1]; simp
  rw [e1] at h1
  simpa using h1

/-- Nothing that stands behind is less. -/
def Srt (l : List Tm) : Prop := l.Pairwise fun a b => ¬ ordT b a < 0

variable {E : Stc} {all rest : List Oper} {o : Oper} {s : List Fr} {env : List (Nat × SV)} {own : List (Nat × SO)} {nx : List Nat}

/-- Terms are sorted in place. -/
theorem at_sortT (k : Nat) {l : List Tm} (hP : E.P = Try.prog) (hc : callK o.op env (fun f l => some (f, l)) none = some (81, [.arr k l.length, .clo 77 []])) (hk : ownq own k = some (.buf (rowsT l) 0)) (hsm : ∀ t ∈ l, Sm t) (hl : l.length ≤ 1000000)
    (kk : ∀ l' : List Tm, l'.Perm l → Srt l' → Sat E (.ops all rest) s (put o.dst (.tup []) env) (setOwn k (.buf (rowsT l') 0) own) nx)
    (hg : guardK all o.guard env true false false = true := by rfl) (hd : dstLt o.dst E.n = true := by rfl) : Sat E (.ops all (o :: rest)) s env own nx := by
  intro a w hat0
  have hwant := wanted_of (E := E) (own := own) hg a w hat0
  unfold wpList
  rw [if_pos hwant]
  refine .inl ?_
  obtain ⟨hdf, g, H, hdn⟩ := hat0
  have hE : Enter E.P 81 := by rw [hP]; exact enter_of Try.func81 rfl (by decide)
  obtain ⟨vs0, hv0, hr⟩ := run_call (P := E.P) hdn hE hc
  obtain ⟨x, f, rfl, hx, hf⟩ : ∃ x f, vs0 = [x, f] ∧ Den g H (.arr k l.length) x ∧ Den g H (.clo 77 []) f := by
    match vs0, hv0 with
    | [x, f], h => exact ⟨x, f, rfl, h.1, h.2.1⟩
    | [], h => exact h.elim
    | [_], h => exact h.2.elim
    | _ :: _ :: _ :: _, h => exact h.2.2.elim
  obtain ⟨b0, hg0, rfl⟩ := hx
  obtain ⟨cs, rfl, hcs⟩ := hf
  obtain rfl : cs = [] := by
    cases cs with
    | nil => rfl
    | cons _ _ => exact hcs.elim
  rcases hdn.ok k _ hk with ⟨ty, b, vs, hgk, hv, hone, hw, hH, hm⟩ | ⟨hgk, _⟩
  rotate_left
  · rw [hgk] at hg0; cases hg0
  have hbb : b0 = b := by rw [hgk] at hg0; simpa using hg0.symm
  subst hbb
  have hv' : Dens g H (flatU (rowsT l)) vs := by have := hv; rw [bufC] at this; simpa [anys] using this
  have hF := DenF.of_flatU rowsT_sz hv'
  obtain ⟨es, e1, e2⟩ := elems l vs hsm hF
  have hlen : es.toArray.size = l.length := by rw [← e1]; simp
  have hwf : w.heap[b0]? = some (.cells (((flatK encE 4 es.toArray).toList.map id) ++ []).toArray ty (0, 0)) := by
    rw [List.map_id, List.append_nil, flatK_eq encE 4 encE_len, e2]
    exact hw
  have hHK : HoldsK encE 4 w b0 0 es.toArray := holds_at id w b0 ty [] _ hwf
  have hcon := AnyQ.slices_SortFunc Try.sortTm 4 (Try.isAgg33) (Try.sizeOf33) encE encE_len encE_one cfE (swoE H) 77 #[] b0 0 l.length es.toArray w
    (enter_of Try.func77 rfl (by decide)) (cmpLaysE hdn.hp hH) hHK (heap_lt hw) (by rw [hlen]; omega)
  have hcon2 : Calls Try.prog 81 #[.slice (some ⟨b0, 0, none⟩) l.length l.length, .func (.func 77) #[] #[]] w fun e w' => e = .returned (.tuple #[]) ∧ ∃ d' n os, PermIn 0 es.toArray.size es.toArray d' ∧ SortedIn (ltOf cfE) 0 es.toArray.size d' ∧ w' = sortWorldK encE 4 w b0 0 n d' os := by
    rw [← hlen] at hcon ⊢
    exact hcon
  unfold Oper.wp
  rw [hr]
  show Calls E.P 81 #[.slice (some ⟨b0, 0, none⟩) l.length l.length, .func (.func 77) #[] #[]] w _
  have hcon3 : Calls E.P 81 #[.slice (some ⟨b0, 0, none⟩) l.length l.length, .func (.func 77) #[] #[]] w fun e w' => e = .returned (.tuple #[]) ∧ ∃ d' n os, PermIn 0 es.toArray.size es.toArray d' ∧ SortedIn (ltOf cfE) 0 es.toArray.size d' ∧ w' = sortWorldK encE 4 w b0 0 n d' os := by rw [hP]; exact hcon2
  refine hcon3.mono ?_
  rintro e w' ⟨rfl, d', n, os, hp, hs, rfl⟩
  have hperm := perm_full hp
  have hp2 : (d'.toList.map (·.t)).Perm l := by rw [← e1]; exact hperm.map _
  refine kk (d'.toList.map (·.t)) hp2 ?_ _ _ ?_
  · unfold Srt
    rw [List.pairwise_map, List.pairwise_iff_getElem]
    intro i j hi hj hij
    simp only [Array.length_toList] at hi hj
    have h2 := hs i j (Nat.zero_le _) hij (by rw [← hp.1]; exact hj)
    rw [getElem!_pos d' j hj, getElem!_pos d' i hi] at h2
    unfold ltOf cfE at h2
    simpa using h2
  · -- the world behind
    have hd1 : Dn E.cx g H env own E.n a.tmps (Sort.ahead w n) := hdn.grown (w' := Sort.ahead w n) rfl rfl rfl (Nat.le_refl _) (fun _ _ => rfl) (Nat.le_add_right _ _)
    obtain ⟨ty', hd2⟩ := hd1.openB hk hgk
    have hk' : ownq (setOwn k (.cells ty' (bufC (rowsT l) 0)) own) k = some (.cells ty' (bufC (rowsT l) 0)) := by rw [ownq_setOwn, if_pos rfl, hk]; rfl
    have hl2 : (flatK encE 4 d').toList = (d'.toList.map encE).flatten := by
      have := flatK_eq encE 4 encE_len d'.toList
      simpa using this
    have hden : Dens g H (bufC (rowsT (d'.toList.map (·.t))) 0) (flatK encE 4 d').toList := by
      rw [hl2, bufC]
      have := (elems_den d'.toList).toFlat (g := g)
      simpa [anys] using this
    have hone2 : ∀ v ∈ (flatK encE 4 d').toList, v.oneCell' = true := by
      rw [hl2]
      intro v hv
      obtain ⟨q, hq, hvq⟩ := List.mem_flatten.1 hv
      obtain ⟨y, _, rfl⟩ := List.mem_map.1 hq
      exact encE_one y v hvq
    have hd3 := hd2.write (new := bufC (rowsT (d'.toList.map (·.t))) 0) hk' hgk hden hone2
    have hd4 := hd3.closeB (k := k) (ty := ty') (rw' := rowsT (d'.toList.map (·.t))) (nn := 0) (by rw [ownq_setOwn, if_pos rfl, hk']; rfl)
    rw [setOwn_setOwn, setOwn_setOwn] at hd4
    have hput : putRowK encE 4 (Sort.ahead w n) b0 0 d' = (Sort.ahead w n).setRow b0 (flatK encE 4 d').toList.toArray := by
      have := putRow_at id (Sort.ahead w n) b0 ty (flatK encE 4 es.toArray).toList [] (flatK encE 4 d') (by
        have := hwf
        rw [List.map_id] at this
        exact this) (by rw [Array.length_toList, size_flatK, size_flatK, hp.1])
      rw [List.map_id, List.append_nil] at this
      exact this
    have hd5 : Dn E.cx g H env (setOwn k (.buf (rowsT (d'.toList.map (·.t))) 0) own) E.n a.tmps (sortWorldK encE 4 w b0 0 n d' os) := by
      unfold sortWorldK
      rw [hput]
      exact hd4.grown (w' := grow ((Sort.ahead w n).setRow b0 (flatK encE 4 d').toList.toArray) os) rfl rfl rfl (by show _ ≤ (_ ++ os).size; rw [Array.size_append]; omega) (fun c hc => by
        show (_ ++ os)[c]? = _
        rw [Array.getElem?_append_left hc]) (Nat.le_refl _)
    exact At.put hdf hd5 (⟨[], rfl, trivial⟩ : Den g H (.tup []) (.tuple #[])) fun d e => by rw [e] at hd; exact Nat.blt_eq.mp hd
end Go.Proofs.Ytmnmhehddbemkaa
namespace Go.Eng
variable {E : Stc} {s : List Fr} {env : List (Nat × SV)} {own own2 : List (Nat × SO)} {nx : List Nat}
/-- Cells that are known are a buffer. -/
theorem at_closeB {m : Md} (k : Nat) {ty r : Nat} {rows : List (List DV)} (hk : ownq own k = some (.cells ty (bufC rows r))) (hso : setOwnK k (.buf rows r) own some = some own2) (kk : Sat E m s env own2 nx) : Sat E m s env own nx := by
  rw [setOwnK_eq] at hso
  simp only [Option.some.injEq] at hso
  subst hso
  refine sat_mono (fun a w hat => ?_) kk
  obtain ⟨hdf, g, H, hdn⟩ := hat
  exact ⟨hdf, g, H, hdn.closeB hk⟩
end Go.Eng
namespace Go.Proofs.Ytmnmhehddbemkaa
open Go Go.Eng
set_option maxRecDepth 100000

theorem ownB_fn (l : List Tm) (hl : l.length ≤ 1000000) (h : ∀ t ∈ l, Sm t) : Contract Try.prog 80 0 [] [.lst 4 (rowsT l)] fun s post => s = .arr 0 l.length ∧ post = [(0, .buf (rowsT l) 0)] := by
  have hlen : (rowsT l).length = l.length := rowsT_len l
  refine contract_of ty_ok [1, 2, 3, 4, 6, 7, 8] Try.func80 rfl (by decide) Try.ntmps80 rfl fun z => ?_
  refine run 400 rfl ?_
  refine at_make 0 4 ty_ok rfl rfl rfl (by omega) (show ((56 : Nat) : Int) * ((rowsT l).length : Int) ≤ 281474976710656 by omega) (by omega) ?_
  refine run 400 rfl ?_
  refine at_loop (fun i : Nat => i ≤ l.length) (fun i => [(3, .arr 0 (rowsT l).length), (9, .lst 4 (rowsT l)), (10, I (rowsT l).length), (11, I i)]) (fun i => [(0, .cells 33 (half l i))]) (fun i => l.length - i) [1, 2, 3, 4, 6, 7, 8]
    0 (by omega) ⟨SVle.refl _, SVle.refl _, SVle.refl _, SVle.refl _, trivial⟩ ⟨?_, trivial⟩ ?_
  · show some (SO.cells 33 (List.replicate (((rowsT l).length : Int).toNat * 4) .any)) = some (SO.cells 33 (half l 0))
    unfold half
    rw [List.take_zero, rowsT_nil, hlen]
    rfl
  intro i hi
  refine run 400 rfl ?_
  refine at_ifd rfl (fun g => ?_) (fun g => ?_)
  rotate_left
  · have e : i = l.length := by omega
    subst e
    refine run 400 rfl ?_
    refine at_closeB 0 (ty := 33) (r := 0) (rows := rowsT l) (by show some (SO.cells 33 (half l l.length)) = _; unfold half bufC; rw [List.take_length, Nat.sub_self, Nat.zero_mul, List.replicate_zero]; rfl) rfl ?_
    exact at_ret rfl rfl [(0, .buf (rowsT l) 0)] ⟨by rw [← hlen], rfl⟩ ⟨rfl, trivial⟩
  have hlt : i < l.length := by omega
  have hget := rowsT_get hlt
  have hmem := getD_mem hlt
  have hgetD : l[i]? = some (l.getD i .zero) := by rw [List.getD_eq_getElem?_getD, List.getElem?_eq_getElem hlt]; rfl
  generalize l.getD i .zero = u at hget hmem hgetD
  refine run 400 rfl ?_
  refine at_val (.rp (tr u) 0) (does_index ty_ok _ rfl rfl rfl (by omega) (show (rowsT l)[(i : Int).toNat]? = some (tr u) from hget) rfl) ?_
  refine run 1 rfl ?_
  refine at_alloc ty_ok 1 _ rfl rfl (by simp only [freshO, noKs_half]; rfl) ?_
  refine run 400 rfl ?_
  refine at_fn (own_fn u (h u hmem)) rfl ?_
  refine run 400 rfl ?_
  refine at_val (.ptr 0 ((i : Int).toNat * 4)) (does_indexArr ty_ok rfl rfl rfl ⟨by omega, by rw [hlen]; omega⟩ rfl) ?_
  refine at_store ty_ok (half l (i + 1)) rfl rfl rfl rfl rfl rfl (by unfold half; rw [List.length_append, flat_len, List.length_replicate, List.length_take]; show i * 4 + 4 ≤ _; omega) (half_step hgetD) rfl ?_
  refine run 400 rfl ?_
  exact at_again (i + 1) (by omega) (by omega) ⟨SVle.refl _, SVle.refl _, SVle.refl _, SVle.of_eq (by show I ((i : Int) + 1) = I ((i + 1 : Nat) : Int); rw [Int.natCast_add]; rfl), trivial⟩ ⟨rfl, trivial⟩

theorem clipT_fn (l : List Tm) (n c r : Nat) (hn : n ≤ c) : Contract Try.prog 82 1 (slO l r) [.sl 0 0 n c] fun s post => s = .sl 0 0 n n ∧ post = slO l r := by
  refine contract_of ty_ok [1, 2, 3, 4, 5, 6, 7] Try.func82 rfl (by decide) Try.ntmps82 rfl fun z => ?_
  refine run 400 rfl ?_
  refine at_val (.sl 0 0 (n : Int).toNat (n : Int).toNat) (does_sliceS_hm (sz := 4) ty_ok rfl rfl rfl rfl (by omega) rfl) ?_
  refine run 400 rfl ?_
  exact at_ret rfl rfl (slO l r) ⟨rfl, rfl⟩ ⟨rfl, trivial⟩

theorem sortT_fn (l : List Tm) (hl : l.length ≤ 1000000) (h : ∀ t ∈ l, Sm t) : GivesP Try.prog 50 [.lst 4 (rowsT l)] fun s => ∃ l' : List Tm, l'.Perm l ∧ Srt l' ∧ s = .tl 4 (rowsT (cmpF same l')) := by
  refine contract_of ty_ok [1, 2, 3, 4, 5, 6, 7] Try.func50 rfl (by decide) Try.ntmps50 rfl fun z => ?_
  refine run 400 rfl ?_
  refine at_callF [0] (ownB_fn l hl h) rfl trivial rfl rfl rfl ?_
  refine run 400 rfl ?_
  refine at_sortT 0 rfl rfl rfl h hl fun l' hp hs => ?_
  have e := hp.length_eq
  rw [← e]
  refine run 400 rfl ?_
  refine at_less [(8, .sl 0 0 l'.length l'.length)] (slO l' 0) [1, 2, 3, 4, 5, 6, 7] ⟨SVle.arr _ _, trivial⟩ ⟨rfl, trivial⟩ ?_
  refine at_callF [0] (cmpact_fn l' l'.length 0 (by omega) (Nat.le_refl _) fun t ht => h t (hp.mem_iff.1 ht)) rfl ⟨rfl, trivial⟩ rfl rfl rfl ?_
  refine run 400 rfl ?_
  refine at_callF [0] (clipT_fn _ _ _ _ (cmp_len _ _)) rfl ⟨rfl, trivial⟩ rfl rfl rfl ?_
  refine run 400 rfl ?_
  refine at_pubT 2 0 4 (rowsT (cmpF same l')) [] rfl rfl (List.append_nil _).symm (rowsT_len _).symm (fun r hr => rowsT_sz r hr) rfl ?_
  exact at_ret rfl rfl [] ⟨⟨l', hp, hs, rfl⟩, rfl, rfl⟩ trivial
end Go.Proofs.Ytmnmhehddbemkaa
