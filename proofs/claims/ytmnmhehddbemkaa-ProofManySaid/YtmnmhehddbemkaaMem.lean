/- The proof engine, part 5: how a state is carried over a change of memory. -/
import Derived.Test.YtmnmhehddbemkaaStep
namespace Go.Eng

theorem heap_lt {w : World} {b : Nat} {o : Obj} (h : w.heap[b]? = some o) : b < w.heap.size := (Array.getElem?_eq_some_iff.1 h).1

theorem Hp.on_lt {H : Hp} {w : World} (h : H.on w) {b o : Nat} {v : Value} (hv : H b o = some v) : b < w.heap.size :=
  World.block_lt_of_cell? w _ (h b o v hv)

theorem OwnOk.blk_lt {mine : Nat → Prop} {g : Nat → Value} {H : Hp} {w : World} {k : Nat} {o : SO} (h : OwnOk mine g H w k o) {b : Nat} (hb : blkOf (g k) = some b) : b < w.heap.size := by
  cases o with
  | cells ty cs =>
    obtain ⟨b', vs, e, _, _, hw, _⟩ := h
    rw [e] at hb
    simp only [blkOf, Option.some.injEq] at hb
    subst hb
    exact heap_lt hw
  | tok sz =>
    obtain ⟨a, n, c, e, _, _, hp⟩ := h
    rw [e] at hb
    cases a with
    | none => simp [blkOf] at hb
    | some p =>
      simp only [blkOf] at hb
      cases hlt : Nat.blt n c with
      | false => simp [hlt] at hb
      | true =>
        simp only [hlt, cond_true, Option.some.injEq] at hb
        subst hb
        obtain ⟨_, _, cs, ty, hw, _⟩ := hp p rfl (Nat.blt_eq.mp hlt)
        exact heap_lt hw
  | obj f =>
    obtain ⟨r, o, e, hw, _⟩ := h
    rw [e] at hb
    simp only [blkOf, Option.some.injEq] at hb
    subst hb
    exact heap_lt hw

theorem OwnOk.blk_mine {mine : Nat → Prop} {g : Nat → Value} {H : Hp} {w : World} {k : Nat} {o : SO} (h : OwnOk mine g H w k o) {b : Nat} (hb : blkOf (g k) = some b) : mine b := by
  cases o with
  | cells ty cs =>
    obtain ⟨b', vs, e, _, _, _, _, hm⟩ := h
    rw [e] at hb
    simp only [blkOf, Option.some.injEq] at hb
    subst hb
    exact hm
  | tok sz =>
    obtain ⟨a, n, c, e, _, _, hp⟩ := h
    rw [e] at hb
    cases a with
    | none => simp [blkOf] at hb
    | some p =>
      simp only [blkOf] at hb
      cases hlt : Nat.blt n c with
      | false => simp [hlt] at hb
      | true =>
        simp only [hlt, cond_true, Option.some.injEq] at hb
        subst hb
        exact (hp p rfl (Nat.blt_eq.mp hlt)).2.1
  | obj f =>
    obtain ⟨r, o, e, _, _, _, hm⟩ := h
    rw [e] at hb
    simp only [blkOf, Option.some.injEq] at hb
    subst hb
    exact hm

/-- Only the block of the handle is looked at. -/
theorem OwnOk.at {mine : Nat → Prop} {g : Nat → Value} {H : Hp} {w w' : World} {k : Nat} {o : SO} (h : OwnOk mine g H w k o) (hw : ∀ b, blkOf (g k) = some b → w'.heap[b]? = w.heap[b]?) :
    OwnOk mine g H w' k o := by
  cases o with
  | cells ty cs =>
    obtain ⟨b, vs, e, h1, h2, h3, h4, h5⟩ := h
    exact ⟨b, vs, e, h1, h2, by rw [hw b (by rw [e]; rfl)]; exact h3, h4, h5⟩
  | tok sz =>
    obtain ⟨a, n, c, e, hn, hle, hp⟩ := h
    refine ⟨a, n, c, e, hn, hle, fun p hpa hlt => ?_⟩
    obtain ⟨h1, h2, cs, ty, h3, h4⟩ := hp p hpa hlt
    exact ⟨h1, h2, cs, ty, by rw [hw p.block (by rw [e, hpa]; simp [blkOf, Nat.blt_eq.mpr hlt])]; exact h3, h4⟩
  | obj f =>
    obtain ⟨r, o, e, h1, h2⟩ := h
    exact ⟨r, o, e, by rw [hw r (by rw [e]; rfl)]; exact h1, h2⟩

theorem World.cell?_same {w w' : World} {a : Addr} (h : w'.heap[a.block]? = w.heap[a.block]?) : w'.cell? a = w.cell? a := by
  simp only [World.cell?, h]

/-- The world has at most grown. -/
theorem Dn.grown {cx : Cx} {g : Nat → Value} {H : Hp} {env : List (Nat × SV)} {own : List (Nat × SO)} {n : Nat} {tmps : Array Value} {w w' : World}
    (h : Dn cx g H env own n tmps w) (hos : w'.os = w.os) (ht : w'.tape = w.tape) (ho : w'.output = w.output) (hz : w.heap.size ≤ w'.heap.size)
    (hb : ∀ b, b < w.heap.size → w'.heap[b]? = w.heap[b]?) (hf : ∀ a, w'.frozen? a = w.frozen? a) : Dn cx g H env own n tmps w' where
  size := h.size
  den := h.den
  ok k o hk := (h.ok k o hk).at fun b e => hb b ((h.ok k o hk).blk_lt e)
  inj := h.inj
  hp b o v hv := by
    rw [World.cell?_same (w := w) (hb b (Hp.on_lt h.hp hv))]
    exact h.hp b o v hv
  base :=
    { os := hos.trans h.base.os, tape := ht.trans h.base.tape, output := ho.trans h.base.output, size := Nat.le_trans h.base.size hz
      block := fun b hb0 hx => (hb b (Nat.lt_of_lt_of_le hb0 h.base.size)).trans (h.base.block b hb0 hx)
      hold := h.base.hold, le := h.base.le, fix := h.base.fix, froz := fun a => (hf a).trans (h.base.froz a) }

theorem Dn.drew {cx : Cx} {g : Nat → Value} {H : Hp} {env : List (Nat × SV)} {own : List (Nat × SO)} {n : Nat} {tmps : Array Value} {w : World}
    (h : Dn cx g H env own n tmps w) : Dn cx g H env own n tmps w.drew := h.grown rfl rfl rfl (Nat.le_refl _) (fun _ _ => rfl) fun _ => rfl

/-- A temporary is set. -/
theorem Dn.put {cx : Cx} {g : Nat → Value} {H : Hp} {env : List (Nat × SV)} {own : List (Nat × SO)} {n : Nat} {tmps : Array Value} {w : World} {d : Nat} {v : SV} {x : Value}
    (h : Dn cx g H env own n tmps w) (hd : d < n) (hv : Den g H v x) : Dn cx g H ((d, v) :: env) own n (tmps.setIfInBounds d x) w where
  size := by simp [h.size]
  den t := by
    simp only [nth]
    cases hb : Nat.beq d t with
    | true =>
      have := beq_true hb
      subst this
      have hlt : d < tmps.size := by rw [h.size]; exact hd
      simpa [hlt] using hv
    | false =>
      have hne := beq_false hb
      have := h.den t
      simpa [Array.getElem?_setIfInBounds_ne hne] using this
  ok := h.ok
  inj := h.inj
  hp := h.hp
  base := h.base

def upd (g : Nat → Value) (k : Nat) (v : Value) : Nat → Value := fun j => if j = k then v else g j
theorem upd_same (g : Nat → Value) (k : Nat) (v : Value) : upd g k v k = v := by simp [upd]
theorem upd_ne (g : Nat → Value) (k : Nat) (v : Value) (j : Nat) (h : j ≠ k) : upd g k v j = g j := by simp [upd, h]

theorem heap_alloc_lt (w : World) (o : Obj) {b : Nat} (h : b < w.heap.size) : (w.alloc o).heap[b]? = w.heap[b]? := by
  show (w.heap.push o)[b]? = _
  rw [Array.getElem?_push, if_neg (by omega)]
theorem heap_alloc_new (w : World) (o : Obj) : (w.alloc o).heap[w.heap.size]? = some o := by
  show (w.heap.push o)[w.heap.size]? = _
  simp

theorem OwnOk.upd {mine : Nat → Prop} {g : Nat → Value} {H : Hp} {w : World} {j : Nat} {o : SO} {k : Nat} {v : Value} (h : OwnOk mine g H w j o)
    (hf : j ≠ k ∧ o.noK k) : OwnOk mine (upd g k v) H w j o := by
  obtain ⟨hne, hf⟩ := hf
  cases o with
  | cells ty cs =>
    obtain ⟨b, vs, e, h1, h2, h3, h4, h5⟩ := h
    exact ⟨b, vs, by rw [upd_ne g k v j hne]; exact e, Dens.upd (fun i hi => upd_ne g k v i hi) cs vs hf h1, h2, h3, h4, h5⟩
  | tok sz =>
    obtain ⟨a, n, c, e, hn, hp⟩ := h
    exact ⟨a, n, c, by rw [upd_ne g k v j hne]; exact e, hn, hp⟩
  | obj f =>
    obtain ⟨r, o, e, h⟩ := h
    exact ⟨r, o, by rw [upd_ne g k v j hne]; exact e, h⟩

theorem frozen_alloc (w : World) (c : Array Value) (t : TypeId) (a : Addr) : (w.alloc (.cells c t)).frozen? a = w.frozen? a := by
  by_cases h : a.block = w.heap.size
  · have e1 : (w.alloc (.cells c t)).heap[a.block]? = some (.cells c t) := by rw [h]; exact heap_alloc_new w _
    have e2 : w.heap[a.block]? = none := by rw [h]; simp
    simp [World.frozen?, e1, e2]
  · exact World.frozen?_alloc_old _ _ _ h

/-- A new block. -/
theorem Dn.new {cx : Cx} {g : Nat → Value} {H : Hp} {env : List (Nat × SV)} {own : List (Nat × SO)} {n : Nat} {tmps : Array Value} {w : World} {k t : Nat} {cs : List SV} {vs : List Value}
    (h : Dn cx g H env own n tmps w) (hm : cx.m0 ≤ k) (hcs : SV.noKs k cs = true) (hE : freshE k env = true) (hO : freshO k own = true) (hd : Dens g H cs vs) (h1 : SV.ones cs = true) :
    Dn cx (upd g k (.pointer (some ⟨w.heap.size, 0, none⟩))) H env ((k, .cells t cs) :: own) n tmps (w.alloc (.cells vs.toArray t)) ∧
      Den (upd g k (.pointer (some ⟨w.heap.size, 0, none⟩))) H (.ptr k 0) (.pointer (some ⟨w.heap.size, 0, none⟩)) := by
  have hne : ∀ i, i ≠ k → upd g k (.pointer (some ⟨w.heap.size, 0, none⟩)) i = g i := fun i hi => upd_ne _ _ _ i hi
  have h' := h.grown (w' := w.alloc (.cells vs.toArray t)) rfl rfl rfl (by simp) (fun b hb => heap_alloc_lt w _ hb) (frozen_alloc w _ _)
  have hq : ∀ j, ownq own j ≠ none → j ≠ k := by
    intro j hj e
    cases ho : ownq own j with
    | none => exact hj ho
    | some o => exact (freshO_own hO ho).1 e
  refine ⟨{ size := h.size, den := fun x => Den.upd hne _ _ (freshE_nth x hE) (h.den x), ok := fun j o hj => ?_, inj := fun i j hi hj b hbi hbj => ?_, hp := h'.hp, base := ?_ }, w.heap.size, by simp [upd], rfl⟩
  · simp only [ownq] at hj
    cases hb : Nat.beq k j with
    | true =>
      have := beq_true hb
      subst this
      simp only [hb, cond_true, Option.some.injEq] at hj
      subst hj
      refine ⟨w.heap.size, vs, upd_same _ _ _, Dens.upd hne cs vs hcs hd, hd.oneCells h1, heap_alloc_new w _, fun o => ?_, .inl h.base.size⟩
      cases hH : H w.heap.size o with
      | none => rfl
      | some v => exact absurd (Hp.on_lt h.hp hH) (by omega)
    | false =>
      simp only [hb, cond_false] at hj
      exact (h'.ok j o hj).upd (freshO_own hO hj)
  · have key : ∀ j b, (ownq ((k, SO.cells t cs) :: own) j).isSome = true → blkOf (upd g k (.pointer (some ⟨w.heap.size, 0, none⟩)) j) = some b → (j = k ∧ b = w.heap.size) ∨ (j ≠ k ∧ (ownq own j).isSome = true ∧ blkOf (g j) = some b ∧ b < w.heap.size) := by
      intro j b hj hb
      by_cases hjk : j = k
      · subst hjk
        rw [upd_same] at hb
        simp only [blkOf, Option.some.injEq] at hb
        exact .inl ⟨rfl, hb.symm⟩
      · have hbf : Nat.beq k j = false := by
          cases hb' : Nat.beq k j with
          | false => rfl
          | true => exact absurd (beq_true hb').symm hjk
        simp only [ownq, hbf, cond_false] at hj
        rw [hne j hjk] at hb
        cases ho : ownq own j with
        | none => rw [ho] at hj; simp at hj
        | some o => exact .inr ⟨hjk, by rw [ho] at hj; exact hj, hb, (h.ok j o ho).blk_lt hb⟩
    rcases key i b hi hbi with ⟨e1, e2⟩ | ⟨n1, o1, b1, l1⟩ <;> rcases key j b hj hbj with ⟨e3, e4⟩ | ⟨n2, o2, b2, l2⟩
    · rw [e1, e3]
    · omega
    · omega
    · exact h.inj i j o1 o2 b b1 b2
  · exact { h'.base with fix := fun j hj => by rw [hne j (by omega)]; exact h.base.fix j hj }

/-- One of the own blocks is written. -/
theorem Dn.write {cx : Cx} {g : Nat → Value} {H : Hp} {env : List (Nat × SV)} {own : List (Nat × SO)} {n : Nat} {tmps : Array Value} {w : World} {k t b : Nat} {old new : List SV} {vs : List Value}
    (h : Dn cx g H env own n tmps w) (hk : ownq own k = some (.cells t old)) (hb : g k = .pointer (some ⟨b, 0, none⟩)) (hd : Dens g H new vs) (h1 : ∀ v ∈ vs, v.oneCell' = true) :
    Dn cx g H env (setOwn k (.cells t new) own) n tmps (w.setRow b vs.toArray) := by
  obtain ⟨b', vs0, e0, _, _, hw0, hH0, hm0⟩ := h.ok k _ hk
  have hbb : b' = b := by rw [e0] at hb; simpa using hb
  subst hbb
  have ho : ∀ i, i ≠ b' → (w.setRow b' vs.toArray).heap[i]? = w.heap[i]? := fun i hi => setRow_other w b' i _ hi
  have hs : ∀ j, (ownq (setOwn k (.cells t new) own) j).isSome = (ownq own j).isSome := by
    intro j
    rw [ownq_setOwn]
    split
    · rename_i e; subst e; simp [hk]
    · rfl
  refine { size := h.size, den := h.den, ok := fun j o hj => ?_, inj := fun i j hi hj => h.inj i j (by rw [← hs i]; exact hi) (by rw [← hs j]; exact hj), hp := fun c o v hv => ?_, base := ?_ }
  · rw [ownq_setOwn] at hj
    by_cases hjk : j = k
    · subst hjk
      rw [if_pos rfl, hk] at hj
      simp only [Option.map_some, Option.some.injEq] at hj
      subst hj
      exact ⟨b', vs, e0, hd, h1, setRow_heap w b' _ _ t (0, 0) hw0, hH0, hm0⟩
    · rw [if_neg hjk] at hj
      refine (h.ok j o hj).at fun c hc => ho c fun e => hjk ?_
      subst e
      exact h.inj j k (by rw [hj]; rfl) (by rw [hk]; rfl) c hc (by rw [e0]; rfl)
  · have hc : c ≠ b' := fun e => by subst e; rw [hH0] at hv; cases hv
    rw [World.cell?_same (w := w) (ho c hc)]
    exact h.hp c o v hv
  · refine { os := h.base.os, tape := h.base.tape, output := h.base.output, size := by simpa using h.base.size, block := fun c hc hx => ?_, hold := h.base.hold, le := h.base.le, fix := h.base.fix, froz := fun a => ?_ }
    rotate_left
    · rw [← h.base.froz a]
      by_cases ha : a.block = b'
      · have e1 := setRow_heap w b' _ vs.toArray t (0, 0) hw0
        simp [World.frozen?, ha, e1, hw0]
      · simp [World.frozen?, ho a.block ha]
    have hne : c ≠ b' := by
      intro e
      subst e
      rcases hm0 with h0 | h0
      · omega
      · exact hx h0
    rw [ho c hne]
    exact h.base.block c hc hx

end Go.Eng
