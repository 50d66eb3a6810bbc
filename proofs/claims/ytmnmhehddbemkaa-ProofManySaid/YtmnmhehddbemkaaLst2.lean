/- The proof engine, part 14c: appending to a list that has room of its own. -/
import Derived.Test.YtmnmhehddbemkaaLst
namespace Go.Eng

/-- More cells that stay as they are, in a block. -/
def Hp.add (H : Hp) (b q : Nat) (cs : List Value) : Hp := fun b' o => if b' = b ∧ q ≤ o ∧ o < q + cs.length then cs[o - q]? else H b' o

theorem Hp.add_le {H : Hp} {b q : Nat} (h : ∀ j, q ≤ j → H b j = none) (cs : List Value) : H.le (H.add b q cs) := by
  intro b' o v hv
  unfold Hp.add
  by_cases e : b' = b ∧ q ≤ o ∧ o < q + cs.length
  · obtain ⟨rfl, e2, _⟩ := e
    rw [h o e2] at hv
    cases hv
  · rw [if_neg e]; exact hv
theorem Hp.add_ne (H : Hp) {b b' q : Nat} (cs : List Value) (o : Nat) (h : b' ≠ b) : H.add b q cs b' o = H b' o := by
  unfold Hp.add
  rw [if_neg (fun e => h e.1)]
theorem Hp.add_at (H : Hp) (b q : Nat) (cs : List Value) {j : Nat} {v : Value} (h : cs[j]? = some v) : H.add b q cs b (q + j) = some v := by
  have hl := (List.getElem?_eq_some_iff.1 h).1
  unfold Hp.add
  rw [if_pos ⟨rfl, by omega, by omega⟩, Nat.add_sub_cancel_left]
  exact h
theorem Hp.add_out (H : Hp) (b q : Nat) (cs : List Value) {j : Nat} (h : j < q ∨ q + cs.length ≤ j) : H.add b q cs b j = H b j := by
  unfold Hp.add
  rw [if_neg (by omega)]

theorem OwnOk.hpmono {mine : Nat → Prop} {g : Nat → Value} {H H' : Hp} {w : World} {k : Nat} {o : SO} (h : OwnOk mine g H w k o) (hl : H.le H') (he : ∀ c, blkOf (g k) = some c → ∀ o, H' c o = H c o) :
    OwnOk mine g H' w k o := by
  cases o with
  | cells ty cs' =>
    obtain ⟨c, vs, e, h1, h2, h3, h4, h5⟩ := h
    exact ⟨c, vs, e, Dens.mono hl _ _ h1, h2, h3, fun o => by rw [he c (by rw [e]; rfl)]; exact h4 o, h5⟩
  | tok sz =>
    obtain ⟨a, n, c, e, h1, hle, h2⟩ := h
    refine ⟨a, n, c, e, h1, hle, fun p hpa hlt => ?_⟩
    obtain ⟨h3, h4, cs', ty, h5, h6, h7⟩ := h2 p hpa hlt
    exact ⟨h3, h4, cs', ty, h5, h6, fun j hj => by rw [he p.block (by rw [e, hpa]; simp [blkOf, Nat.blt_eq.mpr hlt])]; exact h7 j hj⟩
  | obj f =>
    obtain ⟨r, o, e, h1, h2, h3, h4⟩ := h
    exact ⟨r, o, e, h1, fun H'' hl' => h2 H'' (Hp.le_trans hl hl'), fun o => by rw [he r (by rw [e]; rfl)]; exact h3 o, h4⟩

/-- What is owned but for one. -/
def lessO (k : Nat) (own own2 : List (Nat × SO)) : Prop := ∀ j o, ownq own2 j = some o → j ≠ k ∧ ownq own j = some o

theorem splice_get {β : Type} (new old : List β) (n j : Nat) (h : n + new.length ≤ old.length) : (splice new n old)[j]? = if n ≤ j ∧ j < n + new.length then new[j - n]? else old[j]? := by
  unfold splice
  have h1 : (old.take n).length = n := by simp; omega
  by_cases a : j < n
  · rw [List.append_assoc, List.getElem?_append_left (by omega), List.getElem?_take_of_lt a, if_neg (by omega)]
  · by_cases b : j < n + new.length
    · rw [List.append_assoc, List.getElem?_append_right (by omega), h1, List.getElem?_append_left (by omega), if_pos ⟨by omega, b⟩]
    · rw [List.getElem?_append_right (by simp; omega), List.getElem?_drop, if_neg (by omega)]
      congr 1
      simp
      omega

/-- The room of a list is filled. -/
theorem Dn.fill {cx : Cx} {g : Nat → Value} {H : Hp} {env : List (Nat × SV)} {own own2 : List (Nat × SO)} {n : Nat} {tmps : Array Value} {w : World} {k b q : Nat} {cs : Array Value} {ty : TypeId} (news : List Value)
    (h : Dn cx g H env own n tmps w) (hl : lessO k own own2) (hb : ∀ j o, ownq own j = some o → j ≠ k → blkOf (g j) ≠ some b) (hm : cx.mine b) (hw : w.heap[b]? = some (.cells cs ty (0, 0))) (hH : ∀ j, q ≤ j → H b j = none) (hf : q + news.length ≤ cs.size) :
    Dn cx g (H.add b q news) env own2 n tmps (w.setRow b (splice news q cs.toList).toArray) := by
  have hle := Hp.add_le hH news
  have ho : ∀ i, i ≠ b → (w.setRow b (splice news q cs.toList).toArray).heap[i]? = w.heap[i]? := fun i hi => setRow_other w b i _ hi
  have hat := setRow_heap w b cs (splice news q cs.toList).toArray ty (0, 0) hw
  have hsz : q + news.length ≤ cs.toList.length := by simpa using hf
  refine { size := h.size, den := fun t => Den.mono hle _ _ (h.den t), ok := fun j o hj => ?_, inj := fun i j hi hj => h.inj i j ?_ ?_, hp := fun c o v hv => ?_, base := ?_ }
  · obtain ⟨h1, h2⟩ := hl j o hj
    have hne : ∀ c, blkOf (g j) = some c → c ≠ b := fun c hc e => hb j o h2 h1 (by rw [hc, e])
    exact ((h.ok j o h2).at fun c hc => ho c (hne c hc)).hpmono hle fun c hc i => Hp.add_ne _ _ _ (hne c hc)
  · cases ho' : ownq own2 i with
    | none => rw [ho'] at hi; cases hi
    | some o => rw [(hl i o ho').2]; rfl
  · cases ho' : ownq own2 j with
    | none => rw [ho'] at hj; cases hj
    | some o => rw [(hl j o ho').2]; rfl
  · by_cases e : c = b
    · subst e
      simp only [World.cell?, hat, Option.isSome_none, Bool.false_eq_true, if_false, List.getElem?_toArray]
      rw [splice_get _ _ _ _ hsz]
      unfold Hp.add at hv
      by_cases hr : q ≤ o ∧ o < q + news.length
      · rw [if_pos ⟨rfl, hr⟩] at hv
        rw [if_pos hr]
        exact hv
      · rw [if_neg (by simpa using hr)] at hv
        rw [if_neg hr]
        have := h.hp c o v hv
        simp only [World.cell?, hw, Option.isSome_none, Bool.false_eq_true, if_false] at this
        simpa using this
    · rw [Hp.add_ne _ _ _ e] at hv
      rw [World.cell?_same (w := w) (ho c e)]
      exact h.hp c o v hv
  · have hne : ∀ c, c < cx.w0.heap.size → ¬ cx.X c → c ≠ b := by
      intro c hc hx e
      subst e
      rcases hm with h0 | h0
      · omega
      · exact hx h0
    refine { os := h.base.os, tape := h.base.tape, output := h.base.output, size := by simpa using h.base.size, block := fun c hc hx => ?_, hold := fun c hc hx o => ?_, le := Hp.le_trans h.base.le hle, fix := h.base.fix, froz := fun a => ?_ }
    · rw [ho c (hne c hc hx)]
      exact h.base.block c hc hx
    · rw [Hp.add_ne _ _ _ (hne c hc hx)]
      exact h.base.hold c hc hx o
    · rw [← h.base.froz a]
      by_cases ha : a.block = b
      · simp [World.frozen?, ha, hat, hw]
      · simp [World.frozen?, ho a.block ha]

theorem Dn.lessO {cx : Cx} {g : Nat → Value} {H : Hp} {env : List (Nat × SV)} {own own2 : List (Nat × SO)} {n : Nat} {tmps : Array Value} {w : World} {k : Nat} (h : Dn cx g H env own n tmps w) (hl : lessO k own own2) :
    Dn cx g H env own2 n tmps w :=
  { size := h.size, den := h.den, ok := fun j o hj => h.ok j o (hl j o hj).2, hp := h.hp, base := h.base
    inj := fun i j hi hj => h.inj i j (by
      cases ho : ownq own2 i with
      | none => rw [ho] at hi; cases hi
      | some o => rw [(hl i o ho).2]; rfl) (by
      cases ho : ownq own2 j with
      | none => rw [ho] at hj; cases hj
      | some o => rw [(hl j o ho).2]; rfl) }

/-- An operation that uses up the token of a list, and hands back a list whose room is nobody else's. -/
def DoesU (P : Program) (o : Oper) (env : List (Nat × SV)) (own : List (Nat × SO)) (k sz : Nat) (rows : List (List DV)) : Prop :=
  ∀ (cx : Cx) (g : Nat → Value) (H : Hp) (n : Nat) (own' own2 : List (Nat × SO)) (env' : List (Nat × SV)) (a : Act) (w : World), Dn cx g H env own n a.tmps w → Dn cx g H env' own' n a.tmps w → ownq own' k = some (.tok sz) → lessO k own' own2 →
    ∃ x w' H', (execOp a.eval o).run P w = .ok (.value x) w' ∧ DenD H' (.lst sz rows) x ∧ Dn cx g H' env' own2 n a.tmps w' ∧ Spare w' H' sz x (fun b => cx.mine b ∧ ∀ j o, ownq own2 j = some o → blkOf (g j) ≠ some b)

section
variable {P : Program} {env : List (Nat × SV)} {own : List (Nat × SO)}

theorem doesU_append {T : Nat → TI} (hT : ∀ t, T t = tiOf P t) {o : Oper} {t k sz : Nat} {x y : Operand} {xs ys : List (List DV)} {c : Call} (ho : o.op = .call c) (hcl : c.callee = .builtin .append) (ha : c.args = #[x, y]) (hat : c.argTypes = #[t, t]) (hx : ev env x = .gl k sz xs) (hy : lstv (ev env y) = some (sz, ys))
    (hkT : lstT T t sz = true) (hl : ((xs.length + ys.length : Nat) : Int) ≤ 9223372036854775807) (hb : (xs.length + ys.length) * (T (T t).elem).bytes ≤ 140737488355328) : DoesU P o env own k sz (xs ++ ys) := by
  obtain ⟨hk, hz, hk2, hz2, hz0⟩ := lstT_spec hT hkT
  rw [hT (T t).elem, hT t] at hb
  intro cx g H n own' own2 env' a w hd hd' htok hless
  obtain ⟨i1, h1⟩ := slice_ti hk
  obtain ⟨i2, d2, h2⟩ := ti_spec hk2
  obtain ⟨z, hz3, hz4⟩ := zero_spec h2 hz2
  have hzs : z.cells.size = sz := by rw [← hz0, hz4, Array.length_toList]
  have hsz : sz = i2.size := by rw [← hz, h2.size]
  rw [h2.bytes] at hb
  have ex := hd.ev x
  rw [hx] at ex
  obtain ⟨⟨ad, c1, e1, hc1, hn1, hp1⟩, eg⟩ := ex
  obtain ⟨ad', n', c', eg', ht1, ht2, ht3⟩ := hd'.ok k _ htok
  rw [← eg, e1] at eg'
  simp only [Value.slice.injEq] at eg'
  obtain ⟨rfl, rfl, rfl⟩ := eg'
  obtain ⟨bd, c2, e2, hc2, hn2, hp2⟩ := lstv_den hy (hd.ev y)
  have hrun : ∀ v w', (Builtin.append_ #[t, t] o.type #[a.eval x, a.eval y]).run P w = .ok v w' → (execOp a.eval o).run P w = .ok (.value v) w' := by
    intro v w' h
    simp only [execOp, ho, resolve, hcl, ha, hat]
    simp [invoke, builtin, h]
  have hd2 := hd'.lessO hless
  have hother : ∀ p, ad = some p → xs.length < c1 → ∀ j o, ownq own' j = some o → j ≠ k → blkOf (g j) ≠ some p.block := by
    intro p hp hlt j o hj hne e
    refine hne (hd'.inj j k (by rw [hj]; rfl) (by rw [htok]; rfl) p.block e ?_)
    rw [← eg, e1, hp]
    simp [blkOf, Nat.blt_eq.mpr hlt]
  -- nothing new
  have none' : ys = [] → ∃ x w' H', (Result.ok (.slice ad xs.length c1) w : Result Value) = .ok x w' ∧ DenD H' (.lst sz (xs ++ ys)) x ∧ Dn cx g H' env' own2 n a.tmps w' ∧ Spare w' H' sz x (fun b => cx.mine b ∧ ∀ j o, ownq own2 j = some o → blkOf (g j) ≠ some b) := by
    intro e
    subst e
    rw [List.append_nil]
    refine ⟨_, _, H, rfl, ⟨ad, c1, rfl, hc1, hn1, hp1⟩, hd2, ad, _, c1, rfl, ht1, ht2, fun p hp hlt => ?_⟩
    obtain ⟨q1, q2, q3⟩ := ht3 p hp hlt
    exact ⟨q1, ⟨q2, fun j o hj => hother p hp hlt j o (hless j o hj).2 (hless j o hj).1⟩, q3⟩
  cases hbd : bd with
  | none =>
    obtain ⟨e3, e4⟩ := hn2 hbd
    obtain ⟨x', w', H', r1, r2⟩ := none' e3
    refine ⟨x', w', H', hrun _ _ ?_, r2⟩
    rw [← r1, e1, e2, hbd, e3]
    have : xs.length ≤ c1 := hc1
    simp [Builtin.append_, run_underlying h1.und, sizeOf, typeInfo, h2.info, Builtin.lenOf, Builtin.firstCells, this]
    cases ad <;> simp [storeCells]
  | some q =>
    obtain ⟨hq1, hq2⟩ := hp2 q hbd
    obtain ⟨nv, hf2, hc3⟩ := hq2.flat
    have hnl := hf2.length
    have hnews : ∀ (j : Nat) (v : Value), nv[j]? = some v → w.cell? (q.add j) = some v := by
      intro j v hj
      have hq1 : q.spot = none := hq1.resolve_left fun e => by subst e; rw [show nv = [] from hf2] at hj; simp at hj
      obtain ⟨b, off, spot⟩ := q
      simp only at hq1
      subst hq1
      rw [addr_add]
      exact hd.hp _ _ _ (hc3 j v hj)
    by_cases hy0 : ys = []
    · obtain ⟨x', w', H', r1, r2⟩ := none' hy0
      refine ⟨x', w', H', hrun _ _ ?_, r2⟩
      rw [← r1, e1, e2, hbd, hy0]
      have : xs.length ≤ c1 := hc1
      simp [Builtin.append_, run_underlying h1.und, sizeOf, typeInfo, h2.info, Builtin.lenOf, Builtin.firstCells, loadCells, loadCellsFrom, this]
      cases ad <;> simp [storeCells]
    · have hpos : 0 < ys.length := List.length_pos_iff.2 hy0
      cases had : ad with
      | none =>
        obtain ⟨e3, e4⟩ := hn1 had
        subst e3; subst e4
        simp only [List.length_nil, Nat.zero_add] at hl hb
        have hr := run_append_nil (P := P) w t o.type _ i2 z h1.und h2.info hz3 q ys.length c2 nv (by rw [hnl, hsz]) hnews hpos hl (by omega)
        obtain ⟨hd3, hv⟩ := laid_append hd2 (tiOf P t).elem (Builtin.zeroCells z.cells (grownCap w ys.length 0 (tiOf P t).elem - ys.length)) hf2 (grownCap w ys.length 0 (tiOf P t).elem) (grownCap_ge _ _ _ _)
        refine ⟨_, _, _, hrun _ _ ?_, hv, hd3, (laid_spare _ z.cells hzs hf2 _ (grownCap_ge _ _ _ _) _ (Nat.le_refl w.heap.size)).mono fun b hb => hd2.new_ok hb⟩
        rw [e1, e2, hbd, had]
        exact hr
      | some p =>
        obtain ⟨hp3, hp4⟩ := hp1 p had
        by_cases hroom : xs.length + ys.length ≤ c1
        · -- there is room
          obtain ⟨t1, t2, cs, ty, t3, t4, t5⟩ := ht3 p had (by omega)
          obtain ⟨b, off, spot⟩ := p
          simp only at t1 t2 t3 t4 t5
          subst t1
          have hfit : off + xs.length * sz + nv.length ≤ cs.size := by
            rw [hnl]
            have : (xs.length + ys.length) * sz ≤ c1 * sz := Nat.mul_le_mul_right _ hroom
            rw [Nat.add_mul] at this
            omega
          have hr := run_append_room_off (P := P) w t o.type _ i2 h1.und h2.info ty b off xs.length c1 cs t3 q ys.length c2 nv (by rw [hnl, hsz]) hnews hf2.one hroom (by rw [← hsz]; exact hfit)
          rw [← hsz] at hr
          have hd3 := hd'.fill nv hless (fun j o hj hne => hother _ had (by omega) j o hj hne) t2 t3 t5 hfit
          have hle := Hp.add_le t5 nv
          refine ⟨_, _, _, hrun _ _ (by rw [e1, e2, hbd, had]; exact hr), ⟨some ⟨b, off, none⟩, c1, by rw [List.length_append], by rw [List.length_append]; exact hroom, fun e => (by cases e), fun p hp => ?_⟩, hd3,
            some ⟨b, off, none⟩, _, c1, rfl, fun e => (by cases e), hroom, fun p hp hlt => ?_⟩
          · simp only [Option.some.injEq] at hp
            subst hp
            refine ⟨.inr rfl, ?_⟩
            obtain ⟨ov, hf1, hc4⟩ := hp4.flat
            refine (hf1.append hf2 |>.mono hle).rs fun j v hj => ?_
            by_cases hjl : j < ov.length
            · rw [List.getElem?_append_left hjl] at hj
              exact hle _ _ _ (hc4 j v hj)
            · rw [List.getElem?_append_right (by omega)] at hj
              have := Hp.add_at H b (off + xs.length * sz) nv hj
              rw [hf1.length] at this hjl
              rw [show off + xs.length * sz + (j - xs.length * sz) = off + j from by omega] at this
              exact this
          · simp only [Option.some.injEq] at hp
            subst hp
            refine ⟨rfl, ⟨t2, fun j o hj => hother _ had (by omega) j o (hless j o hj).2 (hless j o hj).1⟩, _, ty, setRow_heap w b cs _ ty (0, 0) t3, ?_, fun j hj => ?_⟩
            · rw [List.size_toArray, splice_length (by simpa using hfit), Array.length_toList]
              exact t4
            · rw [Nat.add_mul] at hj
              rw [Hp.add_out _ _ _ _ (.inr (by rw [hnl]; simp only at hj ⊢; omega))]
              exact t5 j (by simp only at hj ⊢; omega)
        · obtain ⟨ov, hf1, hc4⟩ := hp4.flat
          have hol := hf1.length
          have holds : ∀ (j : Nat) (v : Value), ov[j]? = some v → w.cell? (p.add j) = some v := by
            intro j v hj
            have hp3 : p.spot = none := hp3.resolve_left fun e => by subst e; rw [show ov = [] from hf1] at hj; simp at hj
            obtain ⟨b, off, spot⟩ := p
            simp only at hp3
            subst hp3
            rw [addr_add]
            exact hd.hp _ _ _ (hc4 j v hj)
          have hr := run_append_grow (P := P) w t o.type _ i2 z h1.und h2.info hz3 p xs.length c1 ov (by rw [hol, hsz]) holds q ys.length c2 nv (by rw [hnl, hsz]) hnews (by omega) hl (growslice_fits (by omega) hb)
          obtain ⟨hd3, hv⟩ := laid_append hd2 (tiOf P t).elem (Builtin.zeroCells z.cells (grownCap w (xs.length + ys.length) c1 (tiOf P t).elem - (xs.length + ys.length))) (hf1.append hf2) (grownCap w (xs.length + ys.length) c1 (tiOf P t).elem) (by rw [List.length_append]; exact grownCap_ge _ _ _ _)
          have e5 : (ov ++ nv).toArray = ov.toArray ++ nv.toArray := by simp
          have hsp := (laid_spare (w := w) (tiOf P t).elem z.cells hzs (hf1.append hf2) (grownCap w (xs.length + ys.length) c1 (tiOf P t).elem) (by rw [List.length_append]; exact grownCap_ge _ _ _ _) (fun b => w.heap.size ≤ b) (Nat.le_refl _)).mono fun b hb => hd2.new_ok hb
          rw [e5] at hd3 hsp
          rw [List.length_append] at hsp
          refine ⟨_, _, _, hrun _ _ ?_, hv, hd3, by rw [List.length_append]; exact hsp⟩
          rw [e1, e2, hbd, had, List.length_append]
          exact hr
end

end Go.Eng
