/- The proof engine, part 14d: making a list, copying into it, letting it be read. -/
import Derived.Test.YtmnmhehddbemkaaPlan
namespace Go.Eng

theorem made_one {z : Array Value} (hz : ∀ v ∈ z.toList, v.oneCell' = true) (m : Nat) : ∀ v ∈ (madeCells z (m * z.size)).toList, v.oneCell' = true := by
  intro v hv
  unfold madeCells at hv
  rw [Array.toList_map, List.mem_map] at hv
  obtain ⟨i, hi, rfl⟩ := hv
  have hi : i < m * z.size := by simpa using hi
  have hs : 0 < z.size := by
    rcases Nat.eq_zero_or_pos z.size with h | h
    · rw [h] at hi; omega
    · exact h
  have hlt : i % z.size < z.size := Nat.mod_lt _ hs
  rw [getElem!_pos z _ hlt]
  exact hz _ (Array.mem_toList_iff.2 (Array.getElem_mem hlt))

/-- A list is made, as long as it may get. -/
theorem at_make {E : Stc} {T : Nat → TI} {all rest : List Oper} {o : Oper} {s : List Fr} {env : List (Nat × SV)} {own : List (Nat × SO)} {nx : List Nat} {t : Nat} {x y : Operand} {kx ky : IntKind} {n : Int} (k sz : Nat) (hT : ∀ t, T t = tiOf E.P t) (ho : o.op = .makeSlice t x y) (hx : ev env x = .int kx n) (hy : ev env y = .int ky n)
    (h0 : 0 ≤ n) (hb : ((T (T t).elem).bytes : Int) * n ≤ 281474976710656) (h63 : n ≤ 9223372036854775807) (kk : Sat E (.ops all rest) s (put o.dst (.arr k n.toNat) env) ((k, .cells (T t).elem (List.replicate (n.toNat * sz) .any)) :: own) nx)
    (hkT : lstT T t sz = true := by rfl) (hones : SV.ones (constsS (T (T t).elem).zero) = true := by rfl) (hm : Nat.ble E.cx.m0 k = true := by rfl) (hE : freshE k env = true := by rfl) (hO : freshO k own = true := by rfl)
    (hg : guardK all o.guard env true false false = true := by rfl) (hd : dstLt o.dst E.n = true := by rfl) : Sat E (.ops all (o :: rest)) s env own nx := by
  intro a w hat
  have hwant : Region.wanted o (yielded all.toArray a.tmps) = true := by
    rcases guardK_wanted (E := E) (all := all) (o := o) (env := env) (own := own) (yes := true) (no := false) (stuck := false) with ⟨_, hw⟩ | ⟨h, _⟩ | h
    · exact hw a w hat
    · rw [hg] at h; cases h
    · rw [hg] at h; cases h
  unfold wpList
  rw [if_pos hwant]
  refine .inl ?_
  obtain ⟨hdf, g, H, hdn⟩ := hat
  obtain ⟨hk, hz, hk2, hz2, hz0⟩ := lstT_spec hT hkT
  rw [hT (T t).elem, hT t] at hb hones
  obtain ⟨i1, h1⟩ := slice_ti hk
  obtain ⟨i2, d2, h2⟩ := ti_spec hk2
  obtain ⟨z, hz3, hz4⟩ := zero_spec h2 hz2
  have hzs : z.cells.size = sz := by rw [← hz0, hz4, Array.length_toList]
  have hsz : sz = i2.size := by rw [← hz, h2.size]
  rw [h2.bytes] at hb
  have e1 : a.eval x = .int kx n := by have := hdn.ev x; rw [hx] at this; exact this
  have e2 : a.eval y = .int ky n := by have := hdn.ev y; rw [hy] at this; exact this
  have hr := run_make (P := E.P) w t _ i2 z h1.und h2.info hz3 kx ky n n h0 (Int.le_refl _) hb h63
  have hone : ∀ v ∈ (madeCells z.cells (n.toNat * sz)).toList, v.oneCell' = true := by
    rw [← hzs]
    refine made_one (fun v hv => ?_) _
    rw [← hz4] at hv
    exact (constsS_den g H _).oneCells hones v hv
  have hlen : (madeCells z.cells (n.toNat * sz)).toList.length = n.toNat * sz := by rw [Array.length_toList, size_madeCells]
  have hany : Dens g H (List.replicate (n.toNat * sz) .any) (madeCells z.cells (n.toNat * sz)).toList := by
    have := Dens.anys (g := g) (H := H) (madeCells z.cells (n.toNat * sz)).toList
    rw [hlen] at this
    exact this
  have hd2 := hdn.new' (t := (T t).elem) (Nat.le_of_ble_eq_true hm) (noKs_anys k _) hE hO hany hone
  unfold Oper.wp
  have hrun : (execOp a.eval o).run E.P w = .ok (.value (.slice (some ⟨w.heap.size, 0, none⟩) n.toNat n.toNat)) (w.alloc (.cells (madeCells z.cells (n.toNat * sz)) (T t).elem)) := by
    rw [hT t, hsz]
    simp [execOp, ho, e1, e2, hr]
  rw [hrun]
  rw [Array.toArray_toList] at hd2
  exact kk _ _ (At.put hdf hd2 ⟨w.heap.size, upd_same _ _ _, rfl⟩ fun d e => by rw [e] at hd; exact Nat.blt_eq.mp hd)

/-- The cells of rows, one behind the other, as values. -/
def flatU (rows : List (List DV)) : List SV := rows.flatten.map up

theorem Dens.append_inv {g : Nat → Value} {H : Hp} : ∀ {a b : List SV} {vs : List Value}, Dens g H (a ++ b) vs → ∃ v1 v2, vs = v1 ++ v2 ∧ Dens g H a v1 ∧ Dens g H b v2
  | [], b, vs, h => ⟨[], vs, rfl, trivial, h⟩
  | x :: a, b, [], h => h.elim
  | x :: a, b, v :: vs, h => by
    obtain ⟨v1, v2, e, h1, h2⟩ := Dens.append_inv (a := a) h.2
    exact ⟨v :: v1, v2, by rw [e]; rfl, ⟨h.1, h1⟩, h2⟩

theorem DenF.toFlat {g : Nat → Value} {H : Hp} {sz : Nat} : ∀ {rows : List (List DV)} {vs : List Value}, DenF H sz rows vs → Dens g H (flatU rows) vs
  | [], vs, h => by rw [show vs = [] from h]; trivial
  | r :: rs, vs, h => by
    obtain ⟨v1, v2, e, h1, _, h2⟩ := h
    subst e
    have h3 := DenF.toFlat (g := g) h2
    unfold flatU at h3 ⊢
    rw [List.flatten_cons, List.map_append]
    exact (ups_den h1).append h3

theorem DenF.of_flatU {g : Nat → Value} {H : Hp} {sz : Nat} : ∀ {rows : List (List DV)} {vs : List Value}, (∀ r ∈ rows, r.length = sz) → Dens g H (flatU rows) vs → DenF H sz rows vs
  | [], [], _, _ => rfl
  | [], _ :: _, _, h => h.elim
  | r :: rs, vs, hl, h => by
    unfold flatU at h
    rw [List.flatten_cons, List.map_append] at h
    obtain ⟨v1, v2, e, h1, h2⟩ := Dens.append_inv h
    have h3 := dn_ups h1
    exact ⟨v1, v2, e, h3, by rw [h3.length]; exact hl r (by simp), DenF.of_flatU (fun r hr => hl r (by simp [hr])) h2⟩

/-- A list is copied into one that was made as long. -/
theorem at_copy {E : Stc} {T : Nat → TI} {all rest : List Oper} {o : Oper} {s : List Fr} {env : List (Nat × SV)} {own : List (Nat × SO)} {nx : List Nat} {t ty k n sz : Nat} {x y : Operand} {rows : List (List DV)} {cs : List SV} {c : Call} (hT : ∀ t, T t = tiOf E.P t) (ho : o.op = .call c) (hcl : c.callee = .builtin .copy) (ha : c.args = #[x, y]) (hat : c.argTypes = #[t, t])
    (hx : ev env x = .arr k n) (hy : lstv (ev env y) = some (sz, rows)) (hk0 : ownq own k = some (.cells ty cs)) (hn : rows.length = n) (hcs : cs.length = n * sz)
    (kk : Sat E (.ops all rest) s (put o.dst (.int .i64 n) env) (setOwn k (.cells ty (flatU rows)) own) nx)
    (hkT : lstT T t sz = true := by rfl) (hg : guardK all o.guard env true false false = true := by rfl) (hd : dstLt o.dst E.n = true := by rfl) : Sat E (.ops all (o :: rest)) s env own nx := by
  subst hn
  intro a w hat'
  have hwant : Region.wanted o (yielded all.toArray a.tmps) = true := by
    rcases guardK_wanted (E := E) (all := all) (o := o) (env := env) (own := own) (yes := true) (no := false) (stuck := false) with ⟨_, hw⟩ | ⟨h, _⟩ | h
    · exact hw a w hat'
    · rw [hg] at h; cases h
    · rw [hg] at h; cases h
  unfold wpList
  rw [if_pos hwant]
  refine .inl ?_
  obtain ⟨hdf, g, H, hdn⟩ := hat'
  obtain ⟨hk, hz, hk2, hz2, hz0⟩ := lstT_spec hT hkT
  obtain ⟨i1, h1⟩ := slice_ti hk
  obtain ⟨i2, d2, h2⟩ := ti_spec hk2
  have hsz : sz = i2.size := by rw [← hz, h2.size]
  obtain ⟨b, cur, hgk, hv, hw, _⟩ := hdn.cells hk0
  have ex := hdn.ev x
  rw [hx] at ex
  obtain ⟨b', hg', e1⟩ := ex
  have : b' = b := by rw [hgk] at hg'; simpa using hg'.symm
  subst this
  obtain ⟨bd, c2, e2, hc2, hn2, hp2⟩ := lstv_den hy (hdn.ev y)
  have hcur : cur.length = rows.length * sz := by rw [hv.length, hcs]
  have key : ∃ nv, DenF H sz rows nv ∧ (Builtin.firstCells i2.size rows.length (a.eval y)).run E.P w = .ok nv.toArray w := by
    rw [e2]
    cases hbd : bd with
    | none =>
      have := (hn2 hbd).1
      subst this
      exact ⟨[], rfl, by simp [Builtin.firstCells]⟩
    | some q =>
      obtain ⟨hq1, hq2⟩ := hp2 q hbd
      obtain ⟨nv, hf2, hc3⟩ := hq2.flat
      refine ⟨nv, hf2, run_firstCells_some (P := E.P) w i2.size rows.length q rows.length c2 nv (by rw [hf2.length, hsz]) fun j v hj => ?_⟩
      have hq1 : q.spot = none := hq1.resolve_left fun e => by subst e; rw [show nv = [] from hf2] at hj; simp at hj
      obtain ⟨b, off, spot⟩ := q
      simp only at hq1
      subst hq1
      rw [addr_add]
      exact hdn.hp _ _ _ (hc3 j v hj)
  obtain ⟨nv, hf, hfc⟩ := key
  have hnl := hf.length
  have hst := run_storeCells_at E.P b' 0 ty nv 0 cur.toArray w hw (by simp [hnl, hcur]) hf.one
  have hsp : (cur.toArray.toList.take (0 + 0) ++ nv ++ cur.toArray.toList.drop (0 + 0 + nv.length)).toArray = nv.toArray := by
    have : cur.drop nv.length = [] := List.drop_eq_nil_of_le (by omega)
    simp [this]
  rw [hsp] at hst
  have hd3 := hdn.write (new := flatU rows) hk0 hgk (DenF.toFlat (g := g) hf) hf.one
  have hrun : (execOp a.eval o).run E.P w = .ok (.value (.int .i64 rows.length)) (w.setRow b' nv.toArray) := by
    have : (Builtin.copy_ #[t, t] o.type #[a.eval x, a.eval y]).run E.P w = .ok (.int .i64 rows.length) (w.setRow b' nv.toArray) := by
      rw [e2] at hfc
      rw [e1, e2]
      simp [Builtin.copy_, run_underlying h1.und, Builtin.lenOf, sizeOf, typeInfo, h2.info, hfc, hst, goInt]
    simp only [execOp, ho, resolve, hcl, ha, hat]
    simp [invoke, builtin, this]
  unfold Oper.wp
  rw [hrun]
  exact kk _ _ (At.put hdf hd3 rfl fun d e => by rw [e] at hd; exact Nat.blt_eq.mp hd)

theorem SVles.refl : ∀ l : List SV, SVles l l
  | [] => trivial
  | a :: l => ⟨SVle.refl a, SVles.refl l⟩

theorem SVle.agg {l r : List SV} (h : SVles l r) : SVle (.agg l) (.agg r) := by
  rintro g H x ⟨cs, e, hd⟩
  exact ⟨cs, e, h.dens g H cs hd⟩

theorem SVle.nil (sz : Nat) : SVle (.tl 0 []) (.tl sz []) := by
  rintro g H x ⟨⟨ad, c, e, h1, h2, h3⟩, h4⟩
  exact ⟨⟨ad, c, e, h1, h2, fun p hp => ⟨.inl rfl, trivial⟩⟩, h4⟩

def pubE (k sz : Nat) (rows : List (List DV)) : List (Nat × SV) → List (Nat × SV)
  | [] => []
  | (t, s) :: l => (t, match s with
    | .arr j n => bif Nat.beq j k then .tl sz rows else .arr j n
    | s => s) :: pubE k sz rows l

def arrOk (k n : Nat) : List (Nat × SV) → Prop
  | [] => True
  | (_, s) :: l => (match s with
    | .arr j m => (bif Nat.beq j k then m = n else True) ∧ arrOk k n l
    | _ => arrOk k n l)

theorem arrOk_spec {k n : Nat} : ∀ {env : List (Nat × SV)}, arrOk k n env → ∀ t m, nth env t = .arr k m → m = n
  | [], _, t, m, h => by simp [nth] at h
  | (i, s) :: l, ho, t, m, h => by
    simp only [nth] at h
    cases hb : Nat.beq i t with
    | true =>
      simp only [hb, cond_true] at h
      subst h
      simp only [arrOk, Nat.beq_refl, cond_true] at ho
      exact ho.1
    | false =>
      simp only [hb, cond_false] at h
      refine arrOk_spec ?_ t m h
      unfold arrOk at ho
      split at ho
      · exact ho.2
      · exact ho

/-- Less is asked of what is handed in. -/
theorem Gives.weak {P : Program} {f : FuncId} {args args' : List SV} {a : SV} (h : Gives P f args a) (hl : SVles args' args) : Gives P f args' a :=
  ⟨h.1, fun g H w vs h1 h2 h3 h4 => h.2 g H w vs h1 h2 h3 (hl.dens g H vs h4)⟩

theorem GivesP.le {P : Program} {f : FuncId} {args : List SV} {Post : SV → Prop} {b : SV} (h : GivesP P f args Post) (hl : ∀ s, Post s → SVle s b) (h0 : b.lt 0 = true := by rfl) : Gives P f args b := by
  refine ⟨h.1, fun g H w vs h1 h2 h3 h4 => (h.2 g H w vs h1 h2 h3 h4).mono fun e w' he => ?_⟩
  cases e with
  | returned v =>
    obtain ⟨g', H', sv, own, ⟨hp, _, rfl⟩, hv, hr⟩ := he
    exact ⟨g', H', b, [], ⟨rfl, h0, rfl⟩, hl _ hp _ _ _ hv, hr⟩
  | _ => exact he

theorem GivesP.weak {P : Program} {f : FuncId} {args args' : List SV} {Post : SV → Prop} (h : GivesP P f args Post) (hl : SVles args' args) : GivesP P f args' Post :=
  ⟨h.1, fun g H w vs h1 h2 h3 h4 => h.2 g H w vs h1 h2 h3 (hl.dens g H vs h4)⟩

/-- What was made is let be read, and written no more. -/
theorem at_publish {E : Stc} {m : Md} {s : List Fr} {env : List (Nat × SV)} {own own2 : List (Nat × SO)} {nx : List Nat} {ty : Nat} (k sz : Nat) (rows : List (List DV)) (hk : ownq own k = some (.cells ty (flatU rows))) (hr : ∀ r ∈ rows, r.length = sz) (hl : lessO k own own2)
    (hn : arrOk k rows.length env) (kk : Sat E m s (pubE k sz rows env) own2 nx) : Sat E m s env own nx := by
  refine sat_mono (fun a w h => ?_) kk
  obtain ⟨hdf, g, H, hd⟩ := h
  obtain ⟨b, vs, hg, hv, hone, hw, hH, hm⟩ := hd.ok k _ hk
  have hf := DenF.of_flatU hr hv
  have hd2 := hd.fill vs hl (fun j o hj hne e => hne (hd.inj j k (by rw [hj]; rfl) (by rw [hk]; rfl) b e (by rw [hg]; rfl))) hm hw (fun j _ => hH j) (q := 0) (by simp)
  have e : (splice vs 0 vs.toArray.toList).toArray = vs.toArray := by simp [splice]
  rw [e, setRow_self w b vs.toArray ty (0, 0) hw] at hd2
  have hle := Hp.add_le (H := H) (b := b) (q := 0) (fun j _ => hH j) vs
  refine ⟨hdf, g, _, { hd2 with den := fun t => ?_ }⟩
  have hnth : ∀ (env : List (Nat × SV)) t, nth (pubE k sz rows env) t = match nth env t with | .arr j n => bif Nat.beq j k then .tl sz rows else .arr j n | s => s := by
    intro env t
    induction env with
    | nil => rfl
    | cons p l ih =>
      obtain ⟨i, x⟩ := p
      simp only [pubE, nth]
      cases Nat.beq i t with
      | true => rfl
      | false => exact ih
  have h0 := hd2.den t
  rw [hnth]
  split
  · rename_i j n hj
    rw [hj] at h0
    cases hb : Nat.beq j k with
    | false => exact h0
    | true =>
      have := beq_true hb
      subst this
      obtain ⟨b', hg', ex⟩ := h0
      have : b' = b := by rw [hg] at hg'; simpa using hg'.symm
      subst this
      have hn' := arrOk_spec hn t n hj
      subst hn'
      refine ⟨⟨some ⟨b', 0, none⟩, _, ex, Nat.le_refl _, fun e => (by cases e), fun p hp => ?_⟩, _, ex⟩
      simp only [Option.some.injEq] at hp
      subst hp
      refine ⟨.inr rfl, (hf.mono hle).rs fun j v hj => ?_⟩
      have := Hp.add_at H b' 0 vs hj
      simpa using this
  · exact h0

/-- A call that may write one of the own blocks (a method by pointer). -/
theorem at_met {E : Stc} {all rest : List Oper} {o : Oper} {s : List Fr} {env : List (Nat × SV)} {own : List (Nat × SO)} {nx : List Nat} {f : Nat} {X : Type} {Φ : X → Prop} {sv : X → SV} {so : SO} {so' : X → SO} {args : List SV} {own' : X → List (Nat × SO)} (k0 : Nat)
    (hC : Contract E.P f 1 [(0, so)] args fun s post => ∃ x, Φ x ∧ s = sv x ∧ post = [(0, so' x)]) (hc : callK o.op env (fun f l => some (f, l)) none = some (f, rens (fun _ => k0) args)) (hown : ownq own k0 = some (renO (fun _ => k0) so))
    (hs : ∀ x, setOwnK k0 (so' x) own some = some (own' x)) (k : ∀ x, Φ x → Sat E (.ops all rest) s (put o.dst (sv x) env) (own' x) nx)
    (h1 : ∀ x, (sv x).lt 1 = true := by intro x; first | rfl | (cases x <;> rfl)) (h2 : ∀ x, cellsLt 1 [(0, so' x)] = true := by intro x; rfl) (h3 : ∀ x, ren (fun _ => k0) (sv x) = sv x := by intro x; first | rfl | (cases x <;> rfl)) (h4 : ∀ x, renO (fun _ => k0) (so' x) = so' x := by intro x; rfl)
    (hg : guardK all o.guard env true false false = true := by rfl) (hd : dstLt o.dst E.n = true := by rfl) : Sat E (.ops all (o :: rest)) s env own nx :=
  at_call (fun _ => k0) hC hc rfl ⟨hown, trivial⟩ (fun s' post hP => by
    obtain ⟨x, hx, rfl, rfl⟩ := hP
    have e := hs x
    rw [setOwnK_eq] at e
    simp only [Option.some.injEq] at e
    refine ⟨h1 x, h2 x, rfl, ?_⟩
    rw [h3 x]
    simp only [posts, h4 x]
    rw [e]
    exact k x hx) (fun i j hi hj _ => by
      have key : ∀ i, (ownq [(0, so)] i).isSome = true → i = 0 := by
        intro i hi
        cases i with
        | zero => rfl
        | succ i => exact absurd hi (by show ¬ (false = true); simp)
      rw [key i hi, key j hj]) (fun k hk => by
      obtain rfl : k = 0 := by omega
      rfl) hg hd

/-- The same, where the answer is told. -/
theorem at_metF {E : Stc} {all rest : List Oper} {o : Oper} {s : List Fr} {env : List (Nat × SV)} {own own' : List (Nat × SO)} {nx : List Nat} {f : Nat} {sv : SV} {so so' : SO} {args : List SV} (k0 : Nat)
    (hC : Contract E.P f 1 [(0, so)] args fun s post => s = sv ∧ post = [(0, so')]) (hc : callK o.op env (fun f l => some (f, l)) none = some (f, rens (fun _ => k0) args)) (hown : ownq own k0 = some (renO (fun _ => k0) so))
    (hs : setOwnK k0 so' own some = some own') (k : Sat E (.ops all rest) s (put o.dst sv env) own' nx)
    (h1 : sv.lt 1 = true := by rfl) (h2 : cellsLt 1 [(0, so')] = true := by rfl) (h3 : ren (fun _ => k0) sv = sv := by rfl) (h4 : renO (fun _ => k0) so' = so' := by rfl)
    (hg : guardK all o.guard env true false false = true := by rfl) (hd : dstLt o.dst E.n = true := by rfl) : Sat E (.ops all (o :: rest)) s env own nx :=
  at_met (X := Unit) (Φ := fun _ => True) (sv := fun _ => sv) (so' := fun _ => so') (own' := fun _ => own') k0 ⟨hC.1, fun g H w vs a b c d => (hC.2 g H w vs a b c d).mono fun e w' he => by
    cases e with
    | returned v =>
      obtain ⟨g', H', s', post, ⟨e1, e2⟩, h⟩ := he
      exact ⟨g', H', s', post, ⟨(), trivial, e1, e2⟩, h⟩
    | _ => exact he⟩ hc hown (fun _ => hs) (fun _ _ => k) (fun _ => h1) (fun _ => h2) (fun _ => h3) (fun _ => h4) hg hd

def r2 (k0 k1 : Nat) : Nat → Nat := fun k => bif Nat.beq k 0 then k0 else k1

/-- The same, of two own blocks. -/
theorem at_met2 {E : Stc} {all rest : List Oper} {o : Oper} {s : List Fr} {env : List (Nat × SV)} {own : List (Nat × SO)} {nx : List Nat} {f : Nat} {X : Type} {Φ : X → Prop} {sv : X → SV} {a b : SO} {a' b' : X → SO} {args : List SV} {own' : X → List (Nat × SO)} (k0 k1 : Nat)
    (hC : Contract E.P f 2 [(0, a), (1, b)] args fun s post => ∃ x, Φ x ∧ s = sv x ∧ post = [(0, a' x), (1, b' x)]) (hc : callK o.op env (fun f l => some (f, l)) none = some (f, rens (r2 k0 k1) args)) (h0 : ownq own k0 = some (renO (r2 k0 k1) a)) (h1 : ownq own k1 = some (renO (r2 k0 k1) b))
    (hs : ∀ x, setOwnK k1 (renO (r2 k0 k1) (b' x)) own (fun o1 => setOwnK k0 (renO (r2 k0 k1) (a' x)) o1 some) = some (own' x)) (k : ∀ x, Φ x → Sat E (.ops all rest) s (put o.dst (ren (r2 k0 k1) (sv x)) env) (own' x) nx)
    (hne : Nat.beq k0 k1 = false := by rfl) (h2 : ∀ x, (sv x).lt 2 = true := by intro x; first | rfl | (cases x <;> rfl)) (h3 : ∀ x, cellsLt 2 [(0, a' x), (1, b' x)] = true := by intro x; rfl)
    (hg : guardK all o.guard env true false false = true := by rfl) (hd : dstLt o.dst E.n = true := by rfl) : Sat E (.ops all (o :: rest)) s env own nx :=
  at_call (r2 k0 k1) hC hc rfl ⟨h0, h1, trivial⟩ (fun s' post hP => by
    obtain ⟨x, hx, rfl, rfl⟩ := hP
    have e := hs x
    simp only [setOwnK_eq, Option.some.injEq] at e
    refine ⟨h2 x, h3 x, rfl, ?_⟩
    show Sat E _ _ _ (setOwn k0 (renO (r2 k0 k1) (a' x)) (setOwn k1 (renO (r2 k0 k1) (b' x)) own)) nx
    rw [e]
    exact k x hx) (fun i j hi hj e => by
      have key : ∀ i, (ownq [(0, a), (1, b)] i).isSome = true → i = 0 ∨ i = 1 := by
        intro i hi
        match i, hi with
        | 0, _ => exact .inl rfl
        | 1, _ => exact .inr rfl
        | i + 2, hi => exact absurd hi (by show ¬ (false = true); simp)
      have hk := beq_false hne
      rcases key i hi with rfl | rfl <;> rcases key j hj with rfl | rfl
      · rfl
      · exact absurd e hk
      · exact absurd e.symm hk
      · rfl) (fun k hk => by
      match k, hk with
      | 0, _ => rfl
      | 1, _ => rfl) hg hd

end Go.Eng
