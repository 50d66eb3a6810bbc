/- The texts See, Mk, Gro, Ifc, T2, W4a, W4b, W4c, W4d, W4e, W4f, W4g, one behind the other: an executor over the translated code, contracts of functions, and their laws. -/
import Derived.WideLaws
import Derived.Test.YtmnmhehddbemkaaProg
import Derived.Test.YtmnmhehddbemkaaKnowC3
/- The proof engine, part 19: what plain arguments are read as. -/
namespace Go.Eng
open Go.RowKit

/-- Fields that lie one behind the other. -/
def contF (P : Program) : Nat → List Field → Nat → Bool
  | off, [], n => Nat.beq off n
  | off, f :: fs, n => Nat.beq f.offset off && contF P (off + P.cellsOf f.type) fs n

/-- Types of numbers, texts, structs and lists, closed among themselves. -/
def plainT (P : Program) (ts : List TypeId) : Bool :=
  ts.all fun t => match P.underlying t with
    | some (.int _) => true
    | some .bool => true
    | some .string => true
    | some (.slice e) => ts.contains e && Nat.blt 0 (P.cellsOf e)
    | some (.struct fs) => contF P 0 fs.toList (P.cellsOf t) && fs.toList.all fun f => ts.contains f.type
    | _ => false

/-- Cells of a type. -/
def okT (P : Program) : Nat → TypeId → List DV → Prop
  | 0, _, _ => False
  | n + 1, t, ds => match P.underlying t with
    | some (.int k) => ∃ m, ds = [.int k m] ∧ (Lit.int k m).wf = true
    | some .bool => ∃ b, ds = [.bl b]
    | some .string => ∃ s : ByteArray, ds = [.str s] ∧ s.size ≤ maxLen
    | some (.slice e) => ∃ rows, ds = [.lst (P.cellsOf e) rows] ∧ rows.length ≤ maxLen ∧ ∀ r ∈ rows, r.length = P.cellsOf e ∧ okT P n e r
    | some (.struct fs) => ds.length = P.cellsOf t ∧ ∀ (i : Nat) f, fs[i]? = some f → okT P n f.type ((ds.drop f.offset).take (P.cellsOf f.type))
    | _ => False

theorem contF_le {P : Program} : ∀ {fl : List Field} {off N : Nat}, contF P off fl N = true → off ≤ N
  | [], off, N, h => by have := beq_true h; omega
  | f :: fl, off, N, h => by
    simp only [contF, Bool.and_eq_true] at h
    have := contF_le h.2
    omega

theorem DenDs.app {H : Hp} : ∀ {a b : List DV} {x y : List Value}, DenDs H a x → DenDs H b y → DenDs H (a ++ b) (x ++ y)
  | [], _, [], _, _, h => h
  | _ :: _, _, _ :: _, _, h1, h2 => ⟨h1.1, DenDs.app h1.2 h2⟩
  | [], _, _ :: _, _, h, _ => h.elim
  | _ :: _, _, [], _, h, _ => h.elim

section
variable {H : Type} {enc : TypeId × Value → H} {P : Program} {w : World} {base : Nat} {spare : Nat → Bool} {held : Bool}

theorem see_fields {ts : List TypeId} {n : Nat} (ih : ∀ t cs x, t ∈ ts → DataW.trod enc P w base spare held n t cs = some x → ∃ ds, DenDs (Hof w) ds cs ∧ okT P n t ds) {cs : List Value} {N : Nat} (hN : cs.length = N) :
    ∀ (fl : List Field) (off : Nat), contF P off fl N = true → (∀ f ∈ fl, f.type ∈ ts ∧ ∃ y, DataW.trod enc P w base spare held n f.type ((cs.drop f.offset).take (P.cellsOf f.type)) = some y) →
      ∃ ds, DenDs (Hof w) ds (cs.drop off) ∧ ∀ pre : List DV, pre.length = off → ∀ f ∈ fl, okT P n f.type (((pre ++ ds).drop f.offset).take (P.cellsOf f.type))
  | [], off, h, _ => by
    have := beq_true h
    exact ⟨[], by rw [List.drop_eq_nil_of_le (by omega)]; trivial, fun pre hp f hf => by cases hf⟩
  | f :: fl, off, h, hf => by
    simp only [contF, Bool.and_eq_true] at h
    have ho := beq_true h.1
    have hle := contF_le h.2
    obtain ⟨ht, y, hy⟩ := hf f (by simp)
    obtain ⟨d1, hd1, hk1⟩ := ih _ _ _ ht hy
    obtain ⟨d2, hd2, hk2⟩ := see_fields ih hN fl (off + P.cellsOf f.type) h.2 fun g hg => hf g (by simp [hg])
    rw [ho] at hd1
    have hl1 : d1.length = P.cellsOf f.type := by rw [← hd1.length]; simp; omega
    refine ⟨d1 ++ d2, ?_, fun pre hp g hg => ?_⟩
    · have e : cs.drop off = (cs.drop off).take (P.cellsOf f.type) ++ cs.drop (off + P.cellsOf f.type) := by rw [← List.drop_drop, List.take_append_drop]
      rw [e]
      exact hd1.app hd2
    · rcases List.mem_cons.1 hg with rfl | hg
      · rw [ho, ← hp, List.drop_left, ← hl1, List.take_left]
        exact hk1
      · rw [← List.append_assoc]
        exact hk2 (pre ++ d1) (by simp [hp, hl1]) g hg

theorem trod_see {ts : List TypeId} (hp : plainT P ts = true) : ∀ (n : Nat) (t : TypeId) (cs : List Value) (x : DataW H × List MemPlace), t ∈ ts → DataW.trod enc P w base spare held n t cs = some x →
    ∃ ds, DenDs (Hof w) ds cs ∧ okT P n t ds := by
  intro n
  induction n with
  | zero => intro t cs x _ h; simp [DataW.trod] at h
  | succ n ih =>
    intro t cs x ht h
    have hc := List.all_eq_true.1 hp t ht
    unfold okT
    split at hc
    · rename_i k hu
      obtain ⟨m, rfl, _, hw⟩ := DataW.trod_int hu h
      exact ⟨[.int k m], ⟨rfl, trivial⟩, by exact ⟨m, rfl, hw⟩⟩
    · rename_i hu
      obtain ⟨b, rfl, _⟩ := DataW.trod_bool hu h
      exact ⟨[.bl b], ⟨rfl, trivial⟩, by exact ⟨b, rfl⟩⟩
    · rename_i hu
      obtain ⟨s, rfl, _, hw⟩ := DataW.trod_string hu h
      exact ⟨[.str s], ⟨rfl, trivial⟩, by exact ⟨s, rfl, hw⟩⟩
    · rename_i e hu
      rw [Bool.and_eq_true] at hc
      have hmem : e ∈ ts := by simpa using hc.1
      have hsz : 0 < P.cellsOf e := Nat.blt_eq.mp hc.2
      rcases DataW.trod_slice hu h with ⟨rfl, _⟩ | ⟨a, len, cap, elems, rest, n', hn', rfl, _, hb, hl, hm, hlen, hel, _, _⟩
      · exact ⟨[.lst (P.cellsOf e) []], ⟨⟨none, 0, rfl, Nat.le_refl _, fun _ => ⟨rfl, rfl⟩, fun p hp => by cases hp⟩, trivial⟩, by exact ⟨[], rfl, Nat.zero_le _, by simp⟩⟩
      · simp only [Nat.add_right_cancel_iff] at hn'
        subst hn'
        have each : ∀ i, i < len → ∃ cs y, w.cells? base (a.add (i * P.cellsOf e)) (P.cellsOf e) = some cs ∧ DataW.trod enc P w base spare held n e cs = some y := by
          intro i hi
          have h1 := hel i hi
          rw [List.getElem?_eq_getElem (by omega), Option.bind_eq_some_iff] at h1
          obtain ⟨cs, h2, h3⟩ := h1
          exact ⟨cs, _, h2, h3⟩
        by_cases h0 : len = 0
        · subst h0
          exact ⟨[.lst (P.cellsOf e) []], ⟨⟨some a, cap, rfl, Nat.zero_le _, fun e => (by cases e), fun p _ => ⟨.inl rfl, trivial⟩⟩, trivial⟩, by exact ⟨[], rfl, Nat.zero_le _, by simp⟩⟩
        · have hs : a.spot = none := by
            obtain ⟨cs, y, h1, _⟩ := each 0 (by omega)
            have h2 := (World.cells?_some h1).2.2 0 hsz
            rw [List.getElem?_eq_getElem (by rw [(World.cells?_some h1).2.1]; exact hsz)] at h2
            have := World.cell?_spot h2
            simpa [Addr.add] using this
          obtain ⟨b, off, spot⟩ := a
          simp only at hs
          subst hs
          have build : ∀ k i, i + k = len → ∃ rows : List (List DV), rows.length = k ∧ (∀ r ∈ rows, r.length = P.cellsOf e ∧ okT P n e r) ∧ DenRs (Hof w) b (off + i * P.cellsOf e) (P.cellsOf e) rows := by
            intro k
            induction k with
            | zero => intro i _; exact ⟨[], rfl, by simp, trivial⟩
            | succ k ihk =>
              intro i hi
              obtain ⟨cs, y, h1, h2⟩ := each i (by omega)
              obtain ⟨_, hcl, hcell⟩ := World.cells?_some h1
              obtain ⟨r, hr1, hr2⟩ := ih e cs y hmem h2
              obtain ⟨rows, q1, q2, q3⟩ := ihk (i + 1) (by omega)
              refine ⟨r :: rows, by simp [q1], fun r' hr' => ?_, ⟨cs, hr1, hcl, fun j v hj => ?_⟩, ?_⟩
              · rcases List.mem_cons.1 hr' with rfl | hr'
                · exact ⟨by rw [← hr1.length, hcl], hr2⟩
                · exact q2 r' hr'
              · have := hcell j (by rw [← hcl]; exact (List.getElem?_eq_some_iff.1 hj).1)
                rw [hj, addr_add, addr_add] at this
                exact this
              · rw [show off + i * P.cellsOf e + P.cellsOf e = off + (i + 1) * P.cellsOf e from by rw [Nat.add_mul]; omega]
                exact q3
          obtain ⟨rows, q1, q2, q3⟩ := build len 0 (by omega)
          rw [Nat.zero_mul, Nat.add_zero] at q3
          refine ⟨[.lst (P.cellsOf e) rows], ⟨⟨some ⟨b, off, none⟩, cap, by rw [q1], by rw [q1]; exact hl, fun e => (by cases e), fun p hp => ?_⟩, trivial⟩, by exact ⟨rows, rfl, by rw [q1]; omega, q2⟩⟩
          simp only [Option.some.injEq] at hp
          subst hp
          exact ⟨.inr rfl, q3⟩
    · rename_i fs hu
      rw [Bool.and_eq_true] at hc
      obtain ⟨xs, n', hn', _, hcl, hxl, hxs⟩ := DataW.trod_struct hu h
      simp only [Nat.add_right_cancel_iff] at hn'
      subst hn'
      have hfl : ∀ f ∈ fs.toList, f.type ∈ ts ∧ ∃ y, DataW.trod enc P w base spare held n f.type ((cs.drop f.offset).take (P.cellsOf f.type)) = some y := by
        intro f hf
        refine ⟨by simpa using List.all_eq_true.1 hc.2 f hf, ?_⟩
        obtain ⟨i, hi⟩ := List.getElem?_of_mem hf
        have hi' : fs[i]? = some f := by simpa using hi
        have hlt : i < xs.length := by rw [hxl]; exact (Array.getElem?_eq_some_iff.1 hi').1
        exact ⟨xs[i], by rw [hxs i f hi', List.getElem?_eq_getElem hlt]⟩
      obtain ⟨ds, hd, hk⟩ := see_fields ih hcl fs.toList 0 hc.1 hfl
      rw [List.drop_zero] at hd
      refine ⟨ds, hd, ?_⟩
      exact ⟨by rw [← hd.length, hcl], fun i f hf => by simpa using hk [] rfl f (Array.mem_toList_iff.2 (Array.mem_of_getElem? hf))⟩
    · cases hc

theorem see_arg {ts : List TypeId} (hp : plainT P ts = true) {t : TypeId} (ht : t ∈ ts) {v : Value} {d : DataW H} {p : List MemPlace} (h : DataW.Trod enc P w base spare held t v d p) :
    ∃ ds, DenDs (Hof w) ds v.cells.toList ∧ ∃ n, okT P n t ds := by
  obtain ⟨fuel, hf⟩ := h
  obtain ⟨ds, h1, h2⟩ := trod_see hp fuel t _ _ ht hf
  exact ⟨ds, h1, fuel, h2⟩

end

/-- All the arguments read as they did, where no old block was written. -/
theorem below_trodAll {H : Type} {enc : TypeId × Value → H} {P : Program} (hl : laidOutB P = true) {W W' : World} (hb : Below W.heap.size W W') :
    ∀ {ts : List TypeId} {vs : List Value} {ds : List (DataW H)} {ps : List MemPlace}, (ts.all fun t => P.readableRec t && Nat.blt t P.types.size) = true → DataW.TrodAll enc P W 0 (fun _ => true) true ts vs ds ps → (∀ x ∈ ps, x.block < W.heap.size) →
      DataW.TrodAll enc P W' 0 (fun b => decide (b < W.heap.size)) true ts vs ds ps
  | [], [], [], _, _, h, _ => h
  | t :: ts, v :: vs, d :: ds, ps, ht, ⟨p, q, h1, h2, e⟩, hlt => by
    simp only [List.all_cons, Bool.and_eq_true] at ht
    exact ⟨p, q, Below.trod hl ht.1.1 (Nat.blt_eq.mp ht.1.2) h1 hb (fun x hx => hlt x (by rw [e]; simp [hx])), below_trodAll hl hb (by simpa using ht.2) h2 (fun x hx => hlt x (by rw [e]; simp [hx])), e⟩
  | [], [], _ :: _, _, _, h, _ => h.elim
  | [], _ :: _, _, _, _, h, _ => h.elim
  | _ :: _, [], _, _, _, h, _ => h.elim
  | _ :: _, _ :: _, [], _, _, h, _ => h.elim

end Go.Eng
/- The proof engine, part 14d: making a list, copying into it, letting it be read. -/
namespace Go.Eng

theorem made_one {z : Array Value} (hz : ∀ v ∈ z.toList, v.oneCell' = true) (m : Nat) : ∀ v ∈ (madeCells z (m * z.size)).toList, v.oneCell' = true := by
  intro v hv
  unfold madeCells at hv
  rw [Array.toList_map, List.mem_map] at hv
  obtain ⟨i, hi, rfl⟩ := hv
  have hi : i < m * z.size := by simpa using hi
  have hs : 0 < z.size := by
    rcases Nat.eq_zero_or_pos z.size with h | h
    · rw [h] at hi; omega
    · exact h
  have hlt : i % z.size < z.size := Nat.mod_lt _ hs
  rw [getElem!_pos z _ hlt]
  exact hz _ (Array.mem_toList_iff.2 (Array.getElem_mem hlt))

/-- A list is made, as long as it may get. -/
theorem at_make {E : Stc} {T : Nat → TI} {all rest : List Oper} {o : Oper} {s : List Fr} {env : List (Nat × SV)} {own : List (Nat × SO)} {nx : List Nat} {t : Nat} {x y : Operand} {kx ky : IntKind} {n : Int} (k sz : Nat) (hT : ∀ t, T t = tiOf E.P t) (ho : o.op = .makeSlice t x y) (hx : ev env x = .int kx n) (hy : ev env y = .int ky n)
    (h0 : 0 ≤ n) (hb : ((T (T t).elem).bytes : Int) * n ≤ 281474976710656) (h63 : n ≤ 9223372036854775807) (kk : Sat E (.ops all rest) s (put o.dst (.arr k n.toNat) env) ((k, .cells (T t).elem (List.replicate (n.toNat * sz) .any)) :: own) nx)
    (hkT : lstT T t sz = true := by rfl) (hones : SV.ones (constsS (T (T t).elem).zero) = true := by rfl) (hm : Nat.ble E.cx.m0 k = true := by rfl) (hE : freshE k env = true := by rfl) (hO : freshO k own = true := by rfl)
    (hg : guardK all o.guard env true false false = true := by rfl) (hd : dstLt o.dst E.n = true := by rfl) : Sat E (.ops all (o :: rest)) s env own nx := by
  intro a w hat
  have hwant : Region.wanted o (yielded all.toArray a.tmps) = true := by
    rcases guardK_wanted (E := E) (all := all) (o := o) (env := env) (own := own) (yes := true) (no := false) (stuck := false) with ⟨_, hw⟩ | ⟨h, _⟩ | h
    · exact hw a w hat
    · rw [hg] at h; cases h
    · rw [hg] at h; cases h
  unfold wpList
  rw [if_pos hwant]
  refine .inl ?_
  obtain ⟨hdf, g, H, hdn⟩ := hat
  obtain ⟨hk, hz, hk2, hz2, hz0⟩ := lstT_spec hT hkT
  rw [hT (T t).elem, hT t] at hb hones
  obtain ⟨i1, h1⟩ := slice_ti hk
  obtain ⟨i2, d2, h2⟩ := ti_spec hk2
  obtain ⟨z, hz3, hz4⟩ := zero_spec h2 hz2
  have hzs : z.cells.size = sz := by rw [← hz0, hz4, Array.length_toList]
  have hsz : sz = i2.size := by rw [← hz, h2.size]
  rw [h2.bytes] at hb
  have e1 : a.eval x = .int kx n := by have := hdn.ev x; rw [hx] at this; exact this
  have e2 : a.eval y = .int ky n := by have := hdn.ev y; rw [hy] at this; exact this
  have hr := run_make (P := E.P) w t _ i2 z h1.und h2.info hz3 kx ky n n h0 (Int.le_refl _) hb h63
  have hone : ∀ v ∈ (madeCells z.cells (n.toNat * sz)).toList, v.oneCell' = true := by
    rw [← hzs]
    refine made_one (fun v hv => ?_) _
    rw [← hz4] at hv
    exact (constsS_den g H _).oneCells hones v hv
  have hlen : (madeCells z.cells (n.toNat * sz)).toList.length = n.toNat * sz := by rw [Array.length_toList, size_madeCells]
  have hany : Dens g H (List.replicate (n.toNat * sz) .any) (madeCells z.cells (n.toNat * sz)).toList := by
    have := Dens.anys (g := g) (H := H) (madeCells z.cells (n.toNat * sz)).toList
    rw [hlen] at this
    exact this
  have hd2 := hdn.new' (t := (T t).elem) (Nat.le_of_ble_eq_true hm) (noKs_anys k _) hE hO hany hone
  unfold Oper.wp
  have hrun : (execOp a.eval o).run E.P w = .ok (.value (.slice (some ⟨w.heap.size, 0, none⟩) n.toNat n.toNat)) (w.alloc (.cells (madeCells z.cells (n.toNat * sz)) (T t).elem)) := by
    rw [hT t, hsz]
    simp [execOp, ho, e1, e2, hr]
  rw [hrun]
  rw [Array.toArray_toList] at hd2
  exact kk _ _ (At.put hdf hd2 ⟨w.heap.size, upd_same _ _ _, rfl⟩ fun d e => by rw [e] at hd; exact Nat.blt_eq.mp hd)

theorem Dens.append_inv {g : Nat → Value} {H : Hp} : ∀ {a b : List SV} {vs : List Value}, Dens g H (a ++ b) vs → ∃ v1 v2, vs = v1 ++ v2 ∧ Dens g H a v1 ∧ Dens g H b v2
  | [], b, vs, h => ⟨[], vs, rfl, trivial, h⟩
  | x :: a, b, [], h => h.elim
  | x :: a, b, v :: vs, h => by
    obtain ⟨v1, v2, e, h1, h2⟩ := Dens.append_inv (a := a) h.2
    exact ⟨v :: v1, v2, by rw [e]; rfl, ⟨h.1, h1⟩, h2⟩

theorem DenF.toFlat {g : Nat → Value} {H : Hp} {sz : Nat} : ∀ {rows : List (List DV)} {vs : List Value}, DenF H sz rows vs → Dens g H (flatU rows) vs
  | [], vs, h => by rw [show vs = [] from h]; trivial
  | r :: rs, vs, h => by
    obtain ⟨v1, v2, e, h1, _, h2⟩ := h
    subst e
    have h3 := DenF.toFlat (g := g) h2
    unfold flatU at h3 ⊢
    rw [List.flatten_cons, List.map_append]
    exact (ups_den h1).append h3

theorem DenF.of_flatU {g : Nat → Value} {H : Hp} {sz : Nat} : ∀ {rows : List (List DV)} {vs : List Value}, (∀ r ∈ rows, r.length = sz) → Dens g H (flatU rows) vs → DenF H sz rows vs
  | [], [], _, _ => rfl
  | [], _ :: _, _, h => h.elim
  | r :: rs, vs, hl, h => by
    unfold flatU at h
    rw [List.flatten_cons, List.map_append] at h
    obtain ⟨v1, v2, e, h1, h2⟩ := Dens.append_inv h
    have h3 := dn_ups h1
    exact ⟨v1, v2, e, h3, by rw [h3.length]; exact hl r (by simp), DenF.of_flatU (fun r hr => hl r (by simp [hr])) h2⟩

/-- A list is copied into one that was made as long. -/
theorem at_copy {E : Stc} {T : Nat → TI} {all rest : List Oper} {o : Oper} {s : List Fr} {env : List (Nat × SV)} {own : List (Nat × SO)} {nx : List Nat} {t ty k n sz : Nat} {x y : Operand} {rows : List (List DV)} {cs : List SV} {c : Call} (hT : ∀ t, T t = tiOf E.P t) (ho : o.op = .call c) (hcl : c.callee = .builtin .copy) (ha : c.args = #[x, y]) (hat : c.argTypes = #[t, t])
    (hx : ev env x = .arr k n) (hy : lstv (ev env y) = some (sz, rows)) (hk0 : ownq own k = some (.cells ty cs)) (hn : rows.length = n) (hcs : cs.length = n * sz)
    (kk : Sat E (.ops all rest) s (put o.dst (.int .i64 n) env) (setOwn k (.cells ty (flatU rows)) own) nx)
    (hkT : lstT T t sz = true := by rfl) (hg : guardK all o.guard env true false false = true := by rfl) (hd : dstLt o.dst E.n = true := by rfl) : Sat E (.ops all (o :: rest)) s env own nx := by
  subst hn
  intro a w hat'
  have hwant : Region.wanted o (yielded all.toArray a.tmps) = true := by
    rcases guardK_wanted (E := E) (all := all) (o := o) (env := env) (own := own) (yes := true) (no := false) (stuck := false) with ⟨_, hw⟩ | ⟨h, _⟩ | h
    · exact hw a w hat'
    · rw [hg] at h; cases h
    · rw [hg] at h; cases h
  unfold wpList
  rw [if_pos hwant]
  refine .inl ?_
  obtain ⟨hdf, g, H, hdn⟩ := hat'
  obtain ⟨hk, hz, hk2, hz2, hz0⟩ := lstT_spec hT hkT
  obtain ⟨i1, h1⟩ := slice_ti hk
  obtain ⟨i2, d2, h2⟩ := ti_spec hk2
  have hsz : sz = i2.size := by rw [← hz, h2.size]
  obtain ⟨b, cur, hgk, hv, hw, _⟩ := hdn.cells hk0
  have ex := hdn.ev x
  rw [hx] at ex
  obtain ⟨b', hg', e1⟩ := ex
  have : b' = b := by rw [hgk] at hg'; simpa using hg'.symm
  subst this
  obtain ⟨bd, c2, e2, hc2, hn2, hp2⟩ := lstv_den hy (hdn.ev y)
  have hcur : cur.length = rows.length * sz := by rw [hv.length, hcs]
  have key : ∃ nv, DenF H sz rows nv ∧ (Builtin.firstCells i2.size rows.length (a.eval y)).run E.P w = .ok nv.toArray w := by
    rw [e2]
    cases hbd : bd with
    | none =>
      have := (hn2 hbd).1
      subst this
      exact ⟨[], rfl, by simp [Builtin.firstCells]⟩
    | some q =>
      obtain ⟨hq1, hq2⟩ := hp2 q hbd
      obtain ⟨nv, hf2, hc3⟩ := hq2.flat
      refine ⟨nv, hf2, run_firstCells_some (P := E.P) w i2.size rows.length q rows.length c2 nv (by rw [hf2.length, hsz]) fun j v hj => ?_⟩
      have hq1 : q.spot = none := hq1.resolve_left fun e => by subst e; rw [show nv = [] from hf2] at hj; simp at hj
      obtain ⟨b, off, spot⟩ := q
      simp only at hq1
      subst hq1
      rw [addr_add]
      exact hdn.hp _ _ _ (hc3 j v hj)
  obtain ⟨nv, hf, hfc⟩ := key
  have hnl := hf.length
  have hst := run_storeCells_at E.P b' 0 ty nv 0 cur.toArray w hw (by simp [hnl, hcur]) hf.one
  have hsp : (cur.toArray.toList.take (0 + 0) ++ nv ++ cur.toArray.toList.drop (0 + 0 + nv.length)).toArray = nv.toArray := by
    have : cur.drop nv.length = [] := List.drop_eq_nil_of_le (by omega)
    simp [this]
  rw [hsp] at hst
  have hd3 := hdn.write (new := flatU rows) hk0 hgk (DenF.toFlat (g := g) hf) hf.one
  have hrun : (execOp a.eval o).run E.P w = .ok (.value (.int .i64 rows.length)) (w.setRow b' nv.toArray) := by
    have : (Builtin.copy_ #[t, t] o.type #[a.eval x, a.eval y]).run E.P w = .ok (.int .i64 rows.length) (w.setRow b' nv.toArray) := by
      rw [e2] at hfc
      rw [e1, e2]
      simp [Builtin.copy_, run_underlying h1.und, Builtin.lenOf, sizeOf, typeInfo, h2.info, hfc, hst, goInt]
    simp only [execOp, ho, resolve, hcl, ha, hat]
    simp [invoke, builtin, this]
  unfold Oper.wp
  rw [hrun]
  exact kk _ _ (At.put hdf hd3 rfl fun d e => by rw [e] at hd; exact Nat.blt_eq.mp hd)

theorem SVles.refl : ∀ l : List SV, SVles l l
  | [] => trivial
  | a :: l => ⟨SVle.refl a, SVles.refl l⟩

theorem SVle.agg {l r : List SV} (h : SVles l r) : SVle (.agg l) (.agg r) := by
  rintro g H x ⟨cs, e, hd⟩
  exact ⟨cs, e, h.dens g H cs hd⟩

theorem SVle.nil (sz : Nat) : SVle (.tl 0 []) (.tl sz []) := by
  rintro g H x ⟨⟨ad, c, e, h1, h2, h3⟩, h4⟩
  exact ⟨⟨ad, c, e, h1, h2, fun p hp => ⟨.inl rfl, trivial⟩⟩, h4⟩

def pubE (k sz : Nat) (rows : List (List DV)) : List (Nat × SV) → List (Nat × SV)
  | [] => []
  | (t, s) :: l => (t, match s with
    | .arr j n => bif Nat.beq j k then .tl sz rows else .arr j n
    | s => s) :: pubE k sz rows l

def arrOk (k n : Nat) : List (Nat × SV) → Prop
  | [] => True
  | (_, s) :: l => (match s with
    | .arr j m => (bif Nat.beq j k then m = n else True) ∧ arrOk k n l
    | _ => arrOk k n l)

theorem arrOk_spec {k n : Nat} : ∀ {env : List (Nat × SV)}, arrOk k n env → ∀ t m, nth env t = .arr k m → m = n
  | [], _, t, m, h => by simp [nth] at h
  | (i, s) :: l, ho, t, m, h => by
    simp only [nth] at h
    cases hb : Nat.beq i t with
    | true =>
      simp only [hb, cond_true] at h
      subst h
      simp only [arrOk, Nat.beq_refl, cond_true] at ho
      exact ho.1
    | false =>
      simp only [hb, cond_false] at h
      refine arrOk_spec ?_ t m h
      unfold arrOk at ho
      split at ho
      · exact ho.2
      · exact ho

/-- Less is asked of what is handed in. -/
theorem Gives.weak {P : Program} {f : FuncId} {args args' : List SV} {a : SV} (h : Gives P f args a) (hl : SVles args' args) : Gives P f args' a :=
  ⟨h.1, fun g H w vs h1 h2 h3 h4 => h.2 g H w vs h1 h2 h3 (hl.dens g H vs h4)⟩

theorem GivesP.le {P : Program} {f : FuncId} {args : List SV} {Post : SV → Prop} {b : SV} (h : GivesP P f args Post) (hl : ∀ s, Post s → SVle s b) (h0 : b.lt 0 = true := by rfl) : Gives P f args b := by
  refine ⟨h.1, fun g H w vs h1 h2 h3 h4 => (h.2 g H w vs h1 h2 h3 h4).mono fun e w' he => ?_⟩
  cases e with
  | returned v =>
    obtain ⟨g', H', sv, own, ⟨hp, _, rfl⟩, hv, hr⟩ := he
    exact ⟨g', H', b, [], ⟨rfl, h0, rfl⟩, hl _ hp _ _ _ hv, hr⟩
  | _ => exact he

theorem GivesP.weak {P : Program} {f : FuncId} {args args' : List SV} {Post : SV → Prop} (h : GivesP P f args Post) (hl : SVles args' args) : GivesP P f args' Post :=
  ⟨h.1, fun g H w vs h1 h2 h3 h4 => h.2 g H w vs h1 h2 h3 (hl.dens g H vs h4)⟩

/-- What was made is let be read, and written no more. -/
theorem at_publish {E : Stc} {m : Md} {s : List Fr} {env : List (Nat × SV)} {own own2 : List (Nat × SO)} {nx : List Nat} {ty : Nat} (k sz : Nat) (rows : List (List DV)) (hk : ownq own k = some (.cells ty (flatU rows))) (hr : ∀ r ∈ rows, r.length = sz) (hl : lessO k own own2)
    (hn : arrOk k rows.length env) (kk : Sat E m s (pubE k sz rows env) own2 nx) : Sat E m s env own nx := by
  refine sat_mono (fun a w h => ?_) kk
  obtain ⟨hdf, g, H, hd⟩ := h
  obtain ⟨b, vs, hg, hv, hone, hw, hH, hm⟩ := hd.ok k _ hk
  have hf := DenF.of_flatU hr hv
  have hd2 := hd.fill vs hl (fun j o hj hne e => hne (hd.inj j k (by rw [hj]; rfl) (by rw [hk]; rfl) b e (by rw [hg]; rfl))) hm hw (fun j _ => hH j) (q := 0) (by simp)
  have e : (splice vs 0 vs.toArray.toList).toArray = vs.toArray := by simp [splice]
  rw [e, setRow_self w b vs.toArray ty (0, 0) hw] at hd2
  have hle := Hp.add_le (H := H) (b := b) (q := 0) (fun j _ => hH j) vs
  refine ⟨hdf, g, _, { hd2 with den := fun t => ?_ }⟩
  have hnth : ∀ (env : List (Nat × SV)) t, nth (pubE k sz rows env) t = match nth env t with | .arr j n => bif Nat.beq j k then .tl sz rows else .arr j n | s => s := by
    intro env t
    induction env with
    | nil => rfl
    | cons p l ih =>
      obtain ⟨i, x⟩ := p
      simp only [pubE, nth]
      cases Nat.beq i t with
      | true => rfl
      | false => exact ih
  have h0 := hd2.den t
  rw [hnth]
  split
  · rename_i j n hj
    rw [hj] at h0
    cases hb : Nat.beq j k with
    | false => exact h0
    | true =>
      have := beq_true hb
      subst this
      obtain ⟨b', hg', ex⟩ := h0
      have : b' = b := by rw [hg] at hg'; simpa using hg'.symm
      subst this
      have hn' := arrOk_spec hn t n hj
      subst hn'
      refine ⟨⟨some ⟨b', 0, none⟩, _, ex, Nat.le_refl _, fun e => (by cases e), fun p hp => ?_⟩, _, ex⟩
      simp only [Option.some.injEq] at hp
      subst hp
      refine ⟨.inr rfl, (hf.mono hle).rs fun j v hj => ?_⟩
      have := Hp.add_at H b' 0 vs hj
      simpa using this
  · exact h0

/-- A call that may write one of the own blocks (a method by pointer). -/
theorem at_met {E : Stc} {all rest : List Oper} {o : Oper} {s : List Fr} {env : List (Nat × SV)} {own : List (Nat × SO)} {nx : List Nat} {f : Nat} {X : Type} {Φ : X → Prop} {sv : X → SV} {so : SO} {so' : X → SO} {args : List SV} {own' : X → List (Nat × SO)} (k0 : Nat)
    (hC : Contract E.P f 1 [(0, so)] args fun s post => ∃ x, Φ x ∧ s = sv x ∧ post = [(0, so' x)]) (hc : callK o.op env (fun f l => some (f, l)) none = some (f, rens (fun _ => k0) args)) (hown : ownq own k0 = some (renO (fun _ => k0) so))
    (hs : ∀ x, setOwnK k0 (so' x) own some = some (own' x)) (k : ∀ x, Φ x → Sat E (.ops all rest) s (put o.dst (sv x) env) (own' x) nx)
    (h1 : ∀ x, (sv x).lt 1 = true := by intro x; first | rfl | (cases x <;> rfl)) (h2 : ∀ x, cellsLt 1 [(0, so' x)] = true := by intro x; rfl) (h3 : ∀ x, ren (fun _ => k0) (sv x) = sv x := by intro x; first | rfl | (cases x <;> rfl)) (h4 : ∀ x, renO (fun _ => k0) (so' x) = so' x := by intro x; rfl)
    (hg : guardK all o.guard env true false false = true := by rfl) (hd : dstLt o.dst E.n = true := by rfl) : Sat E (.ops all (o :: rest)) s env own nx :=
  at_call (fun _ => k0) hC hc rfl ⟨hown, trivial⟩ (fun s' post hP => by
    obtain ⟨x, hx, rfl, rfl⟩ := hP
    have e := hs x
    rw [setOwnK_eq] at e
    simp only [Option.some.injEq] at e
    refine ⟨h1 x, h2 x, rfl, ?_⟩
    rw [h3 x]
    simp only [posts, h4 x]
    rw [e]
    exact k x hx) (fun i j hi hj _ => by
      have key : ∀ i, (ownq [(0, so)] i).isSome = true → i = 0 := by
        intro i hi
        cases i with
        | zero => rfl
        | succ i => exact absurd hi (by show ¬ (false = true); simp)
      rw [key i hi, key j hj]) (fun k hk => by
      obtain rfl : k = 0 := by omega
      rfl) hg hd

/-- The same, where the answer is told. -/
theorem at_metF {E : Stc} {all rest : List Oper} {o : Oper} {s : List Fr} {env : List (Nat × SV)} {own own' : List (Nat × SO)} {nx : List Nat} {f : Nat} {sv : SV} {so so' : SO} {args : List SV} (k0 : Nat)
    (hC : Contract E.P f 1 [(0, so)] args fun s post => s = sv ∧ post = [(0, so')]) (hc : callK o.op env (fun f l => some (f, l)) none = some (f, rens (fun _ => k0) args)) (hown : ownq own k0 = some (renO (fun _ => k0) so))
    (hs : setOwnK k0 so' own some = some own') (k : Sat E (.ops all rest) s (put o.dst sv env) own' nx)
    (h1 : sv.lt 1 = true := by rfl) (h2 : cellsLt 1 [(0, so')] = true := by rfl) (h3 : ren (fun _ => k0) sv = sv := by rfl) (h4 : renO (fun _ => k0) so' = so' := by rfl)
    (hg : guardK all o.guard env true false false = true := by rfl) (hd : dstLt o.dst E.n = true := by rfl) : Sat E (.ops all (o :: rest)) s env own nx :=
  at_met (X := Unit) (Φ := fun _ => True) (sv := fun _ => sv) (so' := fun _ => so') (own' := fun _ => own') k0 ⟨hC.1, fun g H w vs a b c d => (hC.2 g H w vs a b c d).mono fun e w' he => by
    cases e with
    | returned v =>
      obtain ⟨g', H', s', post, ⟨e1, e2⟩, h⟩ := he
      exact ⟨g', H', s', post, ⟨(), trivial, e1, e2⟩, h⟩
    | _ => exact he⟩ hc hown (fun _ => hs) (fun _ _ => k) (fun _ => h1) (fun _ => h2) (fun _ => h3) (fun _ => h4) hg hd

def r2 (k0 k1 : Nat) : Nat → Nat := fun k => bif Nat.beq k 0 then k0 else k1

/-- The same, of two own blocks. -/
theorem at_met2 {E : Stc} {all rest : List Oper} {o : Oper} {s : List Fr} {env : List (Nat × SV)} {own : List (Nat × SO)} {nx : List Nat} {f : Nat} {X : Type} {Φ : X → Prop} {sv : X → SV} {a b : SO} {a' b' : X → SO} {args : List SV} {own' : X → List (Nat × SO)} (k0 k1 : Nat)
    (hC : Contract E.P f 2 [(0, a), (1, b)] args fun s post => ∃ x, Φ x ∧ s = sv x ∧ post = [(0, a' x), (1, b' x)]) (hc : callK o.op env (fun f l => some (f, l)) none = some (f, rens (r2 k0 k1) args)) (h0 : ownq own k0 = some (renO (r2 k0 k1) a)) (h1 : ownq own k1 = some (renO (r2 k0 k1) b))
    (hs : ∀ x, setOwnK k1 (renO (r2 k0 k1) (b' x)) own (fun o1 => setOwnK k0 (renO (r2 k0 k1) (a' x)) o1 some) = some (own' x)) (k : ∀ x, Φ x → Sat E (.ops all rest) s (put o.dst (ren (r2 k0 k1) (sv x)) env) (own' x) nx)
    (hne : Nat.beq k0 k1 = false := by rfl) (h2 : ∀ x, (sv x).lt 2 = true := by intro x; first | rfl | (cases x <;> rfl)) (h3 : ∀ x, cellsLt 2 [(0, a' x), (1, b' x)] = true := by intro x; rfl)
    (hg : guardK all o.guard env true false false = true := by rfl) (hd : dstLt o.dst E.n = true := by rfl) : Sat E (.ops all (o :: rest)) s env own nx :=
  at_call (r2 k0 k1) hC hc rfl ⟨h0, h1, trivial⟩ (fun s' post hP => by
    obtain ⟨x, hx, rfl, rfl⟩ := hP
    have e := hs x
    simp only [setOwnK_eq, Option.some.injEq] at e
    refine ⟨h2 x, h3 x, rfl, ?_⟩
    show Sat E _ _ _ (setOwn k0 (renO (r2 k0 k1) (a' x)) (setOwn k1 (renO (r2 k0 k1) (b' x)) own)) nx
    rw [e]
    exact k x hx) (fun i j hi hj e => by
      have key : ∀ i, (ownq [(0, a), (1, b)] i).isSome = true → i = 0 ∨ i = 1 := by
        intro i hi
        match i, hi with
        | 0, _ => exact .inl rfl
        | 1, _ => exact .inr rfl
        | i + 2, hi => exact absurd hi (by show ¬ (false = true); simp)
      have hk := beq_false hne
      rcases key i hi with rfl | rfl <;> rcases key j hj with rfl | rfl
      · rfl
      · exact absurd e hk
      · exact absurd e.symm hk
      · rfl) (fun k hk => by
      match k, hk with
      | 0, _ => rfl
      | 1, _ => rfl) hg hd

end Go.Eng
/- The proof engine, part 14e: lists that grow, in order. -/
namespace Go.Eng

/-- A list's token is gone: it may be read. -/
def degE (k : Nat) : List (Nat × SV) → List (Nat × SV)
  | [] => []
  | (t, s) :: l => match s with
    | .gl j sz rows => bif Nat.beq j k then (t, .lst sz rows) :: degE k l else (t, s) :: degE k l
    | s => (t, s) :: degE k l

theorem degE_le (k : Nat) : ∀ env : List (Nat × SV), leE env (degE k env)
  | [], _ => SVle.refl _
  | (i, x) :: l, t => by
    have ih := degE_le k l t
    unfold degE
    split
    · rename_i j sz rows
      cases hb : Nat.beq j k with
      | true =>
        simp only [cond_true, nth]
        cases Nat.beq i t with
        | true => exact SVle.gl _ _ _
        | false => exact ih
      | false =>
        simp only [cond_false, nth]
        cases Nat.beq i t with
        | true => exact SVle.refl _
        | false => exact ih
    · simp only [nth]
      cases Nat.beq i t with
      | true => exact SVle.refl _
      | false => exact ih

def lessK {α : Type} (k : Nat) : List (Nat × SO) → (List (Nat × SO) → α) → α
  | [], c => c []
  | (i, x) :: l, c => lessK k l fun r => bif Nat.beq i k then c r else c ((i, x) :: r)

theorem lessK_eq {α : Type} (k : Nat) : ∀ (l : List (Nat × SO)) (c : List (Nat × SO) → α), lessK k l c = c (rm1 k l)
  | [], _ => rfl
  | (i, x) :: l, c => by
    simp only [lessK, rm1, lessK_eq k l]
    cases Nat.beq i k <;> rfl

theorem rm1_less (k : Nat) (l : List (Nat × SO)) : lessO k l (rm1 k l) := fun j o h =>
  ⟨fun e => (by subst e; rw [rm1_none] at h; cases h), rm1_own h⟩

/-- The rear part of a list keeps the room. -/
theorem doesU_slice_l {P : Program} {env : List (Nat × SV)} {own : List (Nat × SO)} {T : Nat → TI} (hT : ∀ t, T t = tiOf P t) {o : Oper} {t sz kk : Nat} {x lo : Operand} {rows : List (List DV)} {k : IntKind} {n : Int} (ho : o.op = .slice t x (some lo) none none) (hx : ev env x = .gl kk sz rows) (hh : ev env lo = .int k n)
    (h0 : 0 ≤ n ∧ n ≤ rows.length) (hkT : lstT T t sz = true) : DoesU P o env own kk sz (rows.drop n.toNat) := by
  have hx' : lstv (ev env x) = some (sz, rows) := by rw [hx]; rfl
  obtain ⟨hk, hz, hk2, _⟩ := lstT_spec hT hkT
  obtain ⟨i1, h1⟩ := slice_ti hk
  obtain ⟨i2, d2, h2⟩ := ti_spec hk2
  have he := prog_elem h1.und
  intro cx g H q own' own2 env' a w hd hd' htok hless
  obtain ⟨ad, c, e1, hc, hn, hp⟩ := lstv_den hx' (hd.ev x)
  have e2 := hd.ev lo
  rw [hh] at e2
  have e2 : a.eval lo = .int k n := e2
  have hu : P.underlying t = some (.slice (P.elem t)) := by rw [he]; exact h1.und
  have key := sliced_den hc hn hp (l := n.toNat) (h := rows.length) (m := c) (by omega) (by omega) (by omega) (Nat.le_refl _)
  have hs := h2.size
  rw [hz] at hs
  have eg := (show DenD H (.lst sz rows) (a.eval x) ∧ a.eval x = g kk by have := hd.ev x; rw [hx] at this; exact this).2
  obtain ⟨ad', n', c', eg', ht1, ht2, ht3⟩ := hd'.ok kk _ htok
  rw [← eg, e1] at eg'
  simp only [Value.slice.injEq] at eg'
  obtain ⟨rfl, rfl, rfl⟩ := eg'
  have hother : ∀ p, ad = some p → rows.length < c → ∀ j o, ownq own' j = some o → j ≠ kk → blkOf (g j) ≠ some p.block := by
    intro p hp hlt j o hj hne e
    refine hne (hd'.inj j kk (by rw [hj]; rfl) (by rw [htok]; rfl) p.block e ?_)
    rw [← eg, e1, hp]
    simp [blkOf, Nat.blt_eq.mpr hlt]
  refine ⟨sliced ad n.toNat rows.length c sz, w, H, ?_, by rw [List.take_of_length_le (by simp)] at key; exact key, hd'.lessO hless, ?_⟩
  · simp [execOp, ho, e1, e2, run_sliceAt_slice w t _ _ _ _ hu, run_slice_l w t ad rows.length c hu k n h0.1 h0.2, he, run_sizeOf' h2.info, ← hs]
  · refine ⟨if c = n.toNat then ad else ad.map (·.add (n.toNat * sz)), rows.length - n.toNat, c - n.toNat, rfl, fun e => ?_, by omega, fun p hpa hlt => ?_⟩
    · have hnone : ad = none := by
        split at e
        · exact e
        · simpa using e
      obtain ⟨e3, e4⟩ := hn hnone
      subst e3
      exact ⟨by simp, by omega⟩
    · rw [if_neg (by omega)] at hpa
      cases had : ad with
      | none => rw [had] at hpa; simp at hpa
      | some r =>
        obtain ⟨t1, t2, cs, ty, t3, t4, t5⟩ := ht3 r had (by omega)
        rw [had] at hpa
        simp only [Option.map_some, Option.some.injEq] at hpa
        have hoth := hother r had (by omega)
        obtain ⟨b, off, spot⟩ := r
        simp only at t1 t2 t3 t4 t5 hoth
        subst t1
        rw [addr_add] at hpa
        subst hpa
        have hmul : n.toNat * sz ≤ c * sz := Nat.mul_le_mul_right _ (by omega)
        have hmul2 : n.toNat * sz ≤ rows.length * sz := Nat.mul_le_mul_right _ (by omega)
        refine ⟨rfl, ⟨t2, fun j o hj => hoth j o (hless j o hj).2 (hless j o hj).1⟩, cs, ty, t3, ?_, fun j hj => t5 j ?_⟩
        · simp only [Nat.sub_mul]
          omega
        · simp only [Nat.sub_mul] at hj
          omega

/-- A list is made that is empty, with room. -/
theorem doesT_make0 {P : Program} {env : List (Nat × SV)} {own : List (Nat × SO)} {T : Nat → TI} (hT : ∀ t, T t = tiOf P t) {o : Oper} {t sz : Nat} {x y : Operand} {kx ky : IntKind} {n : Int} (ho : o.op = .makeSlice t x y) (hx : ev env x = .int kx 0) (hy : ev env y = .int ky n)
    (h0 : 0 ≤ n) (hb : ((T (T t).elem).bytes : Int) * n ≤ 281474976710656) (h63 : n ≤ 9223372036854775807) (hkT : lstT T t sz = true) : DoesT P o env own sz [] := by
  obtain ⟨hk, hz, hk2, hz2, hz0⟩ := lstT_spec hT hkT
  rw [hT (T t).elem, hT t] at hb
  intro cx g H nn own' env' a w hd hd'
  obtain ⟨i1, h1⟩ := slice_ti hk
  obtain ⟨i2, d2, h2⟩ := ti_spec hk2
  obtain ⟨z, hz3, hz4⟩ := zero_spec h2 hz2
  have hzs : z.cells.size = sz := by rw [← hz0, hz4, Array.length_toList]
  have hsz : sz = i2.size := by rw [← hz, h2.size]
  rw [h2.bytes] at hb
  have e1 : a.eval x = .int kx 0 := by have := hd.ev x; rw [hx] at this; exact this
  have e2 : a.eval y = .int ky n := by have := hd.ev y; rw [hy] at this; exact this
  have hr := run_make (P := P) w t _ i2 z h1.und h2.info hz3 kx ky 0 n (Int.le_refl _) h0 hb h63
  have hg := hd'.grown (w' := w.alloc (.cells (madeCells z.cells (n.toNat * i2.size)) (tiOf P t).elem)) rfl rfl rfl (by simp) (fun b hb => heap_alloc_lt w _ hb)
  refine ⟨.slice (some ⟨w.heap.size, 0, none⟩) (0 : Int).toNat n.toNat, _, H, ?_, ⟨some ⟨w.heap.size, 0, none⟩, n.toNat, rfl, Nat.zero_le _, fun e => (by cases e), fun p _ => ⟨.inl rfl, trivial⟩⟩, hg, ?_⟩
  · simp [execOp, ho, e1, e2, hr]
  · refine ⟨some ⟨w.heap.size, 0, none⟩, 0, n.toNat, rfl, fun e => (by cases e), Nat.zero_le _, fun p hp _ => ?_⟩
    simp only [Option.some.injEq] at hp
    subst hp
    refine ⟨rfl, Nat.le_refl _, _, _, heap_alloc_new w _, ?_, fun j _ => Hp.on_new hd'.hp j⟩
    rw [size_madeCells, hsz]
    simp

/-- Where a part of a made list stands. -/
theorem does_indexArr {P : Program} {env : List (Nat × SV)} {own : List (Nat × SO)} {T : Nat → TI} (hT : ∀ t, T t = tiOf P t) {o : Oper} {t sz k m : Nat} {x i : Operand} {kk : IntKind} {n : Int} (ho : o.op = .indexAddr t x i) (hx : ev env x = .arr k m) (hi : ev env i = .int kk n)
    (h0 : 0 ≤ n ∧ n < m) (hkT : lstT T t sz = true) : DoesV P o env own (.ptr k (n.toNat * sz)) := by
  obtain ⟨hk, hz, hk2, _⟩ := lstT_spec hT hkT
  obtain ⟨i1, h1⟩ := slice_ti hk
  obtain ⟨i2, d2, h2⟩ := ti_spec hk2
  refine does_val fun cx g H q a w hd => ?_
  have e1 := hd.ev x
  rw [hx] at e1
  obtain ⟨b, hg, e1⟩ := e1
  have e2 := hd.ev i
  rw [hi] at e2
  have e2 : a.eval i = .int kk n := e2
  refine ⟨.pointer (some ⟨b, n.toNat * sz, none⟩), ?_, b, hg, rfl⟩
  simp [execOp, ho, e1, e2, Instr.indexAt, asIntOf, run_underlying h1.und, h0, run_sizeOf' h2.info, ← h2.size, hz, addr_add]

section
variable {E : Stc} {all rest : List Oper} {o : Oper} {s : List Fr} {env : List (Nat × SV)} {own own2 : List (Nat × SO)} {nx : List Nat} {m : Md}

theorem wanted_of (hg : guardK all o.guard env true false false = true) : ∀ a w, At E env own a w → Region.wanted o (yielded all.toArray a.tmps) = true := by
  rcases guardK_wanted (E := E) (all := all) (o := o) (env := env) (own := own) (yes := true) (no := false) (stuck := false) with ⟨_, hw⟩ | ⟨h, _⟩ | h
  · exact hw
  · rw [hg] at h; cases h
  · rw [hg] at h; cases h

/-- A list that has room of its own grows: its name may stay. -/
theorem at_grow (k k' sz : Nat) (rows : List (List DV)) (hk : ownq own k = some (.tok sz)) (h : DoesU E.P o env own k sz rows) (ho : lessK k own some = some own2) (kk : Sat E (.ops all rest) s (put o.dst (.gl k' sz rows) (degE k env)) ((k', .tok sz) :: own2) nx)
    (hm : Nat.ble E.cx.m0 k' = true := by rfl) (hE : freshE k' (degE k env) = true := by rfl) (hO : freshO k' own2 = true := by rfl)
    (hg : guardK all o.guard env true false false = true := by rfl) (hd : dstLt o.dst E.n = true := by rfl) : Sat E (.ops all (o :: rest)) s env own nx := by
  intro a w hat
  have hwant := wanted_of (E := E) (own := own) hg a w hat
  rw [lessK_eq] at ho
  simp only [Option.some.injEq] at ho
  subst ho
  unfold wpList
  rw [if_pos hwant]
  refine .inl ?_
  obtain ⟨hdf, g, H, hdn⟩ := hat
  obtain ⟨x, w', H', hr, hx, hd', hsp⟩ := h E.cx g H E.n own (rm1 k own) env a w hdn hdn hk (rm1_less k own)
  have hd2 := hd'.le (degE_le k env) (fun _ _ h => h)
  obtain ⟨hd3, hp⟩ := hd2.tok (Nat.le_of_ble_eq_true hm) hE hO hx hsp
  unfold Oper.wp
  rw [hr]
  exact kk _ _ (At.put hdf hd3 hp fun d e => by rw [e] at hd; exact Nat.blt_eq.mp hd)

/-- A list's room is given up. -/
theorem at_deg (k : Nat) (kk : Sat E m s (degE k env) own nx) : Sat E m s env own nx :=
  sat_mono (fun _ _ hat => at_le hat (degE_le k env) fun _ _ h => h) kk

/-- One of the own blocks is written; what its cells then are is told. -/
theorem at_store {T : Nat → TI} (hT : ∀ t, T t = tiOf E.P t) {t k off ty : Nat} {x y : Operand} {cs new : List SV} (cs' : List SV) {own' : List (Nat × SO)} (ho : o.op = .store t x y) (hdst : o.dst = none) (hx : ev env x = .ptr k off) (hk : ownq own k = some (.cells ty cs)) (hy : cellsOf (ev env y) = some new)
    (hl : new.length = (T t).size) (hf : off + new.length ≤ cs.length) (hc : splice new off cs = cs') (hs : setOwnK k (.cells ty cs') own some = some own') (kk : Sat E (.ops all rest) s env own' nx) (hkd : (T t).kd ≠ .other := by intro h; cases h)
    (hg : guardK all o.guard env true false false = true := by rfl) : Sat E (.ops all (o :: rest)) s env own nx := by
  intro a w hat
  have hwant := wanted_of (E := E) (own := own) hg a w hat
  rw [setOwnK_eq] at hs
  simp only [Option.some.injEq] at hs
  subst hs
  unfold wpList
  rw [if_pos hwant]
  refine .inl ?_
  have hD := does_store (P := E.P) (m0 := E.cx.m0) (env := env) (own := own) ho hx hk hy (by rw [← hT t]; exact hkd) (by rw [← hT t]; exact hl) hf
  rw [hc] at hD
  exact sat_op hD (fun d e => by rw [hdst] at e; cases e) (by rw [hdst]; exact kk) hat

/-- A new block; that its name is new is shown. -/
theorem at_alloc {T : Nat → TI} (hT : ∀ t, T t = tiOf E.P t) {t : Nat} (k : Nat) (cs : List SV) (ho : o.op = .alloc t) (hcs : constsS (T t).zero = cs) (hO : freshO k own = true) (kk : Sat E (.ops all rest) s (put o.dst (.ptr k 0) env) ((k, .cells t cs) :: own) nx)
    (hkd : (T t).kd ≠ .other := by intro h; cases h) (hz : (T t).zok = true := by rfl) (h1 : SV.ones cs = true := by rfl) (hn : SV.noKs k cs = true := by rfl) (hm : Nat.ble E.cx.m0 k = true := by rfl) (hE : freshE k env = true := by rfl)
    (hg : guardK all o.guard env true false false = true := by rfl) (hd : dstLt o.dst E.n = true := by rfl) : Sat E (.ops all (o :: rest)) s env own nx := by
  intro a w hat
  have hwant := wanted_of (E := E) (own := own) hg a w hat
  unfold wpList
  rw [if_pos hwant]
  refine .inl ?_
  subst hcs
  rw [hT t] at hkd hz h1 hn
  obtain ⟨hdf, g, H, hdn⟩ := hat
  obtain ⟨vs, hv, hr⟩ := doesN_alloc (P := E.P) (env := env) (own := own) ho hkd hz E.cx g H E.n a w hdn
  obtain ⟨hd2, hp⟩ := hdn.new (t := t) (Nat.le_of_ble_eq_true hm) hn hE hO hv h1
  unfold Oper.wp
  rw [hr]
  rw [hT t] at kk
  exact kk _ _ (At.put hdf hd2 hp fun d e => by rw [e] at hd; exact Nat.blt_eq.mp hd)

/-- A list is made, that has room of its own. -/
theorem at_new (k' sz : Nat) (rows : List (List DV)) (h : DoesT E.P o env own sz rows) (kk : Sat E (.ops all rest) s (put o.dst (.gl k' sz rows) env) ((k', .tok sz) :: own) nx)
    (hm : Nat.ble E.cx.m0 k' = true := by rfl) (hE : freshE k' env = true := by rfl) (hO : freshO k' own = true := by rfl)
    (hg : guardK all o.guard env true false false = true := by rfl) (hd : dstLt o.dst E.n = true := by rfl) : Sat E (.ops all (o :: rest)) s env own nx := by
  intro a w hat
  have hwant := wanted_of (E := E) (own := own) hg a w hat
  unfold wpList
  rw [if_pos hwant]
  refine .inl ?_
  obtain ⟨hdf, g, H, hdn⟩ := hat
  obtain ⟨x, w', H', hr, hx, hd', hsp⟩ := h E.cx g H E.n own env a w hdn hdn
  obtain ⟨hd3, hp⟩ := hd'.tok (Nat.le_of_ble_eq_true hm) hE hO hx (hsp.mono fun b hb => hdn.new_ok hb)
  unfold Oper.wp
  rw [hr]
  exact kk _ _ (At.put hdf hd3 hp fun d e => by rw [e] at hd; exact Nat.blt_eq.mp hd)

/-- A list that has no room may grow all the same: it gets a name. -/
theorem at_name (t k sz : Nat) {sz0 : Nat} {rows : List (List DV)} (ht : nth env t = .tl sz0 rows) (hs : sz0 = sz ∨ rows = []) (kk : Sat E m s ((t, .gl k sz rows) :: env) ((k, .tok sz) :: own) nx)
    (hm : Nat.ble E.cx.m0 k = true := by rfl) (hE : freshE k env = true := by rfl) (hO : freshO k own = true := by rfl) : Sat E m s env own nx := by
  refine sat_mono (fun a w hat => ?_) kk
  obtain ⟨hdf, g, H, hdn⟩ := hat
  have h0 := hdn.den t
  rw [ht] at h0
  obtain ⟨⟨ad, c, e, h1, h2, h3⟩, ad', e'⟩ := h0
  have hx : DenD H (.lst sz rows) (a.tmps.getD t undef) := by
    refine ⟨ad, c, e, h1, h2, fun p hp => ?_⟩
    rcases hs with rfl | rfl
    · exact h3 p hp
    · exact ⟨.inl rfl, trivial⟩
  have hc : c = rows.length := by
    rw [e] at e'
    simp only [Value.slice.injEq, true_and] at e'
    exact e'.2
  obtain ⟨hd3, hp⟩ := hdn.tok (k := k) (sz := sz) (rows := rows) (Nat.le_of_ble_eq_true hm) hE hO hx ⟨ad, rows.length, c, e, fun h => ⟨by rw [(h2 h).1]; rfl, (h2 h).2⟩, h1, fun p hp hlt => absurd hlt (by omega)⟩
  refine ⟨hdf, _, H, { hd3 with den := fun i => ?_ }⟩
  simp only [nth]
  cases hb : Nat.beq t i with
  | true =>
    have := beq_true hb
    subst this
    exact hp
  | false => exact hd3.den i

end
end Go.Eng
/- The proof engine, part 14f: values behind interfaces. -/
namespace Go.Eng

section
variable {P : Program} {T : Nat → TI} {env : List (Nat × SV)} {own : List (Nat × SO)}

mutual
/-- The value, of plain ones. -/
def valS : SV → Option Value
  | .int k n => some (.int k n)
  | .bl b => some (.bool b)
  | .tt => some (.bool true)
  | .ff => some (.bool false)
  | .str s => some (.string s)
  | .agg l => match valsS l with
    | some vs => some (.agg vs.toArray)
    | none => none
  | _ => none
def valsS : List SV → Option (List Value)
  | [] => some []
  | s :: l => match valS s, valsS l with
    | some v, some vs => some (v :: vs)
    | _, _ => none
end

mutual
theorem valS_den {g : Nat → Value} {H : Hp} : ∀ {s : SV} {v x : Value}, valS s = some v → Den g H s x → x = v
  | .int _ _, v, x, h, hd => by simp only [valS, Option.some.injEq] at h; subst h; exact hd
  | .bl _, v, x, h, hd => by simp only [valS, Option.some.injEq] at h; subst h; exact hd
  | .tt, v, x, h, hd => by simp only [valS, Option.some.injEq] at h; subst h; exact hd
  | .ff, v, x, h, hd => by simp only [valS, Option.some.injEq] at h; subst h; exact hd
  | .str _, v, x, h, hd => by simp only [valS, Option.some.injEq] at h; subst h; exact hd
  | .agg l, v, x, h, hd => by
    simp only [valS] at h
    cases hl : valsS l with
    | none => rw [hl] at h; cases h
    | some vs =>
      rw [hl] at h
      simp only [Option.some.injEq] at h
      subst h
      obtain ⟨cs, e, hc⟩ := hd
      rw [e, valsS_den hl hc]
  | .val _, _, _, h, _ => by simp [valS] at h
  | .lst _ _, _, _, h, _ => by simp [valS] at h
  | .gl _ _ _, _, _, h, _ => by simp [valS] at h
  | .tl _ _, _, _, h, _ => by simp [valS] at h
  | .arr _ _, _, _, h, _ => by simp [valS] at h
  | .sl _ _ _ _, _, _, h, _ => by simp [valS] at h
  | .mp _, _, _, h, _ => by simp [valS] at h
  | .ptr _ _, _, _, h, _ => by simp [valS] at h
  | .rp _ _, _, _, h, _ => by simp [valS] at h
  | .tup _, _, _, h, _ => by simp [valS] at h
  | .clo _ _, _, _, h, _ => by simp [valS] at h
  | .any, _, _, h, _ => by simp [valS] at h
theorem valsS_den {g : Nat → Value} {H : Hp} : ∀ {l : List SV} {vs xs : List Value}, valsS l = some vs → Dens g H l xs → xs = vs
  | [], vs, [], h, _ => by simp only [valsS, Option.some.injEq] at h; exact h
  | [], _, _ :: _, _, hd => hd.elim
  | s :: l, vs, [], _, hd => hd.elim
  | s :: l, vs, x :: xs, h, hd => by
    simp only [valsS] at h
    cases hs : valS s with
    | none => simp [hs] at h
    | some v =>
      cases hl : valsS l with
      | none => simp [hs, hl] at h
      | some ws =>
        simp only [hs, hl, Option.some.injEq] at h
        subst h
        rw [valS_den hs hd.1, valsS_den hl hd.2]
end

def KI.plain : KI → Bool
  | .iface => false
  | .other => false
  | _ => true

theorem plain_und {t : Nat} (h : (tiOf P t).kd.plain = true) : ∃ i d, TiSpec P t i d ∧ ∀ ms, d ≠ .interface ms := by
  obtain ⟨i, d, hs⟩ := ti_spec (P := P) (t := t) (by intro e; rw [e] at h; cases h)
  refine ⟨i, d, hs, fun ms e => ?_⟩
  subst e
  rw [hs.kd] at h
  cases h

theorem does_iface (hT : ∀ t, T t = tiOf P t) {o : Oper} {t : Nat} {x : Operand} (v : Value) (ho : o.op = .makeInterface t x) (hx : valS (ev env x) = some v) (hk : (T t).kd.plain = true) : DoesV P o env own (.val (.iface t v)) := by
  rw [hT t] at hk
  obtain ⟨i, d, hs, hd'⟩ := plain_und hk
  refine does_val fun cx g H n a w hd => ⟨.iface t v, ?_, rfl, rfl⟩
  have e := valS_den hx (hd.ev x)
  simp only [execOp, ho, Instr.makeInterface, e]
  cases d <;> first | exact absurd rfl (hd' _) | simp [run_underlying hs.und]

theorem does_assert_yes (hT : ∀ t, T t = tiOf P t) {o : Oper} {t u : Nat} {x : Operand} {v : Value} (s : SV) (ho : o.op = .typeAssert x t u true) (hx : ev env x = .val (.iface u v)) (hk : (T u).kd.plain = true) (hs : ∀ g H, Den g H s v) :
    DoesV P o env own (.tup [s, .tt]) := by
  rw [hT u] at hk
  obtain ⟨i, d, hsp, hd'⟩ := plain_und hk
  refine does_val fun cx g H n a w hd => ⟨.tuple #[v, .bool true], ?_, [v, .bool true], rfl, hs g H, rfl, trivial⟩
  have e : a.eval x = .iface u v := by have := hd.ev x; rw [hx] at this; exact this.1
  simp only [execOp, ho, Instr.typeAssert, e]
  cases d <;> first | exact absurd rfl (hd' _) | simp [run_underlying hsp.und]

theorem does_assert_no (hT : ∀ t, T t = tiOf P t) {o : Oper} {t u k : Nat} {x : Operand} {v z : Value} (s : SV) (hz : (P.info? u).bind (·.zero) = some z) (ho : o.op = .typeAssert x t u true) (hx : ev env x = .val (.iface k v)) (hk : (T u).kd.plain = true) (hne : Nat.beq k u = false) (hs : ∀ g H, Den g H s z) :
    DoesV P o env own (.tup [s, .ff]) := by
  rw [hT u] at hk
  obtain ⟨i, d, hsp, hd'⟩ := plain_und hk
  obtain ⟨i2, hi2, hz2⟩ := Option.bind_eq_some_iff.1 hz
  refine does_val fun cx g H n a w hd => ⟨.tuple #[z, .bool false], ?_, [z, .bool false], rfl, hs g H, rfl, trivial⟩
  have e : a.eval x = .iface k v := by have := hd.ev x; rw [hx] at this; exact this.1
  have hne' : k ≠ u := beq_false hne
  simp only [execOp, ho, Instr.typeAssert, e]
  cases d <;> first | exact absurd rfl (hd' _) | simp [run_underlying hsp.und, hne', run_zero' hi2 hz2]

theorem does_assert_nil (hT : ∀ t, T t = tiOf P t) {o : Oper} {t u : Nat} {x : Operand} {z : Value} (s : SV) (hz : (P.info? u).bind (·.zero) = some z) (ho : o.op = .typeAssert x t u true) (hx : ev env x = .val .nilIface) (hk : (T u).kd.plain = true) (hs : ∀ g H, Den g H s z) :
    DoesV P o env own (.tup [s, .ff]) := by
  rw [hT u] at hk
  obtain ⟨i, d, hsp, hd'⟩ := plain_und hk
  obtain ⟨i2, hi2, hz2⟩ := Option.bind_eq_some_iff.1 hz
  refine does_val fun cx g H n a w hd => ⟨.tuple #[z, .bool false], ?_, [z, .bool false], rfl, hs g H, rfl, trivial⟩
  have e : a.eval x = .nilIface := by have := hd.ev x; rw [hx] at this; exact this.1
  simp only [execOp, ho, Instr.typeAssert, e]
  cases d <;> first | exact absurd rfl (hd' _) | simp [run_underlying hsp.und, run_zero' hi2 hz2]

theorem iface_und {t : Nat} (h : (tiOf P t).kd = .iface) : P.underlying t = some (.interface (P.methodsAt t)) := by
  obtain ⟨i, d, hs⟩ := ti_spec (P := P) (t := t) (by rw [h]; intro e; cases e)
  have e := hs.kd
  rw [h] at e
  have hu := hs.und
  cases d <;> simp [kdOf] at e
  rename_i ms
  unfold Program.methodsAt
  rw [hu]

/-- Whether there is none behind an interface. -/
theorem does_isNil (hT : ∀ t, T t = tiOf P t) {o : Oper} {t ty : Nat} {x : Operand} (ho : o.op = .binOp .eql t x (.const .nilIface) ty) (hx : ev env x = .val .nilIface) (hk : (T t).kd = .iface) : DoesV P o env own .tt := by
  rw [hT t] at hk
  refine does_val fun cx g H n a w hd => ⟨.bool true, ?_, rfl⟩
  have e : a.eval x = .nilIface := by have := hd.ev x; rw [hx] at this; exact this.1
  have e2 : a.eval (.const .nilIface) = .nilIface := rfl
  have hg : (eqGuard .eql t x (.const .nilIface) .nilIface .nilIface).run P w = .ok () w := by simp [eqGuard]
  simp [execOp, ho, e, e2, hg, run_eql_nil_nil w t (iface_und hk)]
theorem does_isNil_no (hT : ∀ t, T t = tiOf P t) {o : Oper} {t ty u : Nat} {x : Operand} {v : Value} (ho : o.op = .binOp .eql t x (.const .nilIface) ty) (hx : ev env x = .val (.iface u v)) (hk : (T t).kd = .iface) : DoesV P o env own .ff := by
  rw [hT t] at hk
  refine does_val fun cx g H n a w hd => ⟨.bool false, ?_, rfl⟩
  have e : a.eval x = .iface u v := by have := hd.ev x; rw [hx] at this; exact this.1
  have e2 : a.eval (.const .nilIface) = .nilIface := rfl
  have hg : (eqGuard .eql t x (.const .nilIface) (.iface u v) .nilIface).run P w = .ok () w := by simp [eqGuard]
  simp [execOp, ho, e, e2, hg, run_eql_held_nil w t u v (iface_und hk)]
theorem does_notNil (hT : ∀ t, T t = tiOf P t) {o : Oper} {t ty u : Nat} {x : Operand} {v : Value} (ho : o.op = .binOp .neq t x (.const .nilIface) ty) (hx : ev env x = .val (.iface u v)) (hk : (T t).kd = .iface) : DoesV P o env own .tt := by
  rw [hT t] at hk
  refine does_val fun cx g H n a w hd => ⟨.bool true, ?_, rfl⟩
  have e : a.eval x = .iface u v := by have := hd.ev x; rw [hx] at this; exact this.1
  have e2 : a.eval (.const .nilIface) = .nilIface := rfl
  have hg : (eqGuard .neq t x (.const .nilIface) (.iface u v) .nilIface).run P w = .ok () w := by simp [eqGuard]
  simp [execOp, ho, e, e2, hg, run_neq_held_nil w t u v (iface_und hk)]
theorem does_notNil_no (hT : ∀ t, T t = tiOf P t) {o : Oper} {t ty : Nat} {x : Operand} (ho : o.op = .binOp .neq t x (.const .nilIface) ty) (hx : ev env x = .val .nilIface) (hk : (T t).kd = .iface) : DoesV P o env own .ff := by
  rw [hT t] at hk
  refine does_val fun cx g H n a w hd => ⟨.bool false, ?_, rfl⟩
  have e : a.eval x = .nilIface := by have := hd.ev x; rw [hx] at this; exact this.1
  have e2 : a.eval (.const .nilIface) = .nilIface := rfl
  have hg : (eqGuard .neq t x (.const .nilIface) .nilIface .nilIface).run P w = .ok () w := by simp [eqGuard]
  simp [execOp, ho, e, e2, hg, run_neq_nil_nil w t (iface_und hk)]

/-- The method of a type, as a function. -/
def methB (P : Program) (u : TypeId) (name : String) (f : FuncId) : Bool :=
  match P.info? u with
  | some i => match i.methods.find? (·.name == name) with
    | some m => m.path.isEmpty && (match m.func with | some (g, false) => Nat.beq g f | _ => false)
    | none => false
  | none => false

theorem run_meth {u f : Nat} {name : String} (h : methB P u name f = true) (hk : (tiOf P u).kd.plain = true) (hnp : (tiOf P u).kd ≠ .ptr) (n : Nat) (v : Value) (w : World) : (method (n + 1) u v name).run P w = .ok (f, v) w := by
  unfold methB at h
  split at h
  · rename_i i hi
    split at h
    · rename_i m hm
      rw [Bool.and_eq_true] at h
      obtain ⟨h1, h2⟩ := h
      split at h2
      · rename_i g hg
        have := beq_true h2
        subst this
        have hp : m.path = #[] := by simpa using h1
        obtain ⟨i2, d, hs, hd'⟩ := plain_und hk
        have hrec : ∀ wr, (receiverAt u (.val v) false wr).run P w = .ok v w := by
          intro wr
          unfold receiverAt
          have hkd := hs.kd
          cases d <;> first | (exact absurd hkd (by simpa [kdOf] using hnp)) | simp [run_underlying hs.und, Place.get]
        simp [method, run_typeInfo' hi, hm, hp, follow, hg, hrec]
      · cases h2
    · cases h
  · cases h

end

/-- A method that only reckons, by the type behind the interface. -/
theorem at_invoke {E : Stc} {all rest : List Oper} {o : Oper} {s : List Fr} {env : List (Nat × SV)} {own : List (Nat × SO)} {nx : List Nat} {c : Call} {x : Operand} {u f : Nat} {name : String} {v : Value} {sv res : SV} {args : List SV} {asx : List Operand}
    (hmeth : methB E.P u name f = true) (hk : (tiOf E.P u).kd.plain = true) (hnp : (tiOf E.P u).kd ≠ .ptr)
    (hC : Gives E.P f (sv :: args) res) (ho : o.op = .call c) (hcl : c.callee = .invoke x name) (has : c.args.toList = asx) (hx : ev env x = .val (.iface u v)) (hsv : ∀ g H, Den g H sv v) (hargs : evs env asx = args) (k : Sat E (.ops all rest) s (put o.dst res env) own nx)
    (hg : guardK all o.guard env true false false = true := by rfl) (hd : dstLt o.dst E.n = true := by rfl) : Sat E (.ops all (o :: rest)) s env own nx := by
  intro a w hat
  have hwant := wanted_of (E := E) (own := own) hg a w hat
  unfold wpList
  rw [if_pos hwant]
  refine .inl ?_
  obtain ⟨hdf, g, H, hdn⟩ := hat
  have ex : a.eval x = .iface u v := by have := hdn.ev x; rw [hx] at this; exact this.1
  have hev : ∀ l : List Operand, Dens g H (evs env l) (l.map a.eval) := by
    intro l
    induction l with
    | nil => trivial
    | cons x l ih => exact ⟨hdn.ev x, ih⟩
  have hvs : Dens g H (sv :: args) (v :: asx.map a.eval) := ⟨hsv g H, by rw [← hargs]; exact hev asx⟩
  have hrun : (execOp a.eval o).run E.P w = .ok (.enter f (v :: asx.map a.eval).toArray) w := by
    have e1 : c.args = asx.toArray := by rw [← has]
    obtain ⟨n, hn⟩ : ∃ n, E.P.types.size + Made.depth = n + 1 := ⟨E.P.types.size + Made.depth - 1, by unfold Made.depth; omega⟩
    have hm := run_meth (P := E.P) hmeth hk hnp n v w
    simp only [execOp, ho, resolve, hcl, ex, e1]
    simp [invoke, callMethod, hn, hm]
    have ht : (asx.map a.eval).take asx.length = asx.map a.eval := List.take_of_length_le (by simp)
    rw [ht]
    exact hC.1 _ _
  have hcall := hC.2 g H w _ hdn.hp (fun k o hk => by simp [ownq] at hk) (fun i j hi => by simp [ownq] at hi) hvs
  unfold Oper.wp
  rw [hrun]
  refine hcall.mono fun e w' he => ?_
  cases e with
  | panicked c => exact he.elim
  | outgrown => exact he.elim
  | returned r =>
    obtain ⟨sv', post, ⟨h1, h2, h3⟩, hb⟩ := hdn.called (r := fun k => k) (pre := []) (m := 0) trivial (fun k hk => absurd hk (Nat.not_lt_zero k)) he
    subst h1; subst h3
    obtain ⟨H', hv2, hd2⟩ := hb h2 rfl rfl
    rw [ren_id] at hv2
    exact k _ _ (At.put hdf hd2 hv2 fun d e => by rw [e] at hd; exact Nat.blt_eq.mp hd)

end Go.Eng
/- The types of the program as the executor reads them, and that they agree with the program (laid by ty.py). -/
namespace Go.Proofs.Ytmnmhehddbemkaa
open Go Go.Eng
set_option maxRecDepth 100000
def tyc0 : List TI := [
  ⟨.other, 0, false, [], [], 0, 0, false⟩,
  ⟨.fn, 1, true, [.nilFunc], [], 0, 8, false⟩,
  ⟨.int .i64, 1, true, [.int .i64 0], [], 0, 8, false⟩,
  ⟨.int .i64, 1, true, [.int .i64 0], [], 0, 8, false⟩,
  ⟨.bool, 1, true, [.bool false], [], 0, 1, false⟩,
  ⟨.int .u8, 1, true, [.int .u8 0], [], 0, 1, false⟩,
  ⟨.int .u8, 1, true, [.int .u8 0], [], 0, 1, false⟩,
  ⟨.struct, 4, true, [.int .i64 0, .int .i64 0, .bool false, .int .u8 0], [⟨0, 1, false, 2, true, true⟩, ⟨1, 1, false, 3, true, true⟩, ⟨2, 1, false, 4, true, true⟩, ⟨3, 1, false, 6, true, true⟩], 0, 24, true⟩,
  ⟨.struct, 4, true, [.int .i64 0, .int .i64 0, .bool false, .int .u8 0], [⟨0, 1, false, 2, true, true⟩, ⟨1, 1, false, 3, true, true⟩, ⟨2, 1, false, 4, true, true⟩, ⟨3, 1, false, 6, true, true⟩], 0, 24, true⟩,
  ⟨.str, 1, true, [.string ByteArray.empty], [], 0, 16, false⟩,
  ⟨.str, 1, true, [.string ByteArray.empty], [], 0, 16, false⟩,
  ⟨.str, 1, true, [.string ByteArray.empty], [], 0, 16, false⟩,
  ⟨.int .u64, 1, true, [.int .u64 0], [], 0, 8, false⟩,
  ⟨.struct, 2, true, [.string ByteArray.empty, .int .u64 0], [⟨0, 1, false, 9, true, true⟩, ⟨1, 1, false, 12, true, true⟩], 0, 24, false⟩,
  ⟨.struct, 2, true, [.string ByteArray.empty, .int .u64 0], [⟨0, 1, false, 9, true, true⟩, ⟨1, 1, false, 12, true, true⟩], 0, 24, false⟩,
  ⟨.ptr, 1, true, [.pointer none], [], 164, 8, false⟩
]
def tyc1 : List TI := [
  ⟨.ptr, 1, true, [.pointer none], [], 167, 8, false⟩,
  ⟨.ptr, 1, true, [.pointer none], [], 176, 8, false⟩,
  ⟨.struct, 1, true, [.pointer none], [⟨0, 1, false, 17, true, true⟩], 0, 8, false⟩,
  ⟨.struct, 1, true, [.pointer none], [⟨0, 1, false, 17, true, true⟩], 0, 8, false⟩,
  ⟨.iface, 1, true, [.nilIface], [], 0, 16, false⟩,
  ⟨.int .i32, 1, true, [.int .i32 0], [], 0, 4, false⟩,
  ⟨.slice, 1, true, [.slice none 0 0], [], 3, 24, false⟩,
  ⟨.fn, 1, true, [.nilFunc], [], 0, 8, false⟩,
  ⟨.slice, 1, true, [.slice none 0 0], [], 33, 24, false⟩,
  ⟨.fn, 1, true, [.nilFunc], [], 0, 8, false⟩,
  ⟨.slice, 1, true, [.slice none 0 0], [], 37, 24, false⟩,
  ⟨.fn, 1, true, [.nilFunc], [], 0, 8, false⟩,
  ⟨.int .i64, 1, true, [.int .i64 0], [], 0, 8, false⟩,
  ⟨.other, 0, false, [], [], 0, 0, false⟩,
  ⟨.fn, 1, true, [.nilFunc], [], 0, 8, false⟩,
  ⟨.fn, 1, true, [.nilFunc], [], 0, 8, false⟩
]
def tyc2 : List TI := [
  ⟨.struct, 4, true, [.int .i64 0, .int .i64 0, .string ByteArray.empty, .slice none 0 0], [⟨0, 1, false, 3, true, true⟩, ⟨1, 1, false, 3, true, true⟩, ⟨2, 1, false, 9, true, true⟩, ⟨3, 1, false, 24, true, true⟩], 0, 56, true⟩,
  ⟨.struct, 4, true, [.int .i64 0, .int .i64 0, .string ByteArray.empty, .slice none 0 0], [⟨0, 1, false, 3, true, true⟩, ⟨1, 1, false, 3, true, true⟩, ⟨2, 1, false, 9, true, true⟩, ⟨3, 1, false, 24, true, true⟩], 0, 56, true⟩,
  ⟨.fn, 1, true, [.nilFunc], [], 0, 8, false⟩,
  ⟨.fn, 1, true, [.nilFunc], [], 0, 8, false⟩,
  ⟨.struct, 4, true, [.int .i64 0, .int .i64 0, .int .i64 0, .string ByteArray.empty], [⟨0, 1, false, 3, true, true⟩, ⟨1, 1, false, 3, true, true⟩, ⟨2, 1, false, 3, true, true⟩, ⟨3, 1, false, 9, true, true⟩], 0, 40, true⟩,
  ⟨.struct, 4, true, [.int .i64 0, .int .i64 0, .int .i64 0, .string ByteArray.empty], [⟨0, 1, false, 3, true, true⟩, ⟨1, 1, false, 3, true, true⟩, ⟨2, 1, false, 3, true, true⟩, ⟨3, 1, false, 9, true, true⟩], 0, 40, true⟩,
  ⟨.fn, 1, true, [.nilFunc], [], 0, 8, false⟩,
  ⟨.slice, 1, true, [.slice none 0 0], [], 26, 24, false⟩,
  ⟨.fn, 1, true, [.nilFunc], [], 0, 8, false⟩,
  ⟨.fn, 1, true, [.nilFunc], [], 0, 8, false⟩,
  ⟨.fn, 1, true, [.nilFunc], [], 0, 8, false⟩,
  ⟨.fn, 1, true, [.nilFunc], [], 0, 8, false⟩,
  ⟨.other, 0, false, [], [], 0, 0, false⟩,
  ⟨.fn, 1, true, [.nilFunc], [], 0, 8, false⟩,
  ⟨.fn, 1, true, [.nilFunc], [], 0, 8, false⟩,
  ⟨.fn, 1, true, [.nilFunc], [], 0, 8, false⟩
]
def tyc3 : List TI := [
  ⟨.fn, 1, true, [.nilFunc], [], 0, 8, false⟩,
  ⟨.fn, 1, true, [.nilFunc], [], 0, 8, false⟩,
  ⟨.fn, 1, true, [.nilFunc], [], 0, 8, false⟩,
  ⟨.fn, 1, true, [.nilFunc], [], 0, 8, false⟩,
  ⟨.fn, 1, true, [.nilFunc], [], 0, 8, false⟩,
  ⟨.fn, 1, true, [.nilFunc], [], 0, 8, false⟩,
  ⟨.fn, 1, true, [.nilFunc], [], 0, 8, false⟩,
  ⟨.fn, 1, true, [.nilFunc], [], 0, 8, false⟩,
  ⟨.fn, 1, true, [.nilFunc], [], 0, 8, false⟩,
  ⟨.fn, 1, true, [.nilFunc], [], 0, 8, false⟩,
  ⟨.fn, 1, true, [.nilFunc], [], 0, 8, false⟩,
  ⟨.slice, 1, true, [.slice none 0 0], [], 5, 24, false⟩,
  ⟨.ptr, 1, true, [.pointer none], [], 62, 8, false⟩,
  ⟨.struct, 2, true, [.slice none 0 0, .int .i64 0], [⟨0, 1, false, 22, true, true⟩, ⟨1, 1, false, 3, true, true⟩], 0, 32, true⟩,
  ⟨.struct, 2, true, [.slice none 0 0, .int .i64 0], [⟨0, 1, false, 22, true, true⟩, ⟨1, 1, false, 3, true, true⟩], 0, 32, true⟩,
  ⟨.fn, 1, true, [.nilFunc], [], 0, 8, false⟩
]
def tyc4 : List TI := [
  ⟨.fn, 1, true, [.nilFunc], [], 0, 8, false⟩,
  ⟨.slice, 1, true, [.slice none 0 0], [], 9, 24, false⟩,
  ⟨.iface, 1, true, [.nilIface], [], 0, 16, false⟩,
  ⟨.iface, 1, true, [.nilIface], [], 0, 16, false⟩,
  ⟨.other, 0, false, [], [], 0, 0, false⟩,
  ⟨.fn, 1, true, [.nilFunc], [], 0, 8, false⟩,
  ⟨.other, 0, false, [], [], 0, 0, false⟩,
  ⟨.ptr, 1, true, [.pointer none], [], 73, 8, false⟩,
  ⟨.struct, 2, true, [.slice none 0 0, .slice none 0 0], [⟨0, 1, false, 24, true, true⟩, ⟨1, 1, false, 24, true, true⟩], 0, 48, true⟩,
  ⟨.struct, 2, true, [.slice none 0 0, .slice none 0 0], [⟨0, 1, false, 24, true, true⟩, ⟨1, 1, false, 24, true, true⟩], 0, 48, true⟩,
  ⟨.other, 0, false, [], [], 0, 0, false⟩,
  ⟨.fn, 1, true, [.nilFunc], [], 0, 8, false⟩,
  ⟨.ptr, 1, true, [.pointer none], [], 80, 8, false⟩,
  ⟨.map, 1, true, [.map none], [], 83, 8, false⟩,
  ⟨.map, 1, true, [.map none], [], 3, 8, false⟩,
  ⟨.struct, 3, true, [.map none, .map none, .slice none 0 0], [⟨0, 1, false, 77, true, true⟩, ⟨1, 1, false, 78, true, true⟩, ⟨2, 1, false, 26, true, true⟩], 0, 40, true⟩
]
def tyc5 : List TI := [
  ⟨.struct, 3, true, [.map none, .map none, .slice none 0 0], [⟨0, 1, false, 77, true, true⟩, ⟨1, 1, false, 78, true, true⟩, ⟨2, 1, false, 26, true, true⟩], 0, 40, true⟩,
  ⟨.fn, 1, true, [.nilFunc], [], 0, 8, false⟩,
  ⟨.struct, 8, true, [.int .i64 0, .int .i64 0, .int .i64 0, .string ByteArray.empty, .int .i64 0, .int .i64 0, .string ByteArray.empty, .slice none 0 0], [⟨0, 4, true, 37, true, true⟩, ⟨4, 4, true, 33, true, true⟩], 0, 96, true⟩,
  ⟨.struct, 8, true, [.int .i64 0, .int .i64 0, .int .i64 0, .string ByteArray.empty, .int .i64 0, .int .i64 0, .string ByteArray.empty, .slice none 0 0], [⟨0, 4, true, 37, true, true⟩, ⟨4, 4, true, 33, true, true⟩], 0, 96, true⟩,
  ⟨.map, 1, true, [.map none], [], 33, 8, false⟩,
  ⟨.map, 1, true, [.map none], [], 33, 8, false⟩,
  ⟨.fn, 1, true, [.nilFunc], [], 0, 8, false⟩,
  ⟨.fn, 1, true, [.nilFunc], [], 0, 8, false⟩,
  ⟨.other, 0, false, [], [], 0, 0, false⟩,
  ⟨.fn, 1, true, [.nilFunc], [], 0, 8, false⟩,
  ⟨.fn, 1, true, [.nilFunc], [], 0, 8, false⟩,
  ⟨.fn, 1, true, [.nilFunc], [], 0, 8, false⟩,
  ⟨.fn, 1, true, [.nilFunc], [], 0, 8, false⟩,
  ⟨.fn, 1, true, [.nilFunc], [], 0, 8, false⟩,
  ⟨.fn, 1, true, [.nilFunc], [], 0, 8, false⟩,
  ⟨.fn, 1, true, [.nilFunc], [], 0, 8, false⟩
]
def tyc6 : List TI := [
  ⟨.fn, 1, true, [.nilFunc], [], 0, 8, false⟩,
  ⟨.fn, 1, true, [.nilFunc], [], 0, 8, false⟩,
  ⟨.fn, 1, true, [.nilFunc], [], 0, 8, false⟩,
  ⟨.iface, 1, true, [.nilIface], [], 0, 16, false⟩,
  ⟨.iface, 1, true, [.nilIface], [], 0, 16, false⟩,
  ⟨.fn, 1, true, [.nilFunc], [], 0, 8, false⟩,
  ⟨.fn, 1, true, [.nilFunc], [], 0, 8, false⟩,
  ⟨.other, 0, false, [], [], 0, 0, false⟩,
  ⟨.fn, 1, true, [.nilFunc], [], 0, 8, false⟩,
  ⟨.fn, 1, true, [.nilFunc], [], 0, 8, false⟩,
  ⟨.other, 0, false, [], [], 0, 0, false⟩,
  ⟨.struct, 3, true, [.int .i64 0, .int .i64 0, .int .i64 0], [⟨0, 1, false, 3, true, true⟩, ⟨1, 1, false, 3, true, true⟩, ⟨2, 1, false, 3, true, true⟩], 0, 24, true⟩,
  ⟨.struct, 3, true, [.int .i64 0, .int .i64 0, .int .i64 0], [⟨0, 1, false, 3, true, true⟩, ⟨1, 1, false, 3, true, true⟩, ⟨2, 1, false, 3, true, true⟩], 0, 24, true⟩,
  ⟨.other, 0, false, [], [], 0, 0, false⟩,
  ⟨.other, 0, false, [], [], 0, 0, false⟩,
  ⟨.fn, 1, true, [.nilFunc], [], 0, 8, false⟩
]
def tyc7 : List TI := [
  ⟨.fn, 1, true, [.nilFunc], [], 0, 8, false⟩,
  ⟨.fn, 1, true, [.nilFunc], [], 0, 8, false⟩,
  ⟨.fn, 1, true, [.nilFunc], [], 0, 8, false⟩,
  ⟨.fn, 1, true, [.nilFunc], [], 0, 8, false⟩,
  ⟨.fn, 1, true, [.nilFunc], [], 0, 8, false⟩,
  ⟨.fn, 1, true, [.nilFunc], [], 0, 8, false⟩,
  ⟨.int .u64, 1, true, [.int .u64 0], [], 0, 8, false⟩,
  ⟨.fn, 1, true, [.nilFunc], [], 0, 8, false⟩,
  ⟨.fn, 1, true, [.nilFunc], [], 0, 8, false⟩,
  ⟨.fn, 1, true, [.nilFunc], [], 0, 8, false⟩,
  ⟨.fn, 1, true, [.nilFunc], [], 0, 8, false⟩,
  ⟨.fn, 1, true, [.nilFunc], [], 0, 8, false⟩,
  ⟨.fn, 1, true, [.nilFunc], [], 0, 8, false⟩,
  ⟨.int .i64, 1, true, [.int .i64 0], [], 0, 8, false⟩,
  ⟨.str, 1, true, [.string ByteArray.empty], [], 0, 16, false⟩,
  ⟨.struct, 2, true, [.int .i64 0, .int .i64 0], [⟨0, 1, false, 3, true, true⟩, ⟨1, 1, false, 3, true, true⟩], 0, 16, true⟩
]
def tyc8 : List TI := [
  ⟨.struct, 2, true, [.int .i64 0, .int .i64 0], [⟨0, 1, false, 3, true, true⟩, ⟨1, 1, false, 3, true, true⟩], 0, 16, true⟩,
  ⟨.struct, 3, true, [.int .i64 0, .int .i64 0, .int .i64 0], [⟨0, 1, false, 3, true, true⟩, ⟨1, 1, false, 3, true, true⟩, ⟨2, 1, false, 3, true, true⟩], 0, 24, true⟩,
  ⟨.struct, 3, true, [.int .i64 0, .int .i64 0, .int .i64 0], [⟨0, 1, false, 3, true, true⟩, ⟨1, 1, false, 3, true, true⟩, ⟨2, 1, false, 3, true, true⟩], 0, 24, true⟩,
  ⟨.map, 1, true, [.map none], [], 3, 8, false⟩,
  ⟨.fn, 1, true, [.nilFunc], [], 0, 8, false⟩,
  ⟨.fn, 1, true, [.nilFunc], [], 0, 8, false⟩,
  ⟨.int .i64, 1, true, [.int .i64 0], [], 0, 8, false⟩,
  ⟨.other, 0, false, [], [], 0, 0, false⟩,
  ⟨.fn, 1, true, [.nilFunc], [], 0, 8, false⟩,
  ⟨.fn, 1, true, [.nilFunc], [], 0, 8, false⟩,
  ⟨.fn, 1, true, [.nilFunc], [], 0, 8, false⟩,
  ⟨.fn, 1, true, [.nilFunc], [], 0, 8, false⟩,
  ⟨.fn, 1, true, [.nilFunc], [], 0, 8, false⟩,
  ⟨.int .u32, 1, true, [.int .u32 0], [], 0, 4, false⟩,
  ⟨.fn, 1, true, [.nilFunc], [], 0, 8, false⟩,
  ⟨.int .u64, 1, true, [.int .u64 0], [], 0, 8, false⟩
]
def tyc9 : List TI := [
  ⟨.fn, 1, true, [.nilFunc], [], 0, 8, false⟩,
  ⟨.fn, 1, true, [.nilFunc], [], 0, 8, false⟩,
  ⟨.fn, 1, true, [.nilFunc], [], 0, 8, false⟩,
  ⟨.fn, 1, true, [.nilFunc], [], 0, 8, false⟩,
  ⟨.fn, 1, true, [.nilFunc], [], 0, 8, false⟩,
  ⟨.fn, 1, true, [.nilFunc], [], 0, 8, false⟩,
  ⟨.int .u64, 1, true, [.int .u64 0], [], 0, 8, false⟩,
  ⟨.fn, 1, true, [.nilFunc], [], 0, 8, false⟩,
  ⟨.fn, 1, true, [.nilFunc], [], 0, 8, false⟩,
  ⟨.fn, 1, true, [.nilFunc], [], 0, 8, false⟩,
  ⟨.ptr, 1, true, [.pointer none], [], 3, 8, false⟩,
  ⟨.fn, 1, true, [.nilFunc], [], 0, 8, false⟩,
  ⟨.fn, 1, true, [.nilFunc], [], 0, 8, false⟩,
  ⟨.fn, 1, true, [.nilFunc], [], 0, 8, false⟩,
  ⟨.ptr, 1, true, [.pointer none], [], 150, 8, false⟩,
  ⟨.other, 0, false, [], [], 0, 0, false⟩
]
def tyc10 : List TI := [
  ⟨.fn, 1, true, [.nilFunc], [], 0, 8, false⟩,
  ⟨.fn, 1, true, [.nilFunc], [], 0, 8, false⟩,
  ⟨.fn, 1, true, [.nilFunc], [], 0, 8, false⟩,
  ⟨.struct, 4, true, [.pointer none, .pointer none, .pointer none, .string ByteArray.empty], [⟨0, 1, false, 17, true, true⟩, ⟨1, 1, false, 17, true, true⟩, ⟨2, 1, false, 17, true, true⟩, ⟨3, 1, false, 9, true, true⟩], 0, 40, false⟩,
  ⟨.struct, 4, true, [.pointer none, .pointer none, .pointer none, .string ByteArray.empty], [⟨0, 1, false, 17, true, true⟩, ⟨1, 1, false, 17, true, true⟩, ⟨2, 1, false, 17, true, true⟩, ⟨3, 1, false, 9, true, true⟩], 0, 40, false⟩,
  ⟨.other, 0, false, [], [], 0, 0, false⟩,
  ⟨.struct, 0, true, [], [⟨0, 0, true, 165, false, true⟩], 0, 0, false⟩,
  ⟨.struct, 0, true, [], [⟨0, 0, true, 165, false, true⟩], 0, 0, false⟩,
  ⟨.fn, 1, true, [.nilFunc], [], 0, 8, false⟩,
  ⟨.int .u8, 1, true, [.int .u8 0], [], 0, 1, false⟩,
  ⟨.int .u8, 1, true, [.int .u8 0], [], 0, 1, false⟩,
  ⟨.fn, 1, true, [.nilFunc], [], 0, 8, false⟩,
  ⟨.ptr, 1, true, [.pointer none], [], 5, 8, false⟩,
  ⟨.int .i32, 1, true, [.int .i32 0], [], 0, 4, false⟩,
  ⟨.int .i32, 1, true, [.int .i32 0], [], 0, 4, false⟩,
  ⟨.struct, 11, true, [.int .u64 0, .int .u64 0, .int .u32 0, .int .u8 0, .int .u8 0, .int .u8 0, .int .u8 0, .nilFunc, .pointer none, .int .i32 0, .int .i32 0], [⟨0, 1, false, 12, true, true⟩, ⟨1, 1, false, 12, true, true⟩, ⟨2, 1, false, 141, true, true⟩, ⟨3, 1, false, 169, true, true⟩, ⟨4, 1, false, 5, true, true⟩, ⟨5, 1, false, 5, true, true⟩, ⟨6, 1, false, 170, true, true⟩, ⟨7, 1, false, 171, true, true⟩, ⟨8, 1, false, 172, true, true⟩, ⟨9, 1, false, 173, true, true⟩, ⟨10, 1, false, 174, true, true⟩], 0, 48, false⟩
]
def tyc11 : List TI := [
  ⟨.struct, 11, true, [.int .u64 0, .int .u64 0, .int .u32 0, .int .u8 0, .int .u8 0, .int .u8 0, .int .u8 0, .nilFunc, .pointer none, .int .i32 0, .int .i32 0], [⟨0, 1, false, 12, true, true⟩, ⟨1, 1, false, 12, true, true⟩, ⟨2, 1, false, 141, true, true⟩, ⟨3, 1, false, 169, true, true⟩, ⟨4, 1, false, 5, true, true⟩, ⟨5, 1, false, 5, true, true⟩, ⟨6, 1, false, 170, true, true⟩, ⟨7, 1, false, 171, true, true⟩, ⟨8, 1, false, 172, true, true⟩, ⟨9, 1, false, 173, true, true⟩, ⟨10, 1, false, 174, true, true⟩], 0, 48, false⟩,
  ⟨.other, 0, false, [], [], 0, 0, false⟩
]
def tys : List (List TI) := [tyc0, tyc1, tyc2, tyc3, tyc4, tyc5, tyc6, tyc7, tyc8, tyc9, tyc10, tyc11]
def ty (t : Nat) : TI := ((tys.getD (t / 16) []).getD (t % 16) TI.bad)
theorem ty_all : (List.range 178).map ty = (List.range 178).map (tiOf Try.prog) := by kernel_rfl
theorem ty_size : Try.prog.types.size = 178 := by kernel_rfl
theorem ty_ok (t : Nat) : ty t = tiOf Try.prog t := by
  by_cases h : t < 178
  · have := congrArg (fun l => l[t]?) ty_all
    simpa [h] using this
  · have h2 : tiOf Try.prog t = TI.bad := by
      have := ty_size
      have h1 : Nat.blt t Try.prog.types.size = false := by
        rw [ty_size]
        cases hb : Nat.blt t 178 with
        | false => rfl
        | true => exact absurd (Nat.blt_eq.mp hb) h
      unfold tiOf
      rw [h1]
      rfl
    rw [h2]
    unfold ty
    by_cases h3 : t / 16 < 12
    · have h4 : t / 16 = 11 := by omega
      rw [h4]
      have h5 : tys.getD 11 [] = tyc11 := rfl
      have h6 : tyc11.length = 2 := rfl
      rw [h5, List.getD_eq_getElem?_getD, List.getElem?_eq_none (by omega)]
      rfl
    · have h6 : tys.length = 12 := rfl
      rw [List.getD_eq_getElem?_getD (l := tys), List.getElem?_eq_none (by omega)]
      rfl
end Go.Proofs.Ytmnmhehddbemkaa
namespace Go.Proofs.Ytmnmhehddbemkaa
open Go Go.Eng

abbrev I (n : Int) : SV := .int .i64 n

/-- A term. -/
inductive Tm where
  | mk (k n : Int) (s : ByteArray) (kids : List Tm)
abbrev Tm.k : Tm → Int | .mk k _ _ _ => k
abbrev Tm.n : Tm → Int | .mk _ n _ _ => n
abbrev Tm.s : Tm → ByteArray | .mk _ _ s _ => s
abbrev Tm.kids : Tm → List Tm | .mk _ _ _ l => l
mutual
def Tm.row : Tm → List DV
  | .mk k n s l => [.int .i64 k, .int .i64 n, .str s, .lst 4 (rowsT l)]
def rowsT : List Tm → List (List DV)
  | [] => []
  | t :: l => t.row :: rowsT l
end
abbrev Tm.sv (t : Tm) : SV := .agg [I t.k, I t.n, .str t.s, .lst 4 (rowsT t.kids)]
theorem rowsT_map : ∀ l : List Tm, rowsT l = l.map Tm.row
  | [] => by rw [rowsT]; rfl
  | t :: l => by rw [rowsT, rowsT_map l]; rfl
theorem rowsT_len (l : List Tm) : (rowsT l).length = l.length := by rw [rowsT_map, List.length_map]
theorem row_eq (t : Tm) : t.row = [.int .i64 t.k, .int .i64 t.n, .str t.s, .lst 4 (rowsT t.kids)] := by
  cases t
  rw [Tm.row]
theorem row_len (t : Tm) : t.row.length = 4 := by rw [row_eq]; rfl
def Tm.zero : Tm := .mk 0 0 .empty []
theorem rowsT_get {l : List Tm} {n : Nat} (h : n < l.length) : (rowsT l)[n]? = some [.int .i64 (l.getD n .zero).k, .int .i64 (l.getD n .zero).n, .str (l.getD n .zero).s, .lst 4 (rowsT (l.getD n .zero).kids)] := by
  rw [rowsT_map, List.getElem?_map, List.getElem?_eq_getElem h, List.getD_eq_getElem?_getD, List.getElem?_eq_getElem h]
  simp only [Option.map_some, Option.getD_some, row_eq]

def kidsF (k : Int) : Int := if k = 1 then 0 else if k = 2 then 0 else if k = 3 then 1 else if k = 4 then 1 else if k = 5 then 2 else if k = 6 then 2 else if k = 7 then 2 else -1

theorem kids93_fn (k : Int) : Gives Try.prog 93 [I k] (I (kidsF k)) := by
  refine contract_of ty_ok [0, 1, 2, 3, 4, 5, 6, 7] Try.func93 rfl (by decide) Try.ntmps93 rfl fun z => ?_
  refine run 400 rfl ?_
  refine at_split 4 rfl (fun h1 => ?_) (fun h1 => ?_)
  · refine run 400 rfl ?_
    simp at h1
    exact at_ret rfl rfl [] ⟨by rw [kidsF, if_pos h1], rfl, rfl⟩ trivial
  refine run 400 rfl ?_
  refine at_split 4 rfl (fun h2 => ?_) (fun h2 => ?_)
  · refine run 400 rfl ?_
    simp at h1 h2
    exact at_ret rfl rfl [] ⟨by rw [kidsF, if_neg h1, if_pos h2], rfl, rfl⟩ trivial
  refine run 400 rfl ?_
  refine at_split 7 rfl (fun h3 => ?_) (fun h3 => ?_)
  · refine run 400 rfl ?_
    simp at h1 h2 h3
    exact at_ret rfl rfl [] ⟨by rw [kidsF, if_neg h1, if_neg h2, if_pos h3], rfl, rfl⟩ trivial
  refine run 400 rfl ?_
  refine at_split 7 rfl (fun h4 => ?_) (fun h4 => ?_)
  · refine run 400 rfl ?_
    simp at h1 h2 h3 h4
    exact at_ret rfl rfl [] ⟨by rw [kidsF, if_neg h1, if_neg h2, if_neg h3, if_pos h4], rfl, rfl⟩ trivial
  refine run 400 rfl ?_
  refine at_split 10 rfl (fun h5 => ?_) (fun h5 => ?_)
  · refine run 400 rfl ?_
    simp at h1 h2 h3 h4 h5
    exact at_ret rfl rfl [] ⟨by rw [kidsF, if_neg h1, if_neg h2, if_neg h3, if_neg h4, if_pos h5], rfl, rfl⟩ trivial
  refine run 400 rfl ?_
  refine at_split 10 rfl (fun h6 => ?_) (fun h6 => ?_)
  · refine run 400 rfl ?_
    simp at h1 h2 h3 h4 h5 h6
    exact at_ret rfl rfl [] ⟨by rw [kidsF, if_neg h1, if_neg h2, if_neg h3, if_neg h4, if_neg h5, if_pos h6], rfl, rfl⟩ trivial
  refine run 400 rfl ?_
  refine at_split 10 rfl (fun h7 => ?_) (fun h7 => ?_)
  · refine run 400 rfl ?_
    simp at h1 h2 h3 h4 h5 h6 h7
    exact at_ret rfl rfl [] ⟨by rw [kidsF, if_neg h1, if_neg h2, if_neg h3, if_neg h4, if_neg h5, if_neg h6, if_pos h7], rfl, rfl⟩ trivial
  refine run 400 rfl ?_
  simp at h1 h2 h3 h4 h5 h6 h7
  exact at_ret rfl rfl [] ⟨by rw [kidsF, if_neg h1, if_neg h2, if_neg h3, if_neg h4, if_neg h5, if_neg h6, if_neg h7], rfl, rfl⟩ trivial

theorem kids94_fn (k : Int) : Gives Try.prog 94 [I k] (I (kidsF k)) := by
  refine contract_of ty_ok [0, 1, 2, 3, 4, 5, 6, 7] Try.func94 rfl (by decide) Try.ntmps94 rfl fun z => ?_
  refine run 400 rfl ?_
  refine at_split 4 rfl (fun h1 => ?_) (fun h1 => ?_)
  · refine run 400 rfl ?_
    simp at h1
    exact at_ret rfl rfl [] ⟨by rw [kidsF, if_pos h1], rfl, rfl⟩ trivial
  refine run 400 rfl ?_
  refine at_split 4 rfl (fun h2 => ?_) (fun h2 => ?_)
  · refine run 400 rfl ?_
    simp at h1 h2
    exact at_ret rfl rfl [] ⟨by rw [kidsF, if_neg h1, if_pos h2], rfl, rfl⟩ trivial
  refine run 400 rfl ?_
  refine at_split 7 rfl (fun h3 => ?_) (fun h3 => ?_)
  · refine run 400 rfl ?_
    simp at h1 h2 h3
    exact at_ret rfl rfl [] ⟨by rw [kidsF, if_neg h1, if_neg h2, if_pos h3], rfl, rfl⟩ trivial
  refine run 400 rfl ?_
  refine at_split 7 rfl (fun h4 => ?_) (fun h4 => ?_)
  · refine run 400 rfl ?_
    simp at h1 h2 h3 h4
    exact at_ret rfl rfl [] ⟨by rw [kidsF, if_neg h1, if_neg h2, if_neg h3, if_pos h4], rfl, rfl⟩ trivial
  refine run 400 rfl ?_
  refine at_split 10 rfl (fun h5 => ?_) (fun h5 => ?_)
  · refine run 400 rfl ?_
    simp at h1 h2 h3 h4 h5
    exact at_ret rfl rfl [] ⟨by rw [kidsF, if_neg h1, if_neg h2, if_neg h3, if_neg h4, if_pos h5], rfl, rfl⟩ trivial
  refine run 400 rfl ?_
  refine at_split 10 rfl (fun h6 => ?_) (fun h6 => ?_)
  · refine run 400 rfl ?_
    simp at h1 h2 h3 h4 h5 h6
    exact at_ret rfl rfl [] ⟨by rw [kidsF, if_neg h1, if_neg h2, if_neg h3, if_neg h4, if_neg h5, if_pos h6], rfl, rfl⟩ trivial
  refine run 400 rfl ?_
  refine at_split 10 rfl (fun h7 => ?_) (fun h7 => ?_)
  · refine run 400 rfl ?_
    simp at h1 h2 h3 h4 h5 h6 h7
    exact at_ret rfl rfl [] ⟨by rw [kidsF, if_neg h1, if_neg h2, if_neg h3, if_neg h4, if_neg h5, if_neg h6, if_pos h7], rfl, rfl⟩ trivial
  refine run 400 rfl ?_
  simp at h1 h2 h3 h4 h5 h6 h7
  exact at_ret rfl rfl [] ⟨by rw [kidsF, if_neg h1, if_neg h2, if_neg h3, if_neg h4, if_neg h5, if_neg h6, if_neg h7], rfl, rfl⟩ trivial

end Go.Proofs.Ytmnmhehddbemkaa
namespace Go.Proofs.Ytmnmhehddbemkaa
open Go Go.Eng

/-- Whether a node by itself is as it must be. -/
def rightF (t : Tm) : Bool := ((t.kids.length : Int) == kidsF t.k) && (seq t.s .empty || (t.k == 1 && decide ((t.s.size : Int) ≤ 1024))) && (t.n == 0 || (t.k == 2 && decide (0 < t.n) && decide (t.n ≤ 1073741824)))

set_option maxRecDepth 100000 in
theorem right_c1 (t : Tm) (hA : (((rowsT t.kids).length : Int) == kidsF t.k) = false) : Gives Try.prog 68 [t.sv] (.ff) := by
  refine contract_of ty_ok [0, 1, 2, 3, 4, 5, 6, 7] Try.func68 rfl (by decide) Try.ntmps68 rfl fun z => ?_
  refine run 400 rfl ?_
  refine at_drawn 7 rfl rfl [] [20, 21, 22] rfl trivial ?_
  refine run 400 rfl ?_
  refine at_drawn 39 rfl rfl [(5, .sv (I (kidsF t.k))), (7, .no)] [20, 21, 22] rfl ⟨hA, kids93_fn _⟩ ?_
  refine run 400 rfl ?_
  exact at_ret rfl rfl [] ⟨rfl, rfl, rfl⟩ trivial

set_option maxRecDepth 100000 in
theorem right_c2 (t : Tm) (hA : (((rowsT t.kids).length : Int) == kidsF t.k) = true) (hS : seq t.s .empty = false) (hK : (t.k == 1) = false) : Gives Try.prog 68 [t.sv] (.ff) := by
  refine contract_of ty_ok [0, 1, 2, 3, 4, 5, 6, 7] Try.func68 rfl (by decide) Try.ntmps68 rfl fun z => ?_
  refine run 400 rfl ?_
  refine at_drawn 7 rfl rfl [] [20, 21, 22] rfl trivial ?_
  refine run 400 rfl ?_
  refine at_drawn 39 rfl rfl [(5, .sv (I (kidsF t.k))), (7, .yes), (11, .no), (13, .no)] [20, 21, 22] rfl ⟨hK, hS, hA, kids93_fn _⟩ ?_
  refine run 400 rfl ?_
  exact at_ret rfl rfl [] ⟨rfl, rfl, rfl⟩ trivial

set_option maxRecDepth 100000 in
theorem right_c3 (t : Tm) (hA : (((rowsT t.kids).length : Int) == kidsF t.k) = true) (hS : seq t.s .empty = false) (hK : (t.k == 1) = true) (hB : decide ((t.s.size : Int) ≤ 1024) = false) : Gives Try.prog 68 [t.sv] (.ff) := by
  refine contract_of ty_ok [0, 1, 2, 3, 4, 5, 6, 7] Try.func68 rfl (by decide) Try.ntmps68 rfl fun z => ?_
  refine run 400 rfl ?_
  refine at_drawn 7 rfl rfl [] [20, 21, 22] rfl trivial ?_
  refine run 400 rfl ?_
  refine at_drawn 39 rfl rfl [(5, .sv (I (kidsF t.k))), (7, .yes), (11, .no), (13, .yes), (21, .no)] [20, 21, 22] rfl ⟨hB, hK, hS, hA, kids93_fn _⟩ ?_
  refine run 400 rfl ?_
  exact at_ret rfl rfl [] ⟨rfl, rfl, rfl⟩ trivial

set_option maxRecDepth 100000 in
theorem right_d1 (t : Tm) (hA : (((rowsT t.kids).length : Int) == kidsF t.k) = true) (hS : seq t.s .empty = true) (hN0 : (t.n == 0) = true) : Gives Try.prog 68 [t.sv] (.tt) := by
  refine contract_of ty_ok [0, 1, 2, 3, 4, 5, 6, 7] Try.func68 rfl (by decide) Try.ntmps68 rfl fun z => ?_
  refine run 400 rfl ?_
  refine at_drawn 7 rfl rfl [] [20, 21, 22] rfl trivial ?_
  refine run 400 rfl ?_
  refine at_drawn 39 rfl rfl [(5, .sv (I (kidsF t.k))), (7, .yes), (11, .yes), (25, .yes)] [20, 21, 22] rfl ⟨hN0, hS, hA, kids93_fn _⟩ ?_
  refine run 400 rfl ?_
  exact at_ret rfl rfl [] ⟨rfl, rfl, rfl⟩ trivial

set_option maxRecDepth 100000 in
theorem right_d2 (t : Tm) (hA : (((rowsT t.kids).length : Int) == kidsF t.k) = true) (hS : seq t.s .empty = true) (hN0 : (t.n == 0) = false) (hNO : (t.k == 2) = false) : Gives Try.prog 68 [t.sv] (.ff) := by
  refine contract_of ty_ok [0, 1, 2, 3, 4, 5, 6, 7] Try.func68 rfl (by decide) Try.ntmps68 rfl fun z => ?_
  refine run 400 rfl ?_
  refine at_drawn 7 rfl rfl [] [20, 21, 22] rfl trivial ?_
  refine run 400 rfl ?_
  refine at_drawn 39 rfl rfl [(5, .sv (I (kidsF t.k))), (7, .yes), (11, .yes), (25, .no), (27, .no)] [20, 21, 22] rfl ⟨hNO, hN0, hS, hA, kids93_fn _⟩ ?_
  refine run 400 rfl ?_
  exact at_ret rfl rfl [] ⟨rfl, rfl, rfl⟩ trivial

set_option maxRecDepth 100000 in
theorem right_d3 (t : Tm) (hA : (((rowsT t.kids).length : Int) == kidsF t.k) = true) (hS : seq t.s .empty = true) (hN0 : (t.n == 0) = false) (hNO : (t.k == 2) = true) (hPO : decide (0 < t.n) = false) : Gives Try.prog 68 [t.sv] (.ff) := by
  refine contract_of ty_ok [0, 1, 2, 3, 4, 5, 6, 7] Try.func68 rfl (by decide) Try.ntmps68 rfl fun z => ?_
  refine run 400 rfl ?_
  refine at_drawn 7 rfl rfl [] [20, 21, 22] rfl trivial ?_
  refine run 400 rfl ?_
  refine at_drawn 39 rfl rfl [(5, .sv (I (kidsF t.k))), (7, .yes), (11, .yes), (25, .no), (27, .yes), (32, .no)] [20, 21, 22] rfl ⟨hPO, hNO, hN0, hS, hA, kids93_fn _⟩ ?_
  refine run 400 rfl ?_
  exact at_ret rfl rfl [] ⟨rfl, rfl, rfl⟩ trivial

set_option maxRecDepth 100000 in
theorem right_d4 (t : Tm) (hA : (((rowsT t.kids).length : Int) == kidsF t.k) = true) (hS : seq t.s .empty = true) (hN0 : (t.n == 0) = false) (hNO : (t.k == 2) = true) (hPO : decide (0 < t.n) = true) : Gives Try.prog 68 [t.sv] (.bl (decide (t.n ≤ 1073741824))) := by
  refine contract_of ty_ok [0, 1, 2, 3, 4, 5, 6, 7] Try.func68 rfl (by decide) Try.ntmps68 rfl fun z => ?_
  refine run 400 rfl ?_
  refine at_drawn 7 rfl rfl [] [20, 21, 22] rfl trivial ?_
  refine run 400 rfl ?_
  refine at_drawn 39 rfl rfl [(5, .sv (I (kidsF t.k))), (7, .yes), (11, .yes), (25, .no), (27, .yes), (32, .yes)] [20, 21, 22] rfl ⟨hPO, hNO, hN0, hS, hA, kids93_fn _⟩ ?_
  refine run 400 rfl ?_
  exact at_ret rfl rfl [] ⟨rfl, rfl, rfl⟩ trivial

set_option maxRecDepth 100000 in
theorem right_e1 (t : Tm) (hA : (((rowsT t.kids).length : Int) == kidsF t.k) = true) (hS : seq t.s .empty = false) (hK : (t.k == 1) = true) (hB : decide ((t.s.size : Int) ≤ 1024) = true) (hN0 : (t.n == 0) = true) : Gives Try.prog 68 [t.sv] (.tt) := by
  refine contract_of ty_ok [0, 1, 2, 3, 4, 5, 6, 7] Try.func68 rfl (by decide) Try.ntmps68 rfl fun z => ?_
  refine run 400 rfl ?_
  refine at_drawn 7 rfl rfl [] [20, 21, 22] rfl trivial ?_
  refine run 400 rfl ?_
  refine at_drawn 39 rfl rfl [(5, .sv (I (kidsF t.k))), (7, .yes), (11, .no), (13, .yes), (21, .yes), (25, .yes)] [20, 21, 22] rfl ⟨hN0, hB, hK, hS, hA, kids93_fn _⟩ ?_
  refine run 400 rfl ?_
  exact at_ret rfl rfl [] ⟨rfl, rfl, rfl⟩ trivial

set_option maxRecDepth 100000 in
theorem right_e2 (t : Tm) (hA : (((rowsT t.kids).length : Int) == kidsF t.k) = true) (hS : seq t.s .empty = false) (hK : (t.k == 1) = true) (hB : decide ((t.s.size : Int) ≤ 1024) = true) (hN0 : (t.n == 0) = false) (hNO : (t.k == 2) = false) : Gives Try.prog 68 [t.sv] (.ff) := by
  refine contract_of ty_ok [0, 1, 2, 3, 4, 5, 6, 7] Try.func68 rfl (by decide) Try.ntmps68 rfl fun z => ?_
  refine run 400 rfl ?_
  refine at_drawn 7 rfl rfl [] [20, 21, 22] rfl trivial ?_
  refine run 400 rfl ?_
  refine at_drawn 39 rfl rfl [(5, .sv (I (kidsF t.k))), (7, .yes), (11, .no), (13, .yes), (21, .yes), (25, .no), (27, .no)] [20, 21, 22] rfl ⟨hNO, hN0, hB, hK, hS, hA, kids93_fn _⟩ ?_
  refine run 400 rfl ?_
  exact at_ret rfl rfl [] ⟨rfl, rfl, rfl⟩ trivial

set_option maxRecDepth 100000 in
theorem right_e3 (t : Tm) (hA : (((rowsT t.kids).length : Int) == kidsF t.k) = true) (hS : seq t.s .empty = false) (hK : (t.k == 1) = true) (hB : decide ((t.s.size : Int) ≤ 1024) = true) (hN0 : (t.n == 0) = false) (hNO : (t.k == 2) = true) (hPO : decide (0 < t.n) = false) : Gives Try.prog 68 [t.sv] (.ff) := by
  refine contract_of ty_ok [0, 1, 2, 3, 4, 5, 6, 7] Try.func68 rfl (by decide) Try.ntmps68 rfl fun z => ?_
  refine run 400 rfl ?_
  refine at_drawn 7 rfl rfl [] [20, 21, 22] rfl trivial ?_
  refine run 400 rfl ?_
  refine at_drawn 39 rfl rfl [(5, .sv (I (kidsF t.k))), (7, .yes), (11, .no), (13, .yes), (21, .yes), (25, .no), (27, .yes), (32, .no)] [20, 21, 22] rfl ⟨hPO, hNO, hN0, hB, hK, hS, hA, kids93_fn _⟩ ?_
  refine run 400 rfl ?_
  exact at_ret rfl rfl [] ⟨rfl, rfl, rfl⟩ trivial

set_option maxRecDepth 100000 in
theorem right_e4 (t : Tm) (hA : (((rowsT t.kids).length : Int) == kidsF t.k) = true) (hS : seq t.s .empty = false) (hK : (t.k == 1) = true) (hB : decide ((t.s.size : Int) ≤ 1024) = true) (hN0 : (t.n == 0) = false) (hNO : (t.k == 2) = true) (hPO : decide (0 < t.n) = true) : Gives Try.prog 68 [t.sv] (.bl (decide (t.n ≤ 1073741824))) := by
  refine contract_of ty_ok [0, 1, 2, 3, 4, 5, 6, 7] Try.func68 rfl (by decide) Try.ntmps68 rfl fun z => ?_
  refine run 400 rfl ?_
  refine at_drawn 7 rfl rfl [] [20, 21, 22] rfl trivial ?_
  refine run 400 rfl ?_
  refine at_drawn 39 rfl rfl [(5, .sv (I (kidsF t.k))), (7, .yes), (11, .no), (13, .yes), (21, .yes), (25, .no), (27, .yes), (32, .yes)] [20, 21, 22] rfl ⟨hPO, hNO, hN0, hB, hK, hS, hA, kids93_fn _⟩ ?_
  refine run 400 rfl ?_
  exact at_ret rfl rfl [] ⟨rfl, rfl, rfl⟩ trivial

theorem right_fn (t : Tm) : Gives Try.prog 68 [t.sv] (.bl (rightF t)) := by
  have e0 : ((t.kids.length : Int) == kidsF t.k) = (((rowsT t.kids).length : Int) == kidsF t.k) := by rw [rowsT_len]
  unfold rightF
  rw [e0]
  cases hA : (((rowsT t.kids).length : Int) == kidsF t.k) with
  | false => exact (right_c1 t hA).le (SVle.ff (by simp))
  | true =>
    cases hS : seq t.s .empty with
    | true =>
      cases hN0 : (t.n == 0) with
      | true => exact (right_d1 t hA hS hN0).le (SVle.tt (by simp))
      | false =>
        cases hNO : (t.k == 2) with
        | false => exact (right_d2 t hA hS hN0 hNO).le (SVle.ff (by simp))
        | true =>
          cases hPO : decide (0 < t.n) with
          | false => exact (right_d3 t hA hS hN0 hNO hPO).le (SVle.ff (by simp))
          | true => exact (right_d4 t hA hS hN0 hNO hPO).le (SVle.of_eq (by simp))
    | false =>
      cases hK : (t.k == 1) with
      | false => exact (right_c2 t hA hS hK).le (SVle.ff (by simp))
      | true =>
        cases hB : decide ((t.s.size : Int) ≤ 1024) with
        | false => exact (right_c3 t hA hS hK hB).le (SVle.ff (by simp))
        | true =>
          cases hN0 : (t.n == 0) with
          | true => exact (right_e1 t hA hS hK hB hN0).le (SVle.tt (by simp))
          | false =>
            cases hNO : (t.k == 2) with
            | false => exact (right_e2 t hA hS hK hB hN0 hNO).le (SVle.ff (by simp))
            | true =>
              cases hPO : decide (0 < t.n) with
              | false => exact (right_e3 t hA hS hK hB hN0 hNO hPO).le (SVle.ff (by simp))
              | true => exact (right_e4 t hA hS hK hB hN0 hNO hPO).le (SVle.of_eq (by simp))

end Go.Proofs.Ytmnmhehddbemkaa
namespace Go.Proofs.Ytmnmhehddbemkaa
open Go Go.Eng

theorem Tm.ind {P : Tm → Prop} (h : ∀ k n s l, (∀ t ∈ l, P t) → P (.mk k n s l)) (t : Tm) : P t :=
  Tm.rec (motive_1 := P) (motive_2 := fun l => ∀ t ∈ l, P t) (fun k n s l ih => h k n s l ih) (fun t ht => by cases ht) (fun x l hx hl t ht => by
    rcases List.mem_cons.1 ht with rfl | ht
    · exact hx
    · exact hl t ht) t

mutual
def mayT : Tm → Int → Int → Bool × Int
  | .mk k n s l, d, c => if 64 < c + 1 then (false, c + 1) else if 16 < d then (false, c + 1) else if rightF (.mk k n s l) = false then (false, c + 1) else mayL l (d + 1) (c + 1)
def mayL : List Tm → Int → Int → Bool × Int
  | [], _, c => (true, c)
  | t :: l, d, c => match mayT t d c with
    | (true, c') => mayL l d c'
    | (false, c') => (false, c')
end

theorem mayL_le (l : List Tm) (hl : ∀ t ∈ l, ∀ d c : Int, 0 ≤ c → c ≤ 64 → c < (mayT t d c).2 ∧ (mayT t d c).2 ≤ 65 ∧ ((mayT t d c).1 = true → (mayT t d c).2 ≤ 64)) :
    ∀ d c : Int, 0 ≤ c → c ≤ 64 → c ≤ (mayL l d c).2 ∧ (mayL l d c).2 ≤ 65 ∧ ((mayL l d c).1 = true → (mayL l d c).2 ≤ 64) := by
  induction l with
  | nil => intro d c h0 h1; simp only [mayL]; omega
  | cons t l ih =>
    intro d c h0 h1
    have ht := hl t (by simp) d c h0 h1
    have ih := ih (fun t h => hl t (by simp [h]))
    simp only [mayL]
    rcases hm : mayT t d c with ⟨b, c'⟩
    rw [hm] at ht
    dsimp only at ht
    cases b with
    | true =>
      have h64 := ht.2.2 rfl
      have := ih d c' (by omega) h64
      dsimp only
      exact ⟨by omega, this.2⟩
    | false =>
      dsimp only
      exact ⟨by omega, ht.2.1, fun h => by cases h⟩

theorem mayT_le : ∀ (t : Tm) (d c : Int), 0 ≤ c → c ≤ 64 → c < (mayT t d c).2 ∧ (mayT t d c).2 ≤ 65 ∧ ((mayT t d c).1 = true → (mayT t d c).2 ≤ 64) := by
  intro t
  induction t using Tm.ind with
  | h k n s l ih =>
    intro d c h0 h1
    simp only [mayT]
    split
    · exact ⟨by dsimp only; omega, by dsimp only; omega, fun h => by cases h⟩
    split
    · exact ⟨by dsimp only; omega, by dsimp only; omega, fun h => by cases h⟩
    split
    · exact ⟨by dsimp only; omega, by dsimp only; omega, fun h => by cases h⟩
    · have := mayL_le l ih (d + 1) (c + 1) (by omega) (by omega)
      exact ⟨by omega, this.2⟩

theorem kidsF_le (k : Int) : kidsF k ≤ 2 := by
  unfold kidsF
  repeat' split
  all_goals omega
theorem right_len {t : Tm} (h : rightF t = true) : (t.kids.length : Int) ≤ 2 := by
  unfold rightF at h
  rw [Bool.and_eq_true, Bool.and_eq_true] at h
  have h1 : (t.kids.length : Int) = kidsF t.k := by simpa using h.1.1
  rw [h1]
  exact kidsF_le _

abbrev mayPre (c : Int) : List (Nat × SO) := [(0, .cells 3 [I c]), (1, .cells 90 [.clo 67 [.ptr 0 0, .ptr 1 0]])]

theorem getD_mem {l : List Tm} {n : Nat} (h : n < l.length) : l.getD n .zero ∈ l := by
  rw [List.getD_eq_getElem?_getD, List.getElem?_eq_getElem h]
  exact List.getElem_mem h
theorem drop_getD {l : List Tm} {n : Nat} (h : n < l.length) : l.drop n = l.getD n .zero :: l.drop (n + 1) := by
  rw [List.getD_eq_getElem?_getD, List.getElem?_eq_getElem h, List.drop_eq_getElem_cons h]
  rfl

set_option maxRecDepth 100000 in
theorem may1_fn : ∀ (t : Tm) (d c : Int), 0 ≤ c → c ≤ 64 → 0 ≤ d → d ≤ 17 → Contract Try.prog 67 2 (mayPre c) [t.sv, I d, .ptr 0 0, .ptr 1 0] fun s post =>
    ∃ x : Bool, x = (mayT t d c).1 ∧ s = cond x .tt .ff ∧ post = mayPre (mayT t d c).2 := by
  intro t
  induction t using Tm.ind with
  | h k n s l ih =>
    intro d c h0 h1 h2 h3
    have hlen : (rowsT l).length = l.length := rowsT_len l
    refine contract_of ty_ok [2, 3, 4, 5, 6, 7] Try.func67 rfl (by decide) Try.ntmps67 rfl fun z => ?_
    refine run 400 rfl ?_
    refine at_split 12 rfl (fun g1 => ?_) (fun g1 => ?_)
    · rw [decide_eq_true_eq] at g1
      refine run 400 rfl ?_
      exact at_ret rfl rfl (mayPre (c + 1)) ⟨false, by simp [mayT, g1], rfl, by simp [mayT, g1]⟩ ⟨rfl, rfl, trivial⟩
    · rw [decide_eq_false_iff_not] at g1
      refine run 400 rfl ?_
      refine at_split 16 rfl (fun g2 => ?_) (fun g2 => ?_)
      · rw [decide_eq_true_eq] at g2
        refine run 400 rfl ?_
        exact at_ret rfl rfl (mayPre (c + 1)) ⟨false, by simp [mayT, g1, g2], rfl, by simp [mayT, g1, g2]⟩ ⟨rfl, rfl, trivial⟩
      · rw [decide_eq_false_iff_not] at g2
        refine run 400 rfl ?_
        refine at_fn (right_fn (.mk k n s l)) rfl ?_
        refine run 400 rfl ?_
        refine at_if rfl (fun g3 => ?_) (fun g3 => ?_)
        · simp only [Bool.not_eq_true'] at g3
          refine run 400 rfl ?_
          exact at_ret rfl rfl (mayPre (c + 1)) ⟨false, by simp [mayT, g1, g2, g3], rfl, by simp [mayT, g1, g2, g3]⟩ ⟨rfl, rfl, trivial⟩
        · simp only [Bool.not_eq_false'] at g3
          refine run 400 rfl ?_
          have hT : mayT (.mk k n s l) d c = mayL l (d + 1) (c + 1) := by simp only [mayT, g3]; rw [if_neg g1, if_neg g2]; simp
          have hk2 : (l.length : Int) ≤ 2 := right_len g3
          have hlen0 : ((rowsT l).length : Int) = l.length := by rw [hlen]
          refine at_loop (fun x : Int × Int => 0 ≤ x.1 ∧ x.1 ≤ l.length ∧ 0 ≤ x.2 ∧ x.2 ≤ 64 ∧ mayL l (d + 1) (c + 1) = mayL (l.drop x.1.toNat) (d + 1) x.2)
            (fun x => [(1, I d), (2, .ptr 0 0), (3, .ptr 1 0), (4, .ptr 2 0), (23, I (rowsT l).length), (24, I x.1)]) (fun x => [(2, .cells 33 [I k, I n, .str s, .lst 4 (rowsT l)]), (0, .cells 3 [I x.2]), (1, .cells 90 [.clo 67 [.ptr 0 0, .ptr 1 0]])]) (fun x => (l.length - x.1).toNat) [3, 4, 5, 6, 7]
            (0, c + 1) ⟨by omega, by dsimp only; omega, by dsimp only; omega, by dsimp only; omega, by simp⟩ ⟨SVle.refl _, SVle.refl _, SVle.refl _, SVle.refl _, SVle.refl _, SVle.refl _, trivial⟩ ⟨rfl, rfl, rfl, trivial⟩ ?_
          rintro ⟨i, ci⟩ ⟨a1, a2, a3, a4, a5⟩
          dsimp only at a1 a2 a3 a4 a5
          refine run 400 rfl ?_
          refine at_ifd rfl (fun q => ?_) (fun q => ?_)
          rotate_left
          · dsimp only at q
            rw [hlen0] at q
            refine run 400 rfl ?_
            have e : l.drop i.toNat = [] := List.drop_eq_nil_of_le (by omega)
            rw [e] at a5
            simp only [mayL] at a5
            exact at_ret rfl rfl (mayPre ci) ⟨true, by rw [hT, a5], rfl, by rw [hT, a5]⟩ ⟨rfl, rfl, trivial⟩
          dsimp only at q
          rw [hlen0] at q
          have hlt : i.toNat < l.length := by omega
          have hget := rowsT_get hlt
          have hmem := getD_mem hlt
          have hdrop := drop_getD hlt
          generalize l.getD i.toNat .zero = u at hget hmem hdrop
          rw [hdrop] at a5
          simp only [mayL] at a5
          have hu := mayT_le u (d + 1) ci a3 a4
          have hcall := ih u hmem (d + 1) ci a3 a4 (by omega) (by omega)
          refine run 400 rfl ?_
          refine at_drawn 8 rfl rfl [(4, .val (.rp [.int .i64 u.k, .int .i64 u.n, .str u.s, .lst 4 (rowsT u.kids)] 0))] [20, 21, 22] rfl ⟨by show _ ∧ _; omega, does_index ty_ok _ rfl rfl rfl a1 hget rfl⟩ ?_
          refine at_met2 0 1 hcall rfl rfl rfl (fun _ => rfl) ?_
          intro x hx
          rcases hm : mayT u (d + 1) ci with ⟨b, c'⟩
          rw [hm] at hx hu a5
          dsimp only at hx hu a5
          subst hx
          cases x with
          | false =>
            dsimp only at a5
            refine run 400 rfl ?_
            exact at_ret rfl rfl (mayPre c') ⟨false, by rw [hT, a5], rfl, by rw [hT, a5]⟩ ⟨rfl, rfl, trivial⟩
          | true =>
            dsimp only at a5
            have h64 := hu.2.2 rfl
            refine run 400 rfl ?_
            exact at_again (i + 1, c') ⟨by dsimp only; omega, by dsimp only; omega, by dsimp only; omega, by dsimp only; omega, by dsimp only; rw [a5]; congr 2; omega⟩ (by dsimp only; omega) ⟨SVle.refl _, SVle.refl _, SVle.refl _, SVle.refl _, SVle.refl _, SVle.refl _, trivial⟩ ⟨rfl, rfl, rfl, trivial⟩

def mayF (t : Tm) : Bool := (mayT t 1 0).1

theorem may_fn (t : Tm) : Gives Try.prog 39 [t.sv] (.bl (mayF t)) := by
  have key : ∀ b : Bool, mayF t = b → Gives Try.prog 39 [t.sv] (cond b .tt .ff) := by
    intro b hb
    refine contract_of ty_ok [0, 1, 2, 3, 4, 5, 6, 7] Try.func39 rfl (by decide) Try.ntmps39 rfl fun z => ?_
    refine run 400 rfl ?_
    refine at_met2 1 2 (may1_fn t 1 0 (by omega) (by omega) (by omega) (by omega)) rfl rfl rfl (fun _ => rfl) ?_
    intro x hx
    have : x = b := hx.trans hb
    subst this
    cases x with
    | false =>
      refine run 400 rfl ?_
      exact at_ret rfl rfl [] ⟨rfl, rfl, rfl⟩ trivial
    | true =>
      refine run 400 rfl ?_
      exact at_ret rfl rfl [] ⟨rfl, rfl, rfl⟩ trivial
  cases hm : mayF t with
  | false => exact (key false hm).le (SVle.ff rfl)
  | true => exact (key true hm).le (SVle.tt rfl)
end Go.Proofs.Ytmnmhehddbemkaa
namespace Go.Proofs.Ytmnmhehddbemkaa
open Go Go.Eng

def sgI (a b : Int) : Int := if a < b then -1 else if b < a then 1 else 0
def sgS (a b : ByteArray) : Int := if slt a b then -1 else if !(slt a b || seq a b) then 1 else 0
def orI (c d : Int) : Int := if c = 0 then d else c
mutual
def ordT : Tm → Tm → Int
  | .mk k n s l, .mk k' n' s' l' => orI (orI (orI (orI (sgI k k') (sgI n n')) (sgS s s')) (ordL l l')) (sgI l.length l'.length)
def ordL : List Tm → List Tm → Int
  | t :: l, u :: m => orI (ordT t u) (ordL l m)
  | _, _ => 0
end
theorem orI_0 (c : Int) : orI c 0 = c := by unfold orI; split <;> omega
theorem orI_ne {c d : Int} (h : c ≠ 0) : orI c d = c := if_neg h
theorem orI_00 (d : Int) : orI 0 d = d := if_pos rfl

theorem sign_fn (a b : Bool) : Gives Try.prog 101 [.bl a, .bl b] (I (if a then -1 else if b then 1 else 0)) := by
  refine contract_of ty_ok [0, 1, 2, 3, 4, 5, 6, 7] Try.func101 rfl (by decide) Try.ntmps101 rfl fun z => ?_
  refine run 400 rfl ?_
  refine at_if rfl (fun h1 => ?_) (fun h1 => ?_)
  · refine run 400 rfl ?_
    exact at_ret rfl rfl [] ⟨by simp [h1], rfl, rfl⟩ trivial
  · refine run 400 rfl ?_
    refine at_if rfl (fun h2 => ?_) (fun h2 => ?_)
    · refine run 400 rfl ?_
      exact at_ret rfl rfl [] ⟨by simp [h1, h2], rfl, rfl⟩ trivial
    · refine run 400 rfl ?_
      exact at_ret rfl rfl [] ⟨by simp [h1, h2], rfl, rfl⟩ trivial
theorem signI_fn (a b : Int) : Gives Try.prog 101 [.bl (decide (a < b)), .bl (decide (b < a))] (I (sgI a b)) := by
  have := sign_fn (decide (a < b)) (decide (b < a))
  simpa [sgI] using this
theorem signS_fn (a b : ByteArray) : Gives Try.prog 101 [.bl (slt a b), .bl (!(slt a b || seq a b))] (I (sgS a b)) := sign_fn _ _

abbrev ptrs (a b : Tm) : List (Nat × SO) := [(0, .cells 33 [I a.k, I a.n, .str a.s, .lst 4 (rowsT a.kids)]), (1, .cells 33 [I b.k, I b.n, .str b.s, .lst 4 (rowsT b.kids)])]

set_option maxRecDepth 100000 in
theorem order_fn : ∀ (a b : Tm), a.kids.length ≤ 1000000 → (∀ t : Tm, t ∈ a.kids → ∀ u : Tm, Gives Try.prog 78 [t.sv, u.sv] (I (ordT t u))) → Gives Try.prog 78 [a.sv, b.sv] (I (ordT a b)) := by
  intro a b hla ih
  obtain ⟨k, n, s, l⟩ := a
  obtain ⟨k', n', s', l'⟩ := b
  have hla : l.length ≤ 1000000 := hla
  have hl1 : ((rowsT l).length : Int) = l.length := by rw [rowsT_len]
  have hl2 : ((rowsT l').length : Int) = l'.length := by rw [rowsT_len]
  refine contract_of ty_ok [0, 1, 2, 3, 4, 5, 6, 7] Try.func78 rfl (by decide) Try.ntmps78 rfl fun z => ?_
  refine run 400 rfl ?_
  refine at_fn (signI_fn k k') rfl ?_
  refine run 400 rfl ?_
  refine at_join (fun c => c = orI (sgI k k') (sgI n n')) (fun c => [(2, .ptr 0 0), (3, .ptr 1 0), (5, I c)]) (fun _ => ptrs (.mk k n s l) (.mk k' n' s' l')) [2, 3, 4, 5] ?_ ?_
  · refine at_if rfl (fun h => ?_) (fun h => ?_)
    · refine run 400 rfl ?_
      refine at_fn (signI_fn n n') rfl ?_
      refine run 400 rfl ?_
      exact at_joined _ (by simp at h; rw [h, orI_00]) ⟨SVle.refl _, SVle.refl _, SVle.refl _, trivial⟩ ⟨rfl, rfl, trivial⟩
    · refine run 400 rfl ?_
      exact at_joined _ (by simp at h; rw [orI_ne h]) ⟨SVle.refl _, SVle.refl _, SVle.refl _, trivial⟩ ⟨rfl, rfl, trivial⟩
  intro c1 hc1
  refine run 400 rfl ?_
  refine at_join (fun c => c = orI c1 (sgS s s')) (fun c => [(2, .ptr 0 0), (3, .ptr 1 0), (5, I c)]) (fun _ => ptrs (.mk k n s l) (.mk k' n' s' l')) [2, 3, 4, 5] ?_ ?_
  · refine at_if rfl (fun h => ?_) (fun h => ?_)
    · refine run 400 rfl ?_
      refine at_fn (signS_fn s s') rfl ?_
      refine run 400 rfl ?_
      exact at_joined _ (by simp at h; rw [h, orI_00]) ⟨SVle.refl _, SVle.refl _, SVle.refl _, trivial⟩ ⟨rfl, rfl, trivial⟩
    · refine run 400 rfl ?_
      exact at_joined _ (by simp at h; rw [orI_ne h]) ⟨SVle.refl _, SVle.refl _, SVle.refl _, trivial⟩ ⟨rfl, rfl, trivial⟩
  intro c2 hc2
  refine run 400 rfl ?_
  have hT : ordT (.mk k n s l) (.mk k' n' s' l') = orI (orI c2 (ordL l l')) (sgI l.length l'.length) := by rw [ordT, hc2, hc1]
  refine at_loop (fun x : Int × Int => 0 ≤ x.1 ∧ x.1 ≤ l.length ∧ orI x.2 (ordL (l.drop x.1.toNat) (l'.drop x.1.toNat)) = orI c2 (ordL l l'))
    (fun x => [(2, .ptr 0 0), (3, .ptr 1 0), (5, I x.2), (6, I x.1)]) (fun _ => ptrs (.mk k n s l) (.mk k' n' s' l')) (fun x => (l.length - x.1).toNat) [2, 3, 4, 5]
    (0, c2) ⟨by omega, by dsimp only; omega, by simp⟩ ⟨SVle.refl _, SVle.refl _, SVle.refl _, SVle.refl _, trivial⟩ ⟨rfl, rfl, trivial⟩ ?_
  rintro ⟨i, c⟩ ⟨a1, a2, a3⟩
  dsimp only at a1 a2 a3
  refine run 400 rfl ?_
  refine at_split 49 rfl (fun h => ?_) (fun h => ?_)
  rotate_left
  · rw [hl1, decide_eq_false_iff_not] at h
    dsimp only at h
    have hfin : c = orI c2 (ordL l l') := by
      rw [← a3, List.drop_eq_nil_of_le (by omega)]
      cases l'.drop i.toNat <;> simp [ordL, orI_0]
    refine run 400 rfl ?_
    refine at_if rfl (fun g => ?_) (fun g => ?_)
    · refine run 400 rfl ?_
      refine at_fn (signI_fn (rowsT l).length (rowsT l').length) rfl ?_
      refine run 400 rfl ?_
      exact at_ret rfl rfl [] ⟨by simp at g; rw [hT, ← hfin, g, orI_00, hl1, hl2], rfl, rfl⟩ trivial
    · refine run 400 rfl ?_
      exact at_ret rfl rfl [] ⟨by simp at g; rw [hT, ← hfin, orI_ne g], rfl, rfl⟩ trivial
  rw [hl1, decide_eq_true_eq] at h
  dsimp only at h
  refine run 400 rfl ?_
  refine at_split 56 rfl (fun h2 => ?_) (fun h2 => ?_)
  rotate_left
  · rw [hl2, decide_eq_false_iff_not] at h2
    dsimp only at h2
    have hfin : c = orI c2 (ordL l l') := by
      have e : l'.drop i.toNat = [] := List.drop_eq_nil_of_le (by omega)
      rw [← a3, e]
      cases l.drop i.toNat <;> simp [ordL, orI_0]
    refine run 400 rfl ?_
    refine at_if rfl (fun g => ?_) (fun g => ?_)
    · refine run 400 rfl ?_
      refine at_fn (signI_fn (rowsT l).length (rowsT l').length) rfl ?_
      refine run 400 rfl ?_
      exact at_ret rfl rfl [] ⟨by simp at g; rw [hT, ← hfin, g, orI_00, hl1, hl2], rfl, rfl⟩ trivial
    · refine run 400 rfl ?_
      exact at_ret rfl rfl [] ⟨by simp at g; rw [hT, ← hfin, orI_ne g], rfl, rfl⟩ trivial
  rw [hl2, decide_eq_true_eq] at h2
  dsimp only at h2
  refine run 400 rfl ?_
  refine at_if rfl (fun h3 => ?_) (fun h3 => ?_)
  rotate_left
  · have hfin : c = orI c2 (ordL l l') := by
      simp at h3
      rw [← a3, orI_ne h3]
    refine run 400 rfl ?_
    refine at_if rfl (fun g => ?_) (fun g => ?_)
    · refine run 400 rfl ?_
      refine at_fn (signI_fn (rowsT l).length (rowsT l').length) rfl ?_
      refine run 400 rfl ?_
      exact at_ret rfl rfl [] ⟨by simp at g; rw [hT, ← hfin, g, orI_00, hl1, hl2], rfl, rfl⟩ trivial
    · refine run 400 rfl ?_
      exact at_ret rfl rfl [] ⟨by simp at g; rw [hT, ← hfin, orI_ne g], rfl, rfl⟩ trivial
  have hc : c = 0 := by simpa using h3
  subst hc
  have hlt : i.toNat < l.length := by omega
  have hlt2 : i.toNat < l'.length := by omega
  have hget := rowsT_get hlt
  have hget2 := rowsT_get hlt2
  have hmem := getD_mem hlt
  rw [drop_getD hlt, drop_getD hlt2] at a3
  generalize l.getD i.toNat .zero = u at hget hmem a3
  generalize l'.getD i.toNat .zero = v at hget2 a3
  rw [ordL, orI_00] at a3
  have hcall := ih u hmem v
  refine run 400 rfl ?_
  refine at_drawn 11 rfl rfl [(3, .val (.rp [.int .i64 u.k, .int .i64 u.n, .str u.s, .lst 4 (rowsT u.kids)] 0)), (8, .val (.rp [.int .i64 v.k, .int .i64 v.n, .str v.s, .lst 4 (rowsT v.kids)] 0)), (10, .sv (I (ordT u v)))] [20, 21, 22] rfl
    ⟨hcall, does_index ty_ok _ rfl rfl rfl a1 hget2 rfl, does_index ty_ok _ rfl rfl rfl a1 hget rfl⟩ ?_
  refine run 400 rfl ?_
  exact at_again (i + 1, ordT u v) ⟨by dsimp only; omega, by dsimp only; omega, by dsimp only; rw [← a3]; congr 3 <;> omega⟩ (by dsimp only; omega) ⟨SVle.refl _, SVle.refl _, SVle.refl _, SVle.refl _, trivial⟩ ⟨rfl, rfl, trivial⟩

/-- Not too many kids, here and below. -/
inductive Sm : Tm → Prop
  | mk {k n : Int} {s : ByteArray} {l : List Tm} (h : l.length ≤ 1000000) (hl : ∀ t ∈ l, Sm t) : Sm (.mk k n s l)

theorem ord_fn (a b : Tm) (h : Sm a) : Gives Try.prog 78 [a.sv, b.sv] (I (ordT a b)) := by
  induction a using Tm.ind generalizing b with
  | h k n s l ih =>
    cases h with
    | mk h1 h2 => exact order_fn _ b h1 fun t ht u => ih t ht u (h2 t ht)

theorem bytesLess_self : ∀ l : List UInt8, Op.bytesLess l l = false
  | [] => rfl
  | a :: l => by simp [Op.bytesLess, bytesLess_self l, UInt8.lt_irrefl]
theorem slt_self (a : ByteArray) : slt a a = false := bytesLess_self _
theorem seq_self (a : ByteArray) : seq a a = true := by simp [seq]
theorem loop_eq (a : ByteArray) (n i : Nat) (r : List UInt8) (h : a.size - i = n) : ByteArray.toList.loop a i r = r.reverse ++ a.data.toList.drop i := by
  induction n generalizing i r with
  | zero =>
    unfold ByteArray.toList.loop
    rw [if_neg (by omega), List.drop_eq_nil_of_le (by simp; have : a.size = a.data.size := rfl; omega)]
    simp
  | succ n ih =>
    unfold ByteArray.toList.loop
    have hlt : i < a.size := by omega
    rw [if_pos hlt, ih (i + 1) _ (by omega)]
    have hlt' : i < a.data.toList.length := by simpa using hlt
    rw [List.drop_eq_getElem_cons hlt']
    simp [ByteArray.get!, hlt]
theorem bytes_ext {a b : ByteArray} (h : a.toList = b.toList) : a = b := by
  unfold ByteArray.toList at h
  rw [loop_eq a _ 0 [] rfl, loop_eq b _ 0 [] rfl] at h
  simp at h
  cases a; cases b
  simpa using h
theorem seq_eq {a b : ByteArray} (h : seq a b = true) : a = b := bytes_ext (by simpa [seq] using h)

mutual
theorem ordT_self : ∀ a : Tm, ordT a a = 0
  | .mk k n s l => by rw [ordT, ordL_self l]; simp [sgI, sgS, slt_self, seq_self, orI]
theorem ordL_self : ∀ l : List Tm, ordL l l = 0
  | [] => by rw [ordL]; intros; simp_all
  | t :: l => by rw [ordL, ordT_self t, ordL_self l]; rfl
end
theorem sgI_eq {a b : Int} (h : sgI a b = 0) : a = b := by
  unfold sgI at h
  split at h
  · omega
  · split at h <;> omega
theorem sgS_eq {a b : ByteArray} (h : sgS a b = 0) : a = b := by
  unfold sgS at h
  split at h
  · omega
  · split at h
    · omega
    · rename_i h1 h2
      simp at h1 h2
      exact seq_eq (by simpa [h1] using h2)
theorem orI_eq {c d : Int} (h : orI c d = 0) : c = 0 ∧ d = 0 := by
  unfold orI at h
  split at h
  · exact ⟨by assumption, h⟩
  · omega
theorem ordL_eq (l : List Tm) (ih : ∀ t ∈ l, ∀ u, ordT t u = 0 → t = u) : ∀ m : List Tm, l.length = m.length → ordL l m = 0 → l = m := by
  induction l with
  | nil => intro m h _; cases m with
    | nil => rfl
    | cons _ _ => simp at h
  | cons t l ihl =>
    intro m h h0
    cases m with
    | nil => simp at h
    | cons u m =>
      rw [ordL] at h0
      obtain ⟨h1, h2⟩ := orI_eq h0
      rw [ih t (by simp) u h1, ihl (fun t ht => ih t (by simp [ht])) m (by simpa using h) h2]
theorem ordT_eq : ∀ (a b : Tm), ordT a b = 0 → a = b := by
  intro a
  induction a using Tm.ind with
  | h k n s l ih =>
    intro b h
    obtain ⟨k', n', s', l'⟩ := b
    rw [ordT] at h
    obtain ⟨h, h5⟩ := orI_eq h
    obtain ⟨h, h4⟩ := orI_eq h
    obtain ⟨h, h3⟩ := orI_eq h
    obtain ⟨h1, h2⟩ := orI_eq h
    have := sgI_eq h5
    rw [sgI_eq h1, sgI_eq h2, sgS_eq h3, ordL_eq l ih l' (by omega) h4]

def same (a b : Tm) : Bool := ordT a b == 0
theorem same_iff {a b : Tm} : same a b = true ↔ a = b := by
  unfold same
  rw [beq_iff_eq]
  exact ⟨ordT_eq a b, fun h => by rw [h]; exact ordT_self b⟩

theorem same_fn (a b : Tm) (h : Sm a) : Gives Try.prog 46 [a.sv, b.sv] (.bl (same a b)) := by
  refine contract_of ty_ok [0, 1, 2, 3, 4, 5, 6, 7] Try.func46 rfl (by decide) Try.ntmps46 rfl fun z => ?_
  refine run 400 rfl ?_
  refine at_fn (ord_fn a b h) rfl ?_
  refine run 400 rfl ?_
  exact at_ret rfl rfl [] ⟨rfl, rfl, rfl⟩ trivial
theorem less_fn (a b : Tm) (h : Sm a) : Gives Try.prog 48 [a.sv, b.sv] (.bl (decide (ordT a b < 0))) := by
  refine contract_of ty_ok [0, 1, 2, 3, 4, 5, 6, 7] Try.func48 rfl (by decide) Try.ntmps48 rfl fun z => ?_
  refine run 400 rfl ?_
  refine at_fn (ord_fn a b h) rfl ?_
  refine run 400 rfl ?_
  exact at_ret rfl rfl [] ⟨rfl, rfl, rfl⟩ trivial
end Go.Proofs.Ytmnmhehddbemkaa
namespace Go.Proofs.Ytmnmhehddbemkaa
open Go Go.Eng

abbrev tr (t : Tm) : List DV := [.int .i64 t.k, .int .i64 t.n, .str t.s, .lst 4 (rowsT t.kids)]
theorem rowsT_cons (t : Tm) (l : List Tm) : rowsT (t :: l) = tr t :: rowsT l := by rw [rowsT, row_eq]
theorem rowsT_nil : rowsT [] = [] := by rw [rowsT]
theorem rowsT_app : ∀ (a b : List Tm), rowsT (a ++ b) = rowsT a ++ rowsT b
  | [], b => by rw [rowsT_nil]; rfl
  | t :: a, b => by rw [List.cons_append, rowsT_cons, rowsT_cons, rowsT_app a b]; rfl
theorem rowsT_sz {l : List Tm} : ∀ r ∈ rowsT l, r.length = 4 := by
  intro r hr
  rw [rowsT_map] at hr
  obtain ⟨t, _, rfl⟩ := List.mem_map.1 hr
  exact row_len t
theorem rowsT_take (l : List Tm) (n : Nat) : (rowsT l).take n = rowsT (l.take n) := by rw [rowsT_map, rowsT_map, List.map_take]
theorem rowsT_drop (l : List Tm) (n : Nat) : (rowsT l).drop n = rowsT (l.drop n) := by rw [rowsT_map, rowsT_map, List.map_drop]

def amongF (O : List Tm) (t : Tm) : Bool := O.any fun x => same x t
theorem among_iff {O : List Tm} {t : Tm} : amongF O t = true ↔ t ∈ O := by
  unfold amongF
  rw [List.any_eq_true]
  constructor
  · rintro ⟨x, hx, h⟩
    rw [← same_iff.1 h]
    exact hx
  · exact fun h => ⟨t, h, same_iff.2 rfl⟩

set_option maxRecDepth 100000 in
theorem among_fn (O : List Tm) (t : Tm) (hO : ∀ x ∈ O, Sm x) (hl : O.length ≤ 10000000) : Gives Try.prog 32 [.lst 4 (rowsT O), t.sv] (.bl (amongF O t)) := by
  have key : ∀ b : Bool, amongF O t = b → Gives Try.prog 32 [.lst 4 (rowsT O), t.sv] (cond b .tt .ff) := by
    intro b hb
    have hlen : ((rowsT O).length : Int) = O.length := by rw [rowsT_len]
    refine contract_of ty_ok [0, 1, 2, 3, 4, 5, 6, 7] Try.func32 rfl (by decide) Try.ntmps32 rfl fun z => ?_
    refine run 400 rfl ?_
    refine at_loop (fun i : Int => 0 ≤ i ∧ i ≤ O.length ∧ amongF (O.drop i.toNat) t = b) (fun i => [(0, .lst 4 (rowsT O)), (3, .ptr 0 0), (5, I i)]) (fun _ => [(0, .cells 33 [I t.k, I t.n, .str t.s, .lst 4 (rowsT t.kids)])]) (fun i => (O.length - i).toNat) [1, 2, 3, 4, 5]
      0 ⟨by omega, by omega, by simpa using hb⟩ ⟨SVle.refl _, SVle.refl _, SVle.refl _, trivial⟩ ⟨rfl, trivial⟩ ?_
    rintro i ⟨a1, a2, a3⟩
    refine run 400 rfl ?_
    refine at_ifd rfl (fun h => ?_) (fun h => ?_)
    rotate_left
    · rw [hlen] at h
      rw [List.drop_eq_nil_of_le (by omega)] at a3
      have : b = false := a3.symm
      subst this
      refine run 400 rfl ?_
      exact at_ret rfl rfl [] ⟨rfl, rfl, rfl⟩ trivial
    rw [hlen] at h
    have hlt : i.toNat < O.length := by omega
    have hget := rowsT_get hlt
    have hmem := getD_mem hlt
    rw [drop_getD hlt] at a3
    generalize O.getD i.toNat .zero = u at hget hmem a3
    refine run 400 rfl ?_
    refine at_drawn 6 rfl rfl [(2, .val (.rp (tr u) 0)), (5, .sv (.bl (same u t)))] [20, 21, 22] rfl ⟨same_fn u t (hO u hmem), does_index ty_ok _ rfl rfl rfl a1 hget rfl⟩ ?_
    refine run 400 rfl ?_
    have a3 : (same u t || amongF (O.drop (i.toNat + 1)) t) = b := a3
    refine at_if rfl (fun h2 => ?_) (fun h2 => ?_)
    · rw [h2] at a3
      have : b = true := a3.symm
      subst this
      refine run 400 rfl ?_
      exact at_ret rfl rfl [] ⟨rfl, rfl, rfl⟩ trivial
    · rw [h2] at a3
      refine run 400 rfl ?_
      exact at_again (i + 1) ⟨by omega, by omega, by rw [← a3, Bool.false_or]; congr 2; omega⟩ (by omega) ⟨SVle.refl _, SVle.refl _, SVle.refl _, trivial⟩ ⟨rfl, trivial⟩
  cases hm : amongF O t with
  | false => exact (key false hm).le (SVle.ff rfl)
  | true => exact (key true hm).le (SVle.tt rfl)

mutual
def madeT (O : List Tm) : Tm → Bool
  | .mk k n s l => k == 1 || (amongF O (.mk k n s l) || (!(k == 2) && madeL O l))
def madeL (O : List Tm) : List Tm → Bool
  | [] => true
  | t :: l => madeT O t && madeL O l
end

set_option maxRecDepth 100000 in
theorem made_fn (O : List Tm) (hO : ∀ x ∈ O, Sm x) (hl : O.length ≤ 10000000) (t : Tm) (ht : Sm t) : Gives Try.prog 59 [.lst 4 (rowsT O), t.sv] (.bl (madeT O t)) := by
  induction t using Tm.ind with
  | h k n s l ih =>
    obtain ⟨hsm, hsl⟩ := ht
    have key : ∀ b : Bool, madeT O (.mk k n s l) = b → Gives Try.prog 59 [.lst 4 (rowsT O), (Tm.mk k n s l).sv] (cond b .tt .ff) := by
      intro b hb
      rw [madeT] at hb
      have hlen : ((rowsT l).length : Int) = l.length := by rw [rowsT_len]
      refine contract_of ty_ok [0, 1, 2, 3, 4, 5, 6, 7] Try.func59 rfl (by decide) Try.ntmps59 rfl fun z => ?_
      refine run 400 rfl ?_
      refine at_split 9 rfl (fun h1 => ?_) (fun h1 => ?_)
      · rw [h1, Bool.true_or] at hb
        subst hb
        refine run 400 rfl ?_
        exact at_ret rfl rfl [] ⟨rfl, rfl, rfl⟩ trivial
      rw [h1, Bool.false_or] at hb
      refine run 400 rfl ?_
      refine at_fn (among_fn O (.mk k n s l) hO hl) rfl ?_
      refine run 400 rfl ?_
      refine at_if rfl (fun h2 => ?_) (fun h2 => ?_)
      · rw [h2, Bool.true_or] at hb
        subst hb
        refine run 400 rfl ?_
        exact at_ret rfl rfl [] ⟨rfl, rfl, rfl⟩ trivial
      rw [h2, Bool.false_or] at hb
      refine run 400 rfl ?_
      refine at_if rfl (fun h3 => ?_) (fun h3 => ?_)
      · rw [h3] at hb
        have : b = false := hb.symm
        subst this
        refine run 400 rfl ?_
        exact at_ret rfl rfl [] ⟨rfl, rfl, rfl⟩ trivial
      rw [h3] at hb
      refine run 400 rfl ?_
      refine at_loop (fun i : Int => 0 ≤ i ∧ i ≤ l.length ∧ madeL O (l.drop i.toNat) = b) (fun i => [(0, .lst 4 (rowsT O)), (3, .ptr 0 0), (5, I i)]) (fun _ => [(0, .cells 33 [I k, I n, .str s, .lst 4 (rowsT l)])]) (fun i => (l.length - i).toNat) [1, 2, 3, 4, 5]
        0 ⟨by omega, by omega, by simpa using hb⟩ ⟨SVle.refl _, SVle.refl _, SVle.refl _, trivial⟩ ⟨rfl, trivial⟩ ?_
      rintro i ⟨a1, a2, a3⟩
      refine run 400 rfl ?_
      refine at_ifd rfl (fun h => ?_) (fun h => ?_)
      rotate_left
      · rw [hlen] at h
        rw [List.drop_eq_nil_of_le (by omega), madeL] at a3
        subst a3
        refine run 400 rfl ?_
        exact at_ret rfl rfl [] ⟨rfl, rfl, rfl⟩ trivial
      rw [hlen] at h
      have hlt : i.toNat < l.length := by omega
      have hget := rowsT_get hlt
      have hmem := getD_mem hlt
      rw [drop_getD hlt] at a3
      generalize l.getD i.toNat .zero = u at hget hmem a3
      rw [madeL] at a3
      refine run 400 rfl ?_
      refine at_val (.rp (tr u) 0) (does_index ty_ok _ rfl rfl rfl a1 hget rfl) ?_
      refine run 400 rfl ?_
      refine at_fn (ih u hmem (hsl u hmem)) rfl ?_
      refine run 400 rfl ?_
      refine at_if rfl (fun h4 => ?_) (fun h4 => ?_)
      · have h4 : madeT O u = false := by simpa using h4
        rw [h4] at a3
        have : b = false := a3.symm
        subst this
        refine run 400 rfl ?_
        exact at_ret rfl rfl [] ⟨rfl, rfl, rfl⟩ trivial
      · have h4 : madeT O u = true := by simpa using h4
        rw [h4, Bool.true_and] at a3
        refine run 400 rfl ?_
        exact at_again (i + 1) ⟨by omega, by omega, by rw [← a3]; congr 2; omega⟩ (by omega) ⟨SVle.refl _, SVle.refl _, SVle.refl _, trivial⟩ ⟨rfl, trivial⟩
    cases hm : madeT O (.mk k n s l) with
    | false => exact (key false hm).le (SVle.ff rfl)
    | true => exact (key true hm).le (SVle.tt rfl)
end Go.Proofs.Ytmnmhehddbemkaa
namespace Go.Proofs.Ytmnmhehddbemkaa
open Go Go.Eng

/-- What one more gives: each that was there, and it; as long as before only where it was there. -/
def AddP (L : List Tm) (t : Tm) (L' : List Tm) : Prop := (∀ x, x ∈ L' ↔ x ∈ L ∨ x = t) ∧ (L' = L ∧ t ∈ L ∨ L'.length = L.length + 1)

def addF : List Tm → Tm → List Tm
  | [], t => [t]
  | u :: L, t => if ordT u t < 0 then u :: addF L t else if same u t then u :: L else t :: u :: L
theorem addF_split {L : List Tm} {t : Tm} : ∀ (i : Nat), (∀ x ∈ L.take i, ordT x t < 0) → addF L t = L.take i ++ addF (L.drop i) t := by
  induction L with
  | nil => intro i _; simp
  | cons u L ih =>
    intro i h
    cases i with
    | zero => simp
    | succ i =>
      simp only [List.take_succ_cons, List.drop_succ_cons, List.cons_append]
      have hu := h u (by simp)
      rw [addF, if_pos hu, ih i fun x hx => h x (by simp [hx])]
theorem addF_P (L : List Tm) (t : Tm) : AddP L t (addF L t) := by
  induction L with
  | nil => exact ⟨fun x => by simp [addF], .inr (by simp [addF])⟩
  | cons u L ih =>
    obtain ⟨h1, h2⟩ := ih
    rw [addF]
    split
    · refine ⟨fun x => ?_, ?_⟩
      · rw [List.mem_cons, h1, List.mem_cons]
        constructor
        · rintro (h | h | h)
          · exact .inl (.inl h)
          · exact .inl (.inr h)
          · exact .inr h
        · rintro ((h | h) | h)
          · exact .inl h
          · exact .inr (.inl h)
          · exact .inr (.inr h)
      · rcases h2 with ⟨e, h2⟩ | h2
        · exact .inl ⟨by rw [e], by simp [h2]⟩
        · exact .inr (by simp [h2])
    · split
      · rename_i hs
        have e := same_iff.1 hs
        subst e
        exact ⟨fun x => ⟨.inl, fun q => q.elim id fun e => by simp [e]⟩, .inl ⟨rfl, by simp⟩⟩
      · exact ⟨fun x => by rw [List.mem_cons]; exact ⟨fun q => q.elim .inr .inl, fun q => q.elim .inr .inl⟩, .inr (by simp)⟩

set_option maxRecDepth 100000 in
theorem add_fn (L : List Tm) (t : Tm) (hL : ∀ x ∈ L, Sm x) (hl : L.length ≤ 10000000) : Gives Try.prog 64 [.lst 4 (rowsT L), t.sv] (.lst 4 (rowsT (addF L t))) := by
  have hlen : ((rowsT L).length : Int) = L.length := by rw [rowsT_len]
  have hlen2 : (rowsT L).length = L.length := rowsT_len L
  refine contract_of ty_ok [0, 1, 2, 3, 4, 5, 6, 7] Try.func64 rfl (by decide) Try.ntmps64 rfl fun z => ?_
  refine run 400 rfl ?_
  refine at_loop (fun i : Int => 0 ≤ i ∧ i ≤ L.length ∧ ∀ x ∈ L.take i.toNat, ordT x t < 0) (fun i => [(0, .lst 4 (rowsT L)), (3, .ptr 0 0), (5, I i)]) (fun _ => [(0, .cells 33 [I t.k, I t.n, .str t.s, .lst 4 (rowsT t.kids)])]) (fun i => (L.length - i).toNat) [1, 2, 3, 4, 5]
    0 ⟨by omega, by omega, by simp⟩ ⟨SVle.refl _, SVle.refl _, SVle.refl _, trivial⟩ ⟨rfl, trivial⟩ ?_
  rintro i ⟨a1, a2, a3⟩
  refine run 400 rfl ?_
  by_cases hlt : i.toNat < L.length
  · have hget := rowsT_get hlt
    have hmem := getD_mem hlt
    have hgetD : L[i.toNat]? = some (L.getD i.toNat .zero) := by rw [List.getD_eq_getElem?_getD, List.getElem?_eq_getElem hlt]; rfl
    have hdrop := drop_getD hlt
    generalize L.getD i.toNat .zero = u at hget hmem hgetD hdrop
    refine at_drawn 12 rfl rfl [(4, .yes), (7, .val (.rp (tr u) 0)), (10, .sv (.bl (decide (ordT u t < 0))))] [20, 21, 22] rfl ⟨less_fn u t (hL u hmem), does_index ty_ok _ rfl rfl rfl a1 hget rfl, decide_eq_true (by rw [hlen]; omega)⟩ ?_
    refine run 400 rfl ?_
    refine at_if rfl (fun h => ?_) (fun h => ?_)
    · refine run 400 rfl ?_
      have h : ordT u t < 0 := by simpa using h
      exact at_again (i + 1) ⟨by omega, by omega, by
        intro x hx
        rw [show (i + 1).toNat = i.toNat + 1 by omega, List.take_add_one, hgetD] at hx
        rcases List.mem_append.1 hx with hx | hx
        · exact a3 x hx
        · simp at hx
          rw [hx]
          exact h⟩ (by omega) ⟨SVle.refl _, SVle.refl _, SVle.refl _, trivial⟩ ⟨rfl, trivial⟩
    · have h : ¬ ordT u t < 0 := by simpa using h
      refine run 400 rfl ?_
      refine at_drawn 12 rfl rfl [(4, .yes), (7, .val (.rp (tr u) 0)), (10, .sv (.bl (same u t)))] [20, 21, 22] rfl ⟨same_fn u t (hL u hmem), does_index ty_ok _ rfl rfl rfl a1 hget rfl, decide_eq_true (by rw [hlen]; omega)⟩ ?_
      refine run 400 rfl ?_
      refine at_if rfl (fun h2 => ?_) (fun h2 => ?_)
      · have e := same_iff.1 h2
        subst e
        refine run 400 rfl ?_
        have e : addF L u = L := by
          rw [addF_split i.toNat a3, hdrop, addF, if_neg h, if_pos h2, ← hdrop, List.take_append_drop]
        exact at_ret rfl rfl [] ⟨by rw [e], rfl, rfl⟩ trivial
      · refine run 400 rfl ?_
        refine at_gro (.tl 4 []) (doesG_build ty_ok _ rfl trivial rfl rfl (by decide)) ?_
        refine run 400 rfl ?_
        refine at_val (.lst 4 ((rowsT L).take i.toNat)) (does_slice_h ty_ok rfl rfl rfl (by omega) rfl) ?_
        refine at_new 5 4 ([] ++ (rowsT L).take i.toNat) (doesT_append ty_ok rfl rfl rfl rfl rfl rfl rfl (by simp; omega) (by show _ * 56 ≤ _; simp; omega)) ?_
        refine run 400 rfl ?_
        refine at_drawn_st 8 [5] rfl rfl [(2, .gro (.tl 4 [tr t])), (3, .eat 5 4 ([] ++ (rowsT L).take i.toNat ++ [tr t]) (some 7)), (6, .val (.lst 4 ((rowsT L).drop i.toNat))), (7, .use 20 4 ([] ++ (rowsT L).take i.toNat ++ [tr t] ++ (rowsT L).drop i.toNat))] [20, 21, 22] rfl
          ⟨doesU_append ty_ok rfl rfl rfl rfl rfl rfl rfl (by simp; omega) (by show _ * 56 ≤ _; simp; omega), does_slice_l ty_ok rfl rfl rfl (by omega) rfl, doesU_append ty_ok rfl rfl rfl rfl rfl rfl rfl (by simp; omega) (by show _ * 56 ≤ _; simp; omega), doesG_build ty_ok _ rfl ⟨⟨rfl, rfl, _, rfl, SVles.refl _⟩, trivial⟩ rfl rfl (by decide)⟩ ?_
        refine run 400 rfl ?_
        have e : addF L t = L.take i.toNat ++ t :: L.drop i.toNat := by
          rw [addF_split i.toNat a3, hdrop, addF, if_neg h, if_neg (by simpa using h2)]
        exact at_ret rfl rfl [] ⟨by rw [e, rowsT_app, rowsT_cons, rowsT_take, rowsT_drop]; simp, rfl, rfl⟩ trivial
  · refine at_drawn 12 rfl rfl [(4, .no)] [20, 21, 22] rfl (decide_eq_false (by rw [hlen]; omega)) ?_
    refine run 400 rfl ?_
    refine at_drawn 12 rfl rfl [(4, .no)] [20, 21, 22] rfl (decide_eq_false (by rw [hlen]; omega)) ?_
    refine run 400 rfl ?_
    refine at_gro (.tl 4 []) (doesG_build ty_ok _ rfl trivial rfl rfl (by decide)) ?_
    refine run 400 rfl ?_
    refine at_val (.lst 4 ((rowsT L).take i.toNat)) (does_slice_h ty_ok rfl rfl rfl (by omega) rfl) ?_
    refine at_new 5 4 ([] ++ (rowsT L).take i.toNat) (doesT_append ty_ok rfl rfl rfl rfl rfl rfl rfl (by simp; omega) (by show _ * 56 ≤ _; simp; omega)) ?_
    refine run 400 rfl ?_
    refine at_drawn_st 8 [5] rfl rfl [(2, .gro (.tl 4 [tr t])), (3, .eat 5 4 ([] ++ (rowsT L).take i.toNat ++ [tr t]) (some 7)), (6, .val (.lst 4 ((rowsT L).drop i.toNat))), (7, .use 20 4 ([] ++ (rowsT L).take i.toNat ++ [tr t] ++ (rowsT L).drop i.toNat))] [20, 21, 22] rfl
      ⟨doesU_append ty_ok rfl rfl rfl rfl rfl rfl rfl (by simp; omega) (by show _ * 56 ≤ _; simp; omega), does_slice_l ty_ok rfl rfl rfl (by omega) rfl, doesU_append ty_ok rfl rfl rfl rfl rfl rfl rfl (by simp; omega) (by show _ * 56 ≤ _; simp; omega), doesG_build ty_ok _ rfl ⟨⟨rfl, rfl, _, rfl, SVles.refl _⟩, trivial⟩ rfl rfl (by decide)⟩ ?_
    refine run 400 rfl ?_
    have e : addF L t = L.take i.toNat ++ t :: L.drop i.toNat := by
      rw [addF_split i.toNat a3, List.drop_eq_nil_of_le (by omega), addF]
    exact at_ret rfl rfl [] ⟨by rw [e, rowsT_app, rowsT_cons, rowsT_take, rowsT_drop]; simp, rfl, rfl⟩ trivial
end Go.Proofs.Ytmnmhehddbemkaa
namespace Go.Proofs.Ytmnmhehddbemkaa
open Go Go.Eng

/-- As many kids as the kind says, here and below. -/
inductive Gd : Tm → Prop
  | mk {k n : Int} {s : ByteArray} {l : List Tm} (h : (l.length : Int) = kidsF k) (hl : ∀ t ∈ l, Gd t) : Gd (.mk k n s l)
theorem Gd.sm {t : Tm} (h : Gd t) : Sm t := by
  induction t using Tm.ind with
  | h k n s l ih =>
    cases h with
    | mk h1 h2 =>
      have := kidsF_le k
      exact .mk (by omega) fun t ht => ih t ht (h2 t ht)

mutual
def szT : Tm → Nat
  | .mk _ _ _ l => 1 + szL l
def szL : List Tm → Nat
  | [] => 0
  | t :: l => szT t + szL l
end
theorem szT_pos (t : Tm) : 0 < szT t := by cases t; rw [szT]; omega
theorem szL_app : ∀ a b : List Tm, szL (a ++ b) = szL a + szL b
  | [], b => by rw [szL]; simp
  | t :: a, b => by rw [List.cons_append, szL, szL, szL_app a b]; omega
theorem szL_len : ∀ l : List Tm, l.length ≤ szL l
  | [] => by rw [szL]; simp
  | t :: l => by
    have := szL_len l
    have := szT_pos t
    rw [szL, List.length_cons]
    omega

/-- What comes out of a term. -/
def parts : Tm → List Tm
  | .mk k _ _ l => if k = 7 then l else if k = 6 then l.drop 1 else []
def Closed (O : List Tm) : Prop := ∀ x ∈ O, ∀ p ∈ parts x, p ∈ O
structure OpenP (l O : List Tm) : Prop where
  has : ∀ x ∈ l, x ∈ O
  closed : Closed O
  least : ∀ C : Tm → Prop, (∀ x ∈ l, C x) → (∀ x, C x → ∀ p ∈ parts x, C p) → ∀ x ∈ O, C x
  gd : ∀ x ∈ O, Gd x
  len : O.length ≤ szL l

structure OpenI (l : List Tm) (x : List Tm × List Tm) : Prop where
  gdT : ∀ t ∈ x.1, Gd t
  gdO : ∀ t ∈ x.2, Gd t
  has : ∀ t ∈ l, t ∈ x.1 ∨ t ∈ x.2
  closed : ∀ t ∈ x.2, ∀ p ∈ parts t, p ∈ x.1 ∨ p ∈ x.2
  least : ∀ C : Tm → Prop, (∀ t ∈ l, C t) → (∀ t, C t → ∀ p ∈ parts t, C p) → (∀ t ∈ x.1, C t) ∧ ∀ t ∈ x.2, C t
  len : x.2.length + szL x.1 ≤ szL l

theorem gd_parts {t : Tm} (h : Gd t) : ∀ p ∈ parts t, Gd p := by
  intro p hp
  obtain ⟨hk, hl⟩ := h
  rw [parts] at hp
  split at hp
  · exact hl p hp
  · split at hp
    · exact hl p (List.mem_of_mem_drop hp)
    · cases hp

/-- One term is taken off, and put to the others; what comes out of it is put behind. -/
theorem openI_step {l T L L' : List Tm} {t : Tm} (h : OpenI l (t :: T, L)) (ha : AddP L t L') (q : List Tm) (hq : L' = L ∧ t ∈ L ∧ q = [] ∨ L'.length = L.length + 1 ∧ q = parts t) (hs : szL q < szT t) : OpenI l (T ++ q, L') := by
  obtain ⟨hm, _⟩ := ha
  refine ⟨fun x hx => ?_, fun x hx => ?_, fun x hx => ?_, fun x hx p hp => ?_, fun C h1 h2 => ?_, ?_⟩
  · rcases List.mem_append.1 hx with hx | hx
    · exact h.gdT x (by simp [hx])
    · rcases hq with ⟨_, _, e⟩ | ⟨_, e⟩
      · rw [e] at hx; cases hx
      · rw [e] at hx; exact gd_parts (h.gdT t (by simp)) x hx
  · rcases (hm x).1 hx with hx | rfl
    · exact h.gdO x hx
    · exact h.gdT x (by simp)
  · rcases h.has x hx with hx | hx
    · rcases List.mem_cons.1 hx with rfl | hx
      · exact .inr ((hm x).2 (.inr rfl))
      · exact .inl (List.mem_append.2 (.inl hx))
    · exact .inr ((hm x).2 (.inl hx))
  · have old : x ∈ L → p ∈ T ++ q ∨ p ∈ L' := fun hx => by
      rcases h.closed x hx p hp with h' | h'
      · rcases List.mem_cons.1 h' with rfl | h'
        · exact .inr ((hm p).2 (.inr rfl))
        · exact .inl (List.mem_append.2 (.inl h'))
      · exact .inr ((hm p).2 (.inl h'))
    rcases (hm x).1 hx with hx | rfl
    · exact old hx
    · rcases hq with ⟨_, hx, _⟩ | ⟨_, e⟩
      · exact old hx
      · exact .inl (List.mem_append.2 (.inr (by rw [e]; exact hp)))
  · obtain ⟨c1, c2⟩ := h.least C h1 h2
    refine ⟨fun x hx => ?_, fun x hx => ?_⟩
    · rcases List.mem_append.1 hx with hx | hx
      · exact c1 x (by simp [hx])
      · rcases hq with ⟨_, _, e⟩ | ⟨_, e⟩
        · rw [e] at hx; cases hx
        · rw [e] at hx; exact h2 t (c1 t (by simp)) x hx
    · rcases (hm x).1 hx with hx | rfl
      · exact c2 x hx
      · exact c1 x (by simp)
  · have := h.len
    simp only [szL] at this
    simp only [szL_app]
    have := szT_pos t
    rcases hq with ⟨e, _, _⟩ | ⟨e, _⟩
    · rw [e]; omega
    · omega

def openG : Nat → List Tm → List Tm → List Tm
  | 0, _, L => L
  | _, [], L => L
  | n + 1, t :: T, L => if (addF L t).length = L.length then openG n T (addF L t) else openG n (T ++ parts t) (addF L t)

theorem sz_parts (t : Tm) : szL (parts t) < szT t := by
  obtain ⟨k, n, s, l⟩ := t
  rw [parts, szT]
  split
  · omega
  · split
    · cases l with
      | nil => simp [szL]
      | cons a l => simp only [List.drop_succ_cons, List.drop_zero, szL]; omega
    · rw [szL]; omega
theorem openG_irr : ∀ (n m : Nat) (T L : List Tm), szL T ≤ n → szL T ≤ m → openG n T L = openG m T L := by
  intro n
  induction n with
  | zero =>
    intro m T L h1 _
    cases T with
    | nil => cases m <;> simp [openG]
    | cons t T =>
      have := szT_pos t
      rw [szL] at h1
      omega
  | succ n ih =>
    intro m T L h1 h2
    cases T with
    | nil => cases m <;> simp [openG]
    | cons t T =>
      have h3 := szT_pos t
      have h4 := sz_parts t
      rw [szL] at h1 h2
      cases m with
      | zero => omega
      | succ m =>
        rw [openG, openG]
        split
        · exact ih m T _ (by omega) (by omega)
        · exact ih m _ _ (by rw [szL_app]; omega) (by rw [szL_app]; omega)

/-- What is open. -/
def openF (l : List Tm) : List Tm := openG (szL l) l []

theorem openG_P {l : List Tm} : ∀ (n : Nat) (T L : List Tm), szL T ≤ n → OpenI l (T, L) → OpenP l (openG n T L) := by
  have fin : ∀ L, OpenI l ([], L) → OpenP l L := fun L hI =>
    ⟨fun x hx => (hI.has x hx).resolve_left (by simp), fun x hx p hp => (hI.closed x hx p hp).resolve_left (by simp), fun C h1 h2 => (hI.least C h1 h2).2, hI.gdO, by have := hI.len; simpa [szL] using this⟩
  intro n
  induction n with
  | zero =>
    intro T L h hI
    cases T with
    | nil => exact fin L hI
    | cons t T => have := szT_pos t; rw [szL] at h; omega
  | succ n ih =>
    intro T L h hI
    cases T with
    | nil => exact fin L hI
    | cons t T =>
      have h3 := szT_pos t
      have h4 := sz_parts t
      rw [szL] at h
      have hA := addF_P L t
      rw [openG]
      split
      · rename_i g
        have hq := hA.2.resolve_right (by omega)
        have hI' := openI_step hI hA [] (.inl ⟨hq.1, hq.2, rfl⟩) (by rw [szL]; exact h3)
        rw [List.append_nil] at hI'
        exact ih T _ (by omega) hI'
      · rename_i g
        have g' : (addF L t).length = L.length + 1 := hA.2.resolve_left fun e => g (by rw [e.1])
        exact ih _ _ (by rw [szL_app]; omega) (openI_step hI hA (parts t) (.inr ⟨g', rfl⟩) h4)
theorem openF_P {l : List Tm} (hg : ∀ t ∈ l, Gd t) : OpenP l (openF l) :=
  openG_P _ l [] (Nat.le_refl _) ⟨hg, by simp, fun t h => .inl h, by simp, fun C h1 _ => ⟨h1, by simp⟩, by simp⟩

set_option maxRecDepth 100000 in
theorem open_fn (l : List Tm) (hg : ∀ t ∈ l, Gd t) (hl : szL l ≤ 1000000) : Gives Try.prog 30 [.lst 4 (rowsT l)] (.lst 4 (rowsT (openF l))) := by
  have hlen : (rowsT l).length = l.length := rowsT_len l
  have hll := szL_len l
  refine contract_of ty_ok [0, 1, 2, 3, 4, 6, 7] Try.func30 rfl (by decide) Try.ntmps30 rfl fun z => ?_
  refine run 400 rfl ?_
  refine at_gro (.tl 4 []) (doesG_build ty_ok _ rfl trivial rfl rfl (by decide)) ?_
  refine run 400 rfl ?_
  refine at_new 5 4 ([] ++ rowsT l) (doesT_append ty_ok rfl rfl rfl rfl rfl rfl rfl (by simp; omega) (by show _ * 56 ≤ _; simp; omega)) ?_
  refine run 400 rfl ?_
  refine at_loop (fun x : List Tm × List Tm => OpenI l x ∧ openG (szL x.1) x.1 x.2 = openF l) (fun x => [(4, .gl 5 4 (rowsT x.1)), (3, .lst 4 (rowsT x.2))]) (fun _ => [(5, .tok 4)]) (fun x => szL x.1) [0, 1, 2, 3, 4, 6, 7]
    (l, []) ⟨⟨hg, by simp, fun t h => .inl h, by simp, fun C h1 _ => ⟨h1, by simp⟩, by simp⟩, rfl⟩ ⟨SVle.refl _, ?_, trivial⟩ ⟨rfl, trivial⟩ ?_
  · rw [rowsT_nil]
    exact fun g H x h => SVle.tl 4 [] g H x (SVle.nil 4 g H x h)
  rintro ⟨T, L⟩ ⟨hI, hF⟩
  dsimp only at hF
  have hTlen : ((rowsT T).length : Int) = T.length := by rw [rowsT_len]
  have hT0 := szL_len T
  have hlen0 := hI.len
  dsimp only at hlen0
  refine run 400 rfl ?_
  refine at_ifd rfl (fun h => ?_) (fun h => ?_)
  rotate_left
  · rw [hTlen] at h
    have : T = [] := List.eq_nil_of_length_eq_zero (by omega)
    subst this
    refine run 400 rfl ?_
    have e : L = openF l := by rw [← hF, szL, openG]
    exact at_ret rfl rfl [] ⟨by rw [e], rfl, rfl⟩ trivial
  rw [hTlen] at h
  cases T with
  | nil => simp at h
  | cons t T =>
    refine run 400 rfl ?_
    refine at_val (.rp (tr t) 0) (does_index ty_ok _ rfl rfl rfl (by omega) (show (rowsT (t :: T))[(0 : Int).toNat]? = some (tr t) by rw [rowsT_cons]; rfl) rfl) ?_
    refine run 400 rfl ?_
    refine at_grow 5 5 4 ((rowsT (t :: T)).drop (1 : Int).toNat) rfl (doesU_slice_l ty_ok rfl rfl rfl (by omega) rfl) rfl ?_
    have e1 : (rowsT (t :: T)).drop (1 : Int).toNat = rowsT T := by rw [rowsT_cons]; rfl
    rw [e1]
    refine run 400 rfl ?_
    have hLlen : (rowsT L).length = L.length := rowsT_len L
    have hT1 : (rowsT T).length = T.length := rowsT_len T
    refine at_fn (add_fn L t (fun x hx => (hI.gdO x hx).sm) (by omega)) rfl ?_
    have hA := addF_P L t
    have hstep : openF l = if (addF L t).length = L.length then openG (szL T) T (addF L t) else openG (szL (T ++ parts t)) (T ++ parts t) (addF L t) := by
      have h3 := szT_pos t
      have h4 := sz_parts t
      obtain ⟨q, hq⟩ : ∃ q, szL (t :: T) = q + 1 := ⟨szL (t :: T) - 1, by rw [szL]; omega⟩
      have hq' : szT t + szL T = q + 1 := by rw [← hq, szL]
      rw [← hF, hq, openG]
      split
      · exact openG_irr _ _ _ _ (by omega) (Nat.le_refl _)
      · exact openG_irr _ _ _ _ (by rw [szL_app]; omega) (Nat.le_refl _)
    generalize addF L t = L' at hA hstep
    have hLlen' : (rowsT L').length = L'.length := rowsT_len L'
    have hsz : szL (t :: T) = szT t + szL T := by rw [szL]
    refine run 400 rfl ?_
    refine at_if rfl (fun g => ?_) (fun g => ?_)
    · rw [hLlen, hLlen', beq_iff_eq] at g
      have hq : L' = L ∧ t ∈ L := hA.2.resolve_right (by omega)
      have hI' := openI_step hI hA [] (.inl ⟨hq.1, hq.2, rfl⟩) (by rw [szL]; exact szT_pos t)
      rw [List.append_nil] at hI'
      refine run 400 rfl ?_
      rw [if_pos (by omega)] at hstep
      exact at_again (T, L') ⟨hI', hstep.symm⟩ (by have := szT_pos t; dsimp only; omega) ⟨SVle.refl _, SVle.refl _, trivial⟩ ⟨rfl, trivial⟩
    · rw [hLlen, hLlen'] at g
      have g0 : ¬ L'.length = L.length := by simp at g; omega
      rw [if_neg g0] at hstep
      have g : L'.length = L.length + 1 := hA.2.resolve_left fun e => by rw [e.1] at g; simp at g
      have hgt := hI.gdT t (by simp)
      obtain ⟨k, n, s, ks⟩ := t
      obtain ⟨hk1, hk2⟩ := hgt
      refine run 400 rfl ?_
      refine at_if rfl (fun g7 => ?_) (fun g7 => ?_)
      · have g7 : k = 7 := by simpa using g7
        subst g7
        obtain ⟨a, b, rfl⟩ : ∃ a b, ks = [a, b] := by
          have : ks.length = 2 := by simp [kidsF] at hk1; omega
          match ks, this with
          | [a, b], _ => exact ⟨a, b, rfl⟩
        have hI' := openI_step hI hA [a, b] (.inr ⟨g, by simp [parts]⟩) (by simp only [szT, szL]; omega)
        refine run 400 rfl ?_
        refine at_drawn 10 rfl rfl [(3, .val (.rp (tr a) 0)), (7, .val (.rp (tr b) 0)), (9, .gro (.tl 4 [tr a, tr b]))] [20, 21, 22] rfl
          ⟨doesG_build ty_ok _ rfl ⟨⟨rfl, rfl, _, rfl, SVles.refl _⟩, ⟨rfl, rfl, _, rfl, SVles.refl _⟩, trivial⟩ rfl rfl (by decide), does_index ty_ok _ rfl rfl rfl (by omega) (show (rowsT [a, b])[(1 : Int).toNat]? = some (tr b) by rw [rowsT_cons, rowsT_cons]; rfl) rfl, does_index ty_ok _ rfl rfl rfl (by omega) (show (rowsT [a, b])[(0 : Int).toNat]? = some (tr a) by rw [rowsT_cons]; rfl) rfl⟩ ?_
        refine at_grow 5 5 4 (rowsT T ++ [tr a, tr b]) rfl (doesU_append ty_ok rfl rfl rfl rfl rfl rfl rfl (by simp; simp at hT0; omega) (by show _ * 56 ≤ _; simp; simp at hT0; omega)) rfl ?_
        refine run 400 rfl ?_
        exact at_again (T ++ [a, b], L') ⟨hI', by rw [hstep]; simp [parts]⟩ (by simp only [szT, szL, szL_app]; omega) ⟨SVle.of_eq (by show SV.gl 5 4 (rowsT T ++ [tr a, tr b]) = SV.gl 5 4 (rowsT (T ++ [a, b])); rw [rowsT_app, rowsT_cons, rowsT_cons, rowsT_nil]), SVle.refl _, trivial⟩ ⟨rfl, trivial⟩
      · have g7 : k ≠ 7 := by simpa using g7
        refine run 400 rfl ?_
        refine at_if rfl (fun g6 => ?_) (fun g6 => ?_)
        · have g6 : k = 6 := by simpa using g6
          subst g6
          obtain ⟨a, b, rfl⟩ : ∃ a b, ks = [a, b] := by
            have : ks.length = 2 := by simp [kidsF] at hk1; omega
            match ks, this with
            | [a, b], _ => exact ⟨a, b, rfl⟩
          have hI' := openI_step hI hA [b] (.inr ⟨g, by simp [parts]⟩) (by simp only [szT, szL]; omega)
          refine run 400 rfl ?_
          refine at_val (.rp (tr b) 0) (does_index ty_ok _ rfl rfl rfl (by omega) (show (rowsT [a, b])[(1 : Int).toNat]? = some (tr b) by rw [rowsT_cons, rowsT_cons]; rfl) rfl) ?_
          refine run 400 rfl ?_
          refine at_gro (.tl 4 [tr b]) (doesG_build ty_ok _ rfl ⟨⟨rfl, rfl, _, rfl, SVles.refl _⟩, trivial⟩ rfl rfl (by decide)) ?_
          refine at_grow 5 5 4 (rowsT T ++ [tr b]) rfl (doesU_append ty_ok rfl rfl rfl rfl rfl rfl rfl (by simp; simp at hT0; omega) (by show _ * 56 ≤ _; simp; simp at hT0; omega)) rfl ?_
          refine run 400 rfl ?_
          exact at_again (T ++ [b], L') ⟨hI', by rw [hstep]; simp [parts]⟩ (by simp only [szT, szL, szL_app]; omega) ⟨SVle.of_eq (by show SV.gl 5 4 (rowsT T ++ [tr b]) = SV.gl 5 4 (rowsT (T ++ [b])); rw [rowsT_app, rowsT_cons, rowsT_nil]), SVle.refl _, trivial⟩ ⟨rfl, trivial⟩
        · have g6 : k ≠ 6 := by simpa using g6
          have hI' := openI_step hI hA [] (.inr ⟨g, by simp [parts, g7, g6]⟩) (by simp only [szT, szL]; omega)
          rw [List.append_nil] at hI'
          refine run 400 rfl ?_
          exact at_again (T, L') ⟨hI', by rw [hstep]; simp [parts, g7, g6]⟩ (by have := szT_pos (.mk k n s ks); dsimp only; omega) ⟨SVle.refl _, SVle.refl _, trivial⟩ ⟨rfl, trivial⟩

theorem can_fn (l : List Tm) (t : Tm) (hg : ∀ t ∈ l, Gd t) (hl : szL l ≤ 1000000) (ht : Sm t) : Gives Try.prog 20 [.lst 4 (rowsT l), t.sv] (.bl (madeT (openF l) t)) := by
  have hO := openF_P hg
  refine contract_of ty_ok [0, 1, 2, 3, 4, 5, 6, 7] Try.func20 rfl (by decide) Try.ntmps20 rfl fun z => ?_
  refine run 400 rfl ?_
  refine at_drawn 4 rfl rfl [(1, .sv (.lst 4 (rowsT (openF l)))), (3, .sv (.bl (madeT (openF l) t)))] [20, 21, 22] rfl ⟨made_fn _ (fun x hx => (hO.gd x hx).sm) (by have := hO.len; omega) t ht, open_fn l hg hl⟩ ?_
  refine run 400 rfl ?_
  exact at_ret rfl rfl [] ⟨rfl, rfl, rfl⟩ trivial
end Go.Proofs.Ytmnmhehddbemkaa
