/- The proof engine, part 19: what plain arguments are read as. -/
import Derived.Test.YtmnmhehddbemkaaBridge
namespace Go.Eng
open Go.RowKit

/-- Fields that lie one behind the other. -/
def contF (P : Program) : Nat → List Field → Nat → Bool
  | off, [], n => Nat.beq off n
  | off, f :: fs, n => Nat.beq f.offset off && contF P (off + P.cellsOf f.type) fs n

/-- Types of numbers, texts, structs and lists, closed among themselves. -/
def plainT (P : Program) (ts : List TypeId) : Bool :=
  ts.all fun t => match P.underlying t with
    | some (.int _) => true
    | some .bool => true
    | some .string => true
    | some (.slice e) => ts.contains e && Nat.blt 0 (P.cellsOf e)
    | some (.struct fs) => contF P 0 fs.toList (P.cellsOf t) && fs.toList.all fun f => ts.contains f.type
    | _ => false

/-- Cells of a type. -/
def okT (P : Program) : Nat → TypeId → List DV → Prop
  | 0, _, _ => False
  | n + 1, t, ds => match P.underlying t with
    | some (.int k) => ∃ m, ds = [.int k m] ∧ (Lit.int k m).wf = true
    | some .bool => ∃ b, ds = [.bl b]
    | some .string => ∃ s : ByteArray, ds = [.str s] ∧ s.size ≤ maxLen
    | some (.slice e) => ∃ rows, ds = [.lst (P.cellsOf e) rows] ∧ rows.length ≤ maxLen ∧ ∀ r ∈ rows, r.length = P.cellsOf e ∧ okT P n e r
    | some (.struct fs) => ds.length = P.cellsOf t ∧ ∀ (i : Nat) f, fs[i]? = some f → okT P n f.type ((ds.drop f.offset).take (P.cellsOf f.type))
    | _ => False

theorem contF_le {P : Program} : ∀ {fl : List Field} {off N : Nat}, contF P off fl N = true → off ≤ N
  | [], off, N, h => by have := beq_true h; omega
  | f :: fl, off, N, h => by
    simp only [contF, Bool.and_eq_true] at h
    have := contF_le h.2
    omega

theorem DenDs.app {H : Hp} : ∀ {a b : List DV} {x y : List Value}, DenDs H a x → DenDs H b y → DenDs H (a ++ b) (x ++ y)
  | [], _, [], _, _, h => h
  | _ :: _, _, _ :: _, _, h1, h2 => ⟨h1.1, DenDs.app h1.2 h2⟩
  | [], _, _ :: _, _, h, _ => h.elim
  | _ :: _, _, [], _, h, _ => h.elim

section
variable {H : Type} {enc : TypeId × Value → H} {P : Program} {w : World} {base : Nat} {spare : Nat → Bool} {held : Bool}

theorem see_fields {ts : List TypeId} {n : Nat} (ih : ∀ t cs x, t ∈ ts → DataW.trod enc P w base spare held n t cs = some x → ∃ ds, DenDs (Hof w) ds cs ∧ okT P n t ds) {cs : List Value} {N : Nat} (hN : cs.length = N) :
    ∀ (fl : List Field) (off : Nat), contF P off fl N = true → (∀ f ∈ fl, f.type ∈ ts ∧ ∃ y, DataW.trod enc P w base spare held n f.type ((cs.drop f.offset).take (P.cellsOf f.type)) = some y) →
      ∃ ds, DenDs (Hof w) ds (cs.drop off) ∧ ∀ pre : List DV, pre.length = off → ∀ f ∈ fl, okT P n f.type (((pre ++ ds).drop f.offset).take (P.cellsOf f.type))
  | [], off, h, _ => by
    have := beq_true h
    exact ⟨[], by rw [List.drop_eq_nil_of_le (by omega)]; trivial, fun pre hp f hf => by cases hf⟩
  | f :: fl, off, h, hf => by
    simp only [contF, Bool.and_eq_true] at h
    have ho := beq_true h.1
    have hle := contF_le h.2
    obtain ⟨ht, y, hy⟩ := hf f (by simp)
    obtain ⟨d1, hd1, hk1⟩ := ih _ _ _ ht hy
    obtain ⟨d2, hd2, hk2⟩ := see_fields ih hN fl (off + P.cellsOf f.type) h.2 fun g hg => hf g (by simp [hg])
    rw [ho] at hd1
    have hl1 : d1.length = P.cellsOf f.type := by rw [← hd1.length]; simp; omega
    refine ⟨d1 ++ d2, ?_, fun pre hp g hg => ?_⟩
    · have e : cs.drop off = (cs.drop off).take (P.cellsOf f.type) ++ cs.drop (off + P.cellsOf f.type) := by rw [← List.drop_drop, List.take_append_drop]
      rw [e]
      exact hd1.app hd2
    · rcases List.mem_cons.1 hg with rfl | hg
      · rw [ho, ← hp, List.drop_left, ← hl1, List.take_left]
        exact hk1
      · rw [← List.append_assoc]
        exact hk2 (pre ++ d1) (by simp [hp, hl1]) g hg

theorem trod_see {ts : List TypeId} (hp : plainT P ts = true) : ∀ (n : Nat) (t : TypeId) (cs : List Value) (x : DataW H × List MemPlace), t ∈ ts → DataW.trod enc P w base spare held n t cs = some x →
    ∃ ds, DenDs (Hof w) ds cs ∧ okT P n t ds := by
  intro n
  induction n with
  | zero => intro t cs x _ h; simp [DataW.trod] at h
  | succ n ih =>
    intro t cs x ht h
    have hc := List.all_eq_true.1 hp t ht
    unfold okT
    split at hc
    · rename_i k hu
      obtain ⟨m, rfl, _, hw⟩ := DataW.trod_int hu h
      exact ⟨[.int k m], ⟨rfl, trivial⟩, by exact ⟨m, rfl, hw⟩⟩
    · rename_i hu
      obtain ⟨b, rfl, _⟩ := DataW.trod_bool hu h
      exact ⟨[.bl b], ⟨rfl, trivial⟩, by exact ⟨b, rfl⟩⟩
    · rename_i hu
      obtain ⟨s, rfl, _, hw⟩ := DataW.trod_string hu h
      exact ⟨[.str s], ⟨rfl, trivial⟩, by exact ⟨s, rfl, hw⟩⟩
    · rename_i e hu
      rw [Bool.and_eq_true] at hc
      have hmem : e ∈ ts := by simpa using hc.1
      have hsz : 0 < P.cellsOf e := Nat.blt_eq.mp hc.2
      rcases DataW.trod_slice hu h with ⟨rfl, _⟩ | ⟨a, len, cap, elems, rest, n', hn', rfl, _, hb, hl, hm, hlen, hel, _, _⟩
      · exact ⟨[.lst (P.cellsOf e) []], ⟨⟨none, 0, rfl, Nat.le_refl _, fun _ => ⟨rfl, rfl⟩, fun p hp => by cases hp⟩, trivial⟩, by exact ⟨[], rfl, Nat.zero_le _, by simp⟩⟩
      · simp only [Nat.add_right_cancel_iff] at hn'
        subst hn'
        have each : ∀ i, i < len → ∃ cs y, w.cells? base (a.add (i * P.cellsOf e)) (P.cellsOf e) = some cs ∧ DataW.trod enc P w base spare held n e cs = some y := by
          intro i hi
          have h1 := hel i hi
          rw [List.getElem?_eq_getElem (by omega), Option.bind_eq_some_iff] at h1
          obtain ⟨cs, h2, h3⟩ := h1
          exact ⟨cs, _, h2, h3⟩
        by_cases h0 : len = 0
        · subst h0
          exact ⟨[.lst (P.cellsOf e) []], ⟨⟨some a, cap, rfl, Nat.zero_le _, fun e => (by cases e), fun p _ => ⟨.inl rfl, trivial⟩⟩, trivial⟩, by exact ⟨[], rfl, Nat.zero_le _, by simp⟩⟩
        · have hs : a.spot = none := by
            obtain ⟨cs, y, h1, _⟩ := each 0 (by omega)
            have h2 := (World.cells?_some h1).2.2 0 hsz
            rw [List.getElem?_eq_getElem (by rw [(World.cells?_some h1).2.1]; exact hsz)] at h2
            have := World.cell?_spot h2
            simpa [Addr.add] using this
          obtain ⟨b, off, spot⟩ := a
          simp only at hs
          subst hs
          have build : ∀ k i, i + k = len → ∃ rows : List (List DV), rows.length = k ∧ (∀ r ∈ rows, r.length = P.cellsOf e ∧ okT P n e r) ∧ DenRs (Hof w) b (off + i * P.cellsOf e) (P.cellsOf e) rows := by
            intro k
            induction k with
            | zero => intro i _; exact ⟨[], rfl, by simp, trivial⟩
            | succ k ihk =>
              intro i hi
              obtain ⟨cs, y, h1, h2⟩ := each i (by omega)
              obtain ⟨_, hcl, hcell⟩ := World.cells?_some h1
              obtain ⟨r, hr1, hr2⟩ := ih e cs y hmem h2
              obtain ⟨rows, q1, q2, q3⟩ := ihk (i + 1) (by omega)
              refine ⟨r :: rows, by simp [q1], fun r' hr' => ?_, ⟨cs, hr1, hcl, fun j v hj => ?_⟩, ?_⟩
              · rcases List.mem_cons.1 hr' with rfl | hr'
                · exact ⟨by rw [← hr1.length, hcl], hr2⟩
                · exact q2 r' hr'
              · have := hcell j (by rw [← hcl]; exact (List.getElem?_eq_some_iff.1 hj).1)
                rw [hj, addr_add, addr_add] at this
                exact this
              · rw [show off + i * P.cellsOf e + P.cellsOf e = off + (i + 1) * P.cellsOf e from by rw [Nat.add_mul]; omega]
                exact q3
          obtain ⟨rows, q1, q2, q3⟩ := build len 0 (by omega)
          rw [Nat.zero_mul, Nat.add_zero] at q3
          refine ⟨[.lst (P.cellsOf e) rows], ⟨⟨some ⟨b, off, none⟩, cap, by rw [q1], by rw [q1]; exact hl, fun e => (by cases e), fun p hp => ?_⟩, trivial⟩, by exact ⟨rows, rfl, by rw [q1]; omega, q2⟩⟩
          simp only [Option.some.injEq] at hp
          subst hp
          exact ⟨.inr rfl, q3⟩
    · rename_i fs hu
      rw [Bool.and_eq_true] at hc
      obtain ⟨xs, n', hn', _, hcl, hxl, hxs⟩ := DataW.trod_struct hu h
      simp only [Nat.add_right_cancel_iff] at hn'
      subst hn'
      have hfl : ∀ f ∈ fs.toList, f.type ∈ ts ∧ ∃ y, DataW.trod enc P w base spare held n f.type ((cs.drop f.offset).take (P.cellsOf f.type)) = some y := by
        intro f hf
        refine ⟨by simpa using List.all_eq_true.1 hc.2 f hf, ?_⟩
        obtain ⟨i, hi⟩ := List.getElem?_of_mem hf
        have hi' : fs[i]? = some f := by simpa using hi
        have hlt : i < xs.length := by rw [hxl]; exact (Array.getElem?_eq_some_iff.1 hi').1
        exact ⟨xs[i], by rw [hxs i f hi', List.getElem?_eq_getElem hlt]⟩
      obtain ⟨ds, hd, hk⟩ := see_fields ih hcl fs.toList 0 hc.1 hfl
      rw [List.drop_zero] at hd
      refine ⟨ds, hd, ?_⟩
      exact ⟨by rw [← hd.length, hcl], fun i f hf => by simpa using hk [] rfl f (Array.mem_toList_iff.2 (Array.mem_of_getElem? hf))⟩
    · cases hc

theorem see_arg {ts : List TypeId} (hp : plainT P ts = true) {t : TypeId} (ht : t ∈ ts) {v : Value} {d : DataW H} {p : List MemPlace} (h : DataW.Trod enc P w base spare held t v d p) :
    ∃ ds, DenDs (Hof w) ds v.cells.toList ∧ ∃ n, okT P n t ds := by
  obtain ⟨fuel, hf⟩ := h
  obtain ⟨ds, h1, h2⟩ := trod_see hp fuel t _ _ ht hf
  exact ⟨ds, h1, fuel, h2⟩

end

/-- All the arguments read as they did, where no old block was written. -/
theorem below_trodAll {H : Type} {enc : TypeId × Value → H} {P : Program} (hl : laidOutB P = true) {W W' : World} (hb : Below W.heap.size W W') :
    ∀ {ts : List TypeId} {vs : List Value} {ds : List (DataW H)} {ps : List MemPlace}, (ts.all fun t => P.readableRec t && Nat.blt t P.types.size) = true → DataW.TrodAll enc P W 0 (fun _ => true) true ts vs ds ps → (∀ x ∈ ps, x.block < W.heap.size) →
      DataW.TrodAll enc P W' 0 (fun b => decide (b < W.heap.size)) true ts vs ds ps
  | [], [], [], _, _, h, _ => h
  | t :: ts, v :: vs, d :: ds, ps, ht, ⟨p, q, h1, h2, e⟩, hlt => by
    simp only [List.all_cons, Bool.and_eq_true] at ht
    exact ⟨p, q, Below.trod hl ht.1.1 (Nat.blt_eq.mp ht.1.2) h1 hb (fun x hx => hlt x (by rw [e]; simp [hx])), below_trodAll hl hb (by simpa using ht.2) h2 (fun x hx => hlt x (by rw [e]; simp [hx])), e⟩
  | [], [], _ :: _, _, _, h, _ => h.elim
  | [], _ :: _, _, _, _, h, _ => h.elim
  | _ :: _, [], _, _, _, h, _ => h.elim
  | _ :: _, _ :: _, [], _, _, h, _ => h.elim

end Go.Eng
