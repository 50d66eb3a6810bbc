/- The proof engine, part 1: symbolic values, what they stand for, symbolic states. -/
import Derived.WalkKit
import Derived.KernelRfl
namespace Go.Eng

/-- The ghost heap of cells that stay as they are: block, offset, value. -/
abbrev Hp := Nat → Nat → Option Value

/-- Plain data of one cell. -/
inductive DV where
  | int (k : IntKind) (n : Int)
  | bl (b : Bool)
  | str (s : ByteArray)
  | val (v : Value)
  | lst (sz : Nat) (rows : List (List DV))

/-- A symbolic value. -/
inductive SV where
  | int (k : IntKind) (n : Int)
  | bl (b : Bool)
  | tt
  | ff
  | str (s : ByteArray)
  | val (v : Value)
  | lst (sz : Nat) (rows : List (List DV))
  | gl (k sz : Nat) (rows : List (List DV))
  | tl (sz : Nat) (rows : List (List DV))
  | arr (k n : Nat)
  | mp (k : Nat)
  | ptr (k off : Nat)
  | rp (row : List DV) (off : Nat)
  | agg (l : List SV)
  | tup (l : List SV)
  | clo (f : Nat) (caps : List SV)
  | any

mutual
def DenD (H : Hp) : DV → Value → Prop
  | .int k n, x => x = .int k n
  | .bl b, x => x = .bool b
  | .str s, x => x = .string s
  | .val v, x => x = v ∧ v.oneCell' = true
  | .lst sz rows, x => ∃ (a : Option Addr) (c : Nat), x = .slice a rows.length c ∧ rows.length ≤ c ∧ (a = none → rows = [] ∧ c = 0) ∧
      ∀ p, a = some p → (rows = [] ∨ p.spot = none) ∧ DenRs H p.block p.off sz rows
def DenDs (H : Hp) : List DV → List Value → Prop
  | [], [] => True
  | d :: ds, v :: vs => DenD H d v ∧ DenDs H ds vs
  | _, _ => False
def DenRs (H : Hp) (b off sz : Nat) : List (List DV) → Prop
  | [] => True
  | r :: rs => (∃ vs, DenDs H r vs ∧ vs.length = sz ∧ ∀ j v, vs[j]? = some v → H b (off + j) = some v) ∧ DenRs H b (off + sz) sz rs
end

mutual
def Den (g : Nat → Value) (H : Hp) : SV → Value → Prop
  | .int k n, x => x = .int k n
  | .bl b, x => x = .bool b
  | .tt, x => x = .bool true
  | .ff, x => x = .bool false
  | .str s, x => x = .string s
  | .val v, x => x = v ∧ v.oneCell' = true
  | .lst sz rows, x => DenD H (.lst sz rows) x
  | .gl k sz rows, x => DenD H (.lst sz rows) x ∧ x = g k
  | .tl sz rows, x => DenD H (.lst sz rows) x ∧ ∃ a, x = .slice a rows.length rows.length
  | .arr k n, x => ∃ b, g k = .pointer (some ⟨b, 0, none⟩) ∧ x = .slice (some ⟨b, 0, none⟩) n n
  | .mp k, x => ∃ q, g k = .map (some q) ∧ x = .map (some q)
  | .ptr k off, x => ∃ b, g k = .pointer (some ⟨b, 0, none⟩) ∧ x = .pointer (some ⟨b, off, none⟩)
  | .rp row off, x => ∃ b o vs, x = .pointer (some ⟨b, o + off, none⟩) ∧ DenDs H row vs ∧ ∀ j v, vs[j]? = some v → H b (o + j) = some v
  | .agg l, x => ∃ cs : List Value, x = .agg cs.toArray ∧ Dens g H l cs
  | .tup l, x => ∃ cs : List Value, x = .tuple cs.toArray ∧ Dens g H l cs
  | .clo f caps, x => ∃ cs : List Value, x = .func (.func f) #[] cs.toArray ∧ Dens g H caps cs
  | .any, _ => True
def Dens (g : Nat → Value) (H : Hp) : List SV → List Value → Prop
  | [], [] => True
  | d :: ds, v :: vs => Den g H d v ∧ Dens g H ds vs
  | _, _ => False
end

def Hp.le (H H' : Hp) : Prop := ∀ b o v, H b o = some v → H' b o = some v
theorem Hp.le_refl (H : Hp) : H.le H := fun _ _ _ h => h
theorem Hp.le_trans {A B C : Hp} (h : A.le B) (k : B.le C) : A.le C := fun b o v x => k b o v (h b o v x)
def Hp.on (H : Hp) (w : World) : Prop := ∀ b o v, H b o = some v → w.cell? ⟨b, o, none⟩ = some v

mutual
theorem DenD.mono {H H' : Hp} (hl : H.le H') : ∀ (d : DV) (x : Value), DenD H d x → DenD H' d x
  | .int _ _, _, h => h
  | .bl _, _, h => h
  | .str _, _, h => h
  | .val _, _, h => h
  | .lst sz rows, x, h => by
    obtain ⟨a, c, e, hc, hn, hp⟩ := h
    exact ⟨a, c, e, hc, hn, fun p hpa => ⟨(hp p hpa).1, DenRs.mono hl p.block p.off sz rows (hp p hpa).2⟩⟩
theorem DenDs.mono {H H' : Hp} (hl : H.le H') : ∀ (ds : List DV) (vs : List Value), DenDs H ds vs → DenDs H' ds vs
  | [], [], _ => trivial
  | d :: ds, v :: vs, h => ⟨DenD.mono hl d v h.1, DenDs.mono hl ds vs h.2⟩
  | [], _ :: _, h => h.elim
  | _ :: _, [], h => h.elim
theorem DenRs.mono {H H' : Hp} (hl : H.le H') (b off sz : Nat) : ∀ (rs : List (List DV)), DenRs H b off sz rs → DenRs H' b off sz rs
  | [], _ => trivial
  | r :: rs, h => by
    obtain ⟨⟨vs, h1, h2, h3⟩, h4⟩ := h
    exact ⟨⟨vs, DenDs.mono hl r vs h1, h2, fun j v hj => hl _ _ _ (h3 j v hj)⟩, DenRs.mono hl b (off + sz) sz rs h4⟩
end

mutual
theorem Den.mono {g : Nat → Value} {H H' : Hp} (hl : H.le H') : ∀ (d : SV) (x : Value), Den g H d x → Den g H' d x
  | .int _ _, _, h => h
  | .bl _, _, h => h
  | .tt, _, h => h
  | .ff, _, h => h
  | .str _, _, h => h
  | .val _, _, h => h
  | .lst sz rows, x, h => DenD.mono hl (.lst sz rows) x h
  | .gl _ sz rows, x, h => ⟨DenD.mono hl (.lst sz rows) x h.1, h.2⟩
  | .tl sz rows, x, h => ⟨DenD.mono hl (.lst sz rows) x h.1, h.2⟩
  | .arr _ _, _, h => h
  | .mp _, _, h => h
  | .ptr _ _, _, h => h
  | .rp row _, x, h => by
    obtain ⟨b, o, vs, h1, h2, h3⟩ := h
    exact ⟨b, o, vs, h1, DenDs.mono hl row vs h2, fun j v hj => hl _ _ _ (h3 j v hj)⟩
  | .agg l, x, h => by obtain ⟨cs, e, h⟩ := h; exact ⟨cs, e, Dens.mono hl l cs h⟩
  | .tup l, x, h => by obtain ⟨cs, e, h⟩ := h; exact ⟨cs, e, Dens.mono hl l cs h⟩
  | .clo _ l, x, h => by obtain ⟨cs, e, h⟩ := h; exact ⟨cs, e, Dens.mono hl l cs h⟩
  | .any, _, _ => trivial
theorem Dens.mono {g : Nat → Value} {H H' : Hp} (hl : H.le H') : ∀ (ds : List SV) (vs : List Value), Dens g H ds vs → Dens g H' ds vs
  | [], [], _ => trivial
  | d :: ds, v :: vs, h => ⟨Den.mono hl d v h.1, Dens.mono hl ds vs h.2⟩
  | [], _ :: _, h => h.elim
  | _ :: _, [], h => h.elim
end

mutual
/-- The value does not name block k. -/
def SV.noK (k : Nat) : SV → Bool
  | .gl j _ _ => !Nat.beq j k
  | .arr j _ => !Nat.beq j k
  | .mp j => !Nat.beq j k
  | .ptr j _ => !Nat.beq j k
  | .agg l => SV.noKs k l
  | .tup l => SV.noKs k l
  | .clo _ l => SV.noKs k l
  | _ => true
def SV.noKs (k : Nat) : List SV → Bool
  | [] => true
  | s :: l => bif SV.noK k s then SV.noKs k l else false
end

theorem beq_ne {j k : Nat} (h : (!Nat.beq j k) = true) : j ≠ k := by
  intro e
  subst e
  simp at h

mutual
theorem Den.upd {g g' : Nat → Value} {H : Hp} {k : Nat} (hg : ∀ j, j ≠ k → g' j = g j) : ∀ (d : SV) (x : Value), SV.noK k d = true → Den g H d x → Den g' H d x
  | .int _ _, _, _, h => h
  | .bl _, _, _, h => h
  | .tt, _, _, h => h
  | .ff, _, _, h => h
  | .str _, _, _, h => h
  | .val _, _, _, h => h
  | .lst _ _, _, _, h => h
  | .gl j sz rows, x, hn, h => ⟨h.1, by rw [hg j (beq_ne hn)]; exact h.2⟩
  | .tl _ _, _, _, h => h
  | .arr j _, _, hn, h => by obtain ⟨b, h1, h2⟩ := h; exact ⟨b, by rw [hg j (beq_ne hn)]; exact h1, h2⟩
  | .mp j, _, hn, h => by obtain ⟨b, h1, h2⟩ := h; exact ⟨b, by rw [hg j (beq_ne hn)]; exact h1, h2⟩
  | .ptr j _, _, hn, h => by obtain ⟨b, h1, h2⟩ := h; exact ⟨b, by rw [hg j (beq_ne hn)]; exact h1, h2⟩
  | .rp _ _, _, _, h => h
  | .agg l, _, hn, h => by obtain ⟨cs, e, h⟩ := h; exact ⟨cs, e, Dens.upd hg l cs hn h⟩
  | .tup l, _, hn, h => by obtain ⟨cs, e, h⟩ := h; exact ⟨cs, e, Dens.upd hg l cs hn h⟩
  | .clo _ l, _, hn, h => by obtain ⟨cs, e, h⟩ := h; exact ⟨cs, e, Dens.upd hg l cs hn h⟩
  | .any, _, _, _ => trivial
theorem Dens.upd {g g' : Nat → Value} {H : Hp} {k : Nat} (hg : ∀ j, j ≠ k → g' j = g j) : ∀ (ds : List SV) (vs : List Value), SV.noKs k ds = true → Dens g H ds vs → Dens g' H ds vs
  | [], [], _, _ => trivial
  | d :: ds, v :: vs, hn, h => by
    have h1 : SV.noK k d = true := by
      cases hd : SV.noK k d with
      | true => rfl
      | false => simp [SV.noKs, hd] at hn
    have h2 : SV.noKs k ds = true := by simpa [SV.noKs, h1] using hn
    exact ⟨Den.upd hg d v h1 h.1, Dens.upd hg ds vs h2 h.2⟩
  | [], _ :: _, _, h => h.elim
  | _ :: _, [], _, h => h.elim
end

/-- One cell. -/
def SV.one : SV → Bool
  | .agg _ => false
  | .tup _ => false
  | .any => false
  | _ => true

theorem DenD.oneCell {H : Hp} {d : DV} {x : Value} (h : DenD H d x) : x.oneCell' = true := by
  cases d with
  | int k n => rw [show x = .int k n from h]; rfl
  | bl b => rw [show x = .bool b from h]; rfl
  | str s => rw [show x = .string s from h]; rfl
  | val v => obtain ⟨e, h⟩ := (show x = v ∧ _ from h); rw [e]; exact h
  | lst sz rows => obtain ⟨a, c, e, _⟩ := h; rw [e]; rfl

theorem Den.oneCell {g : Nat → Value} {H : Hp} {d : SV} {x : Value} (h : Den g H d x) (h1 : d.one = true) : x.oneCell' = true := by
  cases d with
  | int k n => rw [show x = .int k n from h]; rfl
  | bl b => rw [show x = .bool b from h]; rfl
  | tt => rw [show x = .bool true from h]; rfl
  | ff => rw [show x = .bool false from h]; rfl
  | str s => rw [show x = .string s from h]; rfl
  | val v => obtain ⟨e, h⟩ := (show x = v ∧ _ from h); rw [e]; exact h
  | lst sz rows => exact DenD.oneCell (d := .lst sz rows) h
  | gl k sz rows => exact DenD.oneCell (d := .lst sz rows) h.1
  | tl sz rows => exact DenD.oneCell (d := .lst sz rows) h.1
  | arr k n => obtain ⟨b, _, e⟩ := h; rw [e]; rfl
  | mp k => obtain ⟨b, _, e⟩ := h; rw [e]; rfl
  | ptr k off => obtain ⟨b, _, e⟩ := h; rw [e]; rfl
  | rp row off => obtain ⟨b, o, vs, e, _⟩ := h; rw [e]; rfl
  | agg l => simp [SV.one] at h1
  | tup l => simp [SV.one] at h1
  | clo f l => obtain ⟨cs, e, _⟩ := h; rw [e]; rfl
  | any => simp [SV.one] at h1

def SV.ones : List SV → Bool
  | [] => true
  | s :: l => bif s.one then SV.ones l else false

theorem Dens.oneCells {g : Nat → Value} {H : Hp} : ∀ {ds : List SV} {vs : List Value}, Dens g H ds vs → SV.ones ds = true → ∀ v ∈ vs, v.oneCell' = true
  | [], [], _, _, v, hv => by cases hv
  | d :: ds, x :: vs, h, h1, v, hv => by
    have hd : d.one = true := by
      cases hd : d.one with
      | true => rfl
      | false => simp [SV.ones, hd] at h1
    have h2 : SV.ones ds = true := by simpa [SV.ones, hd] using h1
    rcases List.mem_cons.1 hv with rfl | hv
    · exact h.1.oneCell hd
    · exact Dens.oneCells h.2 h2 v hv
  | [], _ :: _, h, _, _, _ => h.elim
  | _ :: _, [], h, _, _, _ => h.elim

theorem Dens.length {g : Nat → Value} {H : Hp} : ∀ {ds : List SV} {vs : List Value}, Dens g H ds vs → vs.length = ds.length
  | [], [], _ => rfl
  | _ :: _, _ :: _, h => by simp [Dens.length h.2]
  | [], _ :: _, h => h.elim
  | _ :: _, [], h => h.elim

theorem DenDs.length {H : Hp} : ∀ {ds : List DV} {vs : List Value}, DenDs H ds vs → vs.length = ds.length
  | [], [], _ => rfl
  | _ :: _, _ :: _, h => by simp [DenDs.length h.2]
  | [], _ :: _, h => h.elim
  | _ :: _, [], h => h.elim

/-- An object of the function's own. -/
inductive SO where
  | cells (ty : Nat) (cs : List SV)
  | tok (sz : Nat)
  | obj (f : Hp → Obj → Prop)

def nth : List (Nat × SV) → Nat → SV
  | [], _ => .any
  | (i, x) :: l, n => bif Nat.beq i n then x else nth l n
def ownq : List (Nat × SO) → Nat → Option SO
  | [], _ => none
  | (i, x) :: l, n => bif Nat.beq i n then some x else ownq l n

/-- What a function was called with: the world, the ghost heap, the handles; which blocks it may write. -/
structure Cx where
  w0 : World
  H0 : Hp
  g0 : Nat → Value
  m0 : Nat
  X : Nat → Prop

def blkOf : Value → Option Nat
  | .pointer (some p) => some p.block
  | .slice (some p) n c => bif Nat.blt n c then some p.block else none
  | .map (some r) => some r
  | _ => none

def Cx.mine (cx : Cx) (b : Nat) : Prop := cx.w0.heap.size ≤ b ∨ cx.X b

def OwnOk (mine : Nat → Prop) (g : Nat → Value) (H : Hp) (w : World) (k : Nat) : SO → Prop
  | .cells ty cs => ∃ b vs, g k = .pointer (some ⟨b, 0, none⟩) ∧ Dens g H cs vs ∧ (∀ v ∈ vs, v.oneCell' = true) ∧ w.heap[b]? = some (.cells vs.toArray ty (0, 0)) ∧
      (∀ o, H b o = none) ∧ mine b
  | .tok sz => ∃ (a : Option Addr) (n c : Nat), g k = .slice a n c ∧ (a = none → n = 0 ∧ c = 0) ∧ n ≤ c ∧ ∀ p, a = some p → n < c → p.spot = none ∧ mine p.block ∧
      ∃ cs ty, w.heap[p.block]? = some (.cells cs ty (0, 0)) ∧ p.off + c * sz ≤ cs.size ∧ ∀ j, p.off + n * sz ≤ j → H p.block j = none
  | .obj f => ∃ r o, g k = .map (some r) ∧ w.heap[r]? = some o ∧ (∀ H', H.le H' → f H' o) ∧ (∀ o, H r o = none) ∧ mine r

structure Base (cx : Cx) (g : Nat → Value) (H : Hp) (w : World) : Prop where
  os : w.os = cx.w0.os
  tape : w.tape = cx.w0.tape
  output : w.output = cx.w0.output
  size : cx.w0.heap.size ≤ w.heap.size
  block : ∀ b, b < cx.w0.heap.size → ¬ cx.X b → w.heap[b]? = cx.w0.heap[b]?
  hold : ∀ b, b < cx.w0.heap.size → ¬ cx.X b → ∀ o, H b o = cx.H0 b o
  le : cx.H0.le H
  fix : ∀ k, k < cx.m0 → g k = cx.g0 k
  froz : ∀ a, w.frozen? a = cx.w0.frozen? a

structure Dn (cx : Cx) (g : Nat → Value) (H : Hp) (env : List (Nat × SV)) (own : List (Nat × SO)) (n : Nat) (tmps : Array Value) (w : World) : Prop where
  size : tmps.size = n
  den : ∀ t, Den g H (nth env t) (tmps.getD t undef)
  ok : ∀ k o, ownq own k = some o → OwnOk cx.mine g H w k o
  inj : ∀ k j, (ownq own k).isSome = true → (ownq own j).isSome = true → ∀ b, blkOf (g k) = some b → blkOf (g j) = some b → k = j
  hp : H.on w
  base : Base cx g H w

end Go.Eng
