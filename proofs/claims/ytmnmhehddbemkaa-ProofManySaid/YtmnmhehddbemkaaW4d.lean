import Derived.Test.YtmnmhehddbemkaaW4c
namespace Go.Proofs.Ytmnmhehddbemkaa
open Go Go.Eng

def sgI (a b : Int) : Int := if a < b then -1 else if b < a then 1 else 0
def sgS (a b : ByteArray) : Int := if slt a b then -1 else if !(slt a b || seq a b) then 1 else 0
def orI (c d : Int) : Int := if c = 0 then d else c
mutual
def ordT : Tm → Tm → Int
  | .mk k n s l, .mk k' n' s' l' => orI (orI (orI (orI (sgI k k') (sgI n n')) (sgS s s')) (ordL l l')) (sgI l.length l'.length)
def ordL : List Tm → List Tm → Int
  | t :: l, u :: m => orI (ordT t u) (ordL l m)
  | _, _ => 0
end
theorem orI_0 (c : Int) : orI c 0 = c := by unfold orI; split <;> omega
theorem orI_ne {c d : Int} (h : c ≠ 0) : orI c d = c := if_neg h
theorem orI_00 (d : Int) : orI 0 d = d := if_pos rfl

theorem sign_fn (a b : Bool) : Gives Try.prog 101 [.bl a, .bl b] (I (if a then -1 else if b then 1 else 0)) := by
  refine contract_of ty_ok [0, 1, 2, 3, 4, 5, 6, 7] Try.func101 rfl (by decide) Try.ntmps101 rfl fun z => ?_
  refine run 400 rfl ?_
  refine at_if rfl (fun h1 => ?_) (fun h1 => ?_)
  · refine run 400 rfl ?_
    exact at_ret rfl rfl [] ⟨by simp [h1], rfl, rfl⟩ trivial
  · refine run 400 rfl ?_
    refine at_if rfl (fun h2 => ?_) (fun h2 => ?_)
    · refine run 400 rfl ?_
      exact at_ret rfl rfl [] ⟨by simp [h1, h2], rfl, rfl⟩ trivial
    · refine run 400 rfl ?_
      exact at_ret rfl rfl [] ⟨by simp [h1, h2], rfl, rfl⟩ trivial
theorem signI_fn (a b : Int) : Gives Try.prog 101 [.bl (decide (a < b)), .bl (decide (b < a))] (I (sgI a b)) := by
  have := sign_fn (decide (a < b)) (decide (b < a))
  simpa [sgI] using this
theorem signS_fn (a b : ByteArray) : Gives Try.prog 101 [.bl (slt a b), .bl (!(slt a b || seq a b))] (I (sgS a b)) := sign_fn _ _

abbrev ptrs (a b : Tm) : List (Nat × SO) := [(0, .cells 33 [I a.k, I a.n, .str a.s, .lst 4 (rowsT a.kids)]), (1, .cells 33 [I b.k, I b.n, .str b.s, .lst 4 (rowsT b.kids)])]

set_option maxRecDepth 100000 in
theorem order_fn : ∀ (a b : Tm), a.kids.length ≤ 1000000 → (∀ t : Tm, t ∈ a.kids → ∀ u : Tm, Gives Try.prog 78 [t.sv, u.sv] (I (ordT t u))) → Gives Try.prog 78 [a.sv, b.sv] (I (ordT a b)) := by
  intro a b hla ih
  obtain ⟨k, n, s, l⟩ := a
  obtain ⟨k', n', s', l'⟩ := b
  have hla : l.length ≤ 1000000 := hla
  have hl1 : ((rowsT l).length : Int) = l.length := by rw [rowsT_len]
  have hl2 : ((rowsT l').length : Int) = l'.length := by rw [rowsT_len]
  refine contract_of ty_ok [0, 1, 2, 3, 4, 5, 6, 7] Try.func78 rfl (by decide) Try.ntmps78 rfl fun z => ?_
  refine run 400 rfl ?_
  refine at_fn (signI_fn k k') rfl ?_
  refine run 400 rfl ?_
  refine at_join (fun c => c = orI (sgI k k') (sgI n n')) (fun c => [(2, .ptr 0 0), (3, .ptr 1 0), (5, I c)]) (fun _ => ptrs (.mk k n s l) (.mk k' n' s' l')) [2, 3, 4, 5] ?_ ?_
  · refine at_if rfl (fun h => ?_) (fun h => ?_)
    · refine run 400 rfl ?_
      refine at_fn (signI_fn n n') rfl ?_
      refine run 400 rfl ?_
      exact at_joined _ (by simp at h; rw [h, orI_00]) ⟨SVle.refl _, SVle.refl _, SVle.refl _, trivial⟩ ⟨rfl, rfl, trivial⟩
    · refine run 400 rfl ?_
      exact at_joined _ (by simp at h; rw [orI_ne h]) ⟨SVle.refl _, SVle.refl _, SVle.refl _, trivial⟩ ⟨rfl, rfl, trivial⟩
  intro c1 hc1
  refine run 400 rfl ?_
  refine at_join (fun c => c = orI c1 (sgS s s')) (fun c => [(2, .ptr 0 0), (3, .ptr 1 0), (5, I c)]) (fun _ => ptrs (.mk k n s l) (.mk k' n' s' l')) [2, 3, 4, 5] ?_ ?_
  · refine at_if rfl (fun h => ?_) (fun h => ?_)
    · refine run 400 rfl ?_
      refine at_fn (signS_fn s s') rfl ?_
      refine run 400 rfl ?_
      exact at_joined _ (by simp at h; rw [h, orI_00]) ⟨SVle.refl _, SVle.refl _, SVle.refl _, trivial⟩ ⟨rfl, rfl, trivial⟩
    · refine run 400 rfl ?_
      exact at_joined _ (by simp at h; rw [orI_ne h]) ⟨SVle.refl _, SVle.refl _, SVle.refl _, trivial⟩ ⟨rfl, rfl, trivial⟩
  intro c2 hc2
  refine run 400 rfl ?_
  have hT : ordT (.mk k n s l) (.mk k' n' s' l') = orI (orI c2 (ordL l l')) (sgI l.length l'.length) := by rw [ordT, hc2, hc1]
  refine at_loop (fun x : Int × Int => 0 ≤ x.1 ∧ x.1 ≤ l.length ∧ orI x.2 (ordL (l.drop x.1.toNat) (l'.drop x.1.toNat)) = orI c2 (ordL l l'))
    (fun x => [(2, .ptr 0 0), (3, .ptr 1 0), (5, I x.2), (6, I x.1)]) (fun _ => ptrs (.mk k n s l) (.mk k' n' s' l')) (fun x => (l.length - x.1).toNat) [2, 3, 4, 5]
    (0, c2) ⟨by omega, by dsimp only; omega, by simp⟩ ⟨SVle.refl _, SVle.refl _, SVle.refl _, SVle.refl _, trivial⟩ ⟨rfl, rfl, trivial⟩ ?_
  rintro ⟨i, c⟩ ⟨a1, a2, a3⟩
  dsimp only at a1 a2 a3
  refine run 400 rfl ?_
  refine at_split 49 rfl (fun h => ?_) (fun h => ?_)
  rotate_left
  · rw [hl1, decide_eq_false_iff_not] at h
    dsimp only at h
    have hfin : c = orI c2 (ordL l l') := by
      rw [← a3, List.drop_eq_nil_of_le (by omega)]
      cases l'.drop i.toNat <;> simp [ordL, orI_0]
    refine run 400 rfl ?_
    refine at_if rfl (fun g => ?_) (fun g => ?_)
    · refine run 400 rfl ?_
      refine at_fn (signI_fn (rowsT l).length (rowsT l').length) rfl ?_
      refine run 400 rfl ?_
      exact at_ret rfl rfl [] ⟨by simp at g; rw [hT, ← hfin, g, orI_00, hl1, hl2], rfl, rfl⟩ trivial
    · refine run 400 rfl ?_
      exact at_ret rfl rfl [] ⟨by simp at g; rw [hT, ← hfin, orI_ne g], rfl, rfl⟩ trivial
  rw [hl1, decide_eq_true_eq] at h
  dsimp only at h
  refine run 400 rfl ?_
  refine at_split 56 rfl (fun h2 => ?_) (fun h2 => ?_)
  rotate_left
  · rw [hl2, decide_eq_false_iff_not] at h2
    dsimp only at h2
    have hfin : c = orI c2 (ordL l l') := by
      have e : l'.drop i.toNat = [] := List.drop_eq_nil_of_le (by omega)
      rw [← a3, e]
      cases l.drop i.toNat <;> simp [ordL, orI_0]
    refine run 400 rfl ?_
    refine at_if rfl (fun g => ?_) (fun g => ?_)
    · refine run 400 rfl ?_
      refine at_fn (signI_fn (rowsT l).length (rowsT l').length) rfl ?_
      refine run 400 rfl ?_
      exact at_ret rfl rfl [] ⟨by simp at g; rw [hT, ← hfin, g, orI_00, hl1, hl2], rfl, rfl⟩ trivial
    · refine run 400 rfl ?_
      exact at_ret rfl rfl [] ⟨by simp at g; rw [hT, ← hfin, orI_ne g], rfl, rfl⟩ trivial
  rw [hl2, decide_eq_true_eq] at h2
  dsimp only at h2
  refine run 400 rfl ?_
  refine at_if rfl (fun h3 => ?_) (fun h3 => ?_)
  rotate_left
  · have hfin : c = orI c2 (ordL l l') := by
      simp at h3
      rw [← a3, orI_ne h3]
    refine run 400 rfl ?_
    refine at_if rfl (fun g => ?_) (fun g => ?_)
    · refine run 400 rfl ?_
      refine at_fn (signI_fn (rowsT l).length (rowsT l').length) rfl ?_
      refine run 400 rfl ?_
      exact at_ret rfl rfl [] ⟨by simp at g; rw [hT, ← hfin, g, orI_00, hl1, hl2], rfl, rfl⟩ trivial
    · refine run 400 rfl ?_
      exact at_ret rfl rfl [] ⟨by simp at g; rw [hT, ← hfin, orI_ne g], rfl, rfl⟩ trivial
  have hc : c = 0 := by simpa using h3
  subst hc
  have hlt : i.toNat < l.length := by omega
  have hlt2 : i.toNat < l'.length := by omega
  have hget := rowsT_get hlt
  have hget2 := rowsT_get hlt2
  have hmem := getD_mem hlt
  rw [drop_getD hlt, drop_getD hlt2] at a3
  generalize l.getD i.toNat .zero = u at hget hmem a3
  generalize l'.getD i.toNat .zero = v at hget2 a3
  rw [ordL, orI_00] at a3
  have hcall := ih u hmem v
  refine run 400 rfl ?_
  refine at_drawn 11 rfl rfl [(3, .val (.rp [.int .i64 u.k, .int .i64 u.n, .str u.s, .lst 4 (rowsT u.kids)] 0)), (8, .val (.rp [.int .i64 v.k, .int .i64 v.n, .str v.s, .lst 4 (rowsT v.kids)] 0)), (10, .sv (I (ordT u v)))] [20, 21, 22] rfl
    ⟨hcall, does_index ty_ok _ rfl rfl rfl a1 hget2 rfl, does_index ty_ok _ rfl rfl rfl a1 hget rfl⟩ ?_
  refine run 400 rfl ?_
  exact at_again (i + 1, ordT u v) ⟨by dsimp only; omega, by dsimp only; omega, by dsimp only; rw [← a3]; congr 3 <;> omega⟩ (by dsimp only; omega) ⟨SVle.refl _, SVle.refl _, SVle.refl _, SVle.refl _, trivial⟩ ⟨rfl, rfl, trivial⟩

/-- Not too many kids, here and below. -/
inductive Sm : Tm → Prop
  | mk {k n : Int} {s : ByteArray} {l : List Tm} (h : l.length ≤ 1000000) (hl : ∀ t ∈ l, Sm t) : Sm (.mk k n s l)

theorem ord_fn (a b : Tm) (h : Sm a) : Gives Try.prog 78 [a.sv, b.sv] (I (ordT a b)) := by
  induction a using Tm.ind generalizing b with
  | h k n s l ih =>
    cases h with
    | mk h1 h2 => exact order_fn _ b h1 fun t ht u => ih t ht u (h2 t ht)

theorem bytesLess_self : ∀ l : List UInt8, Op.bytesLess l l = false
  | [] => rfl
  | a :: l => by simp [Op.bytesLess, bytesLess_self l, UInt8.lt_irrefl]
theorem slt_self (a : ByteArray) : slt a a = false := bytesLess_self _
theorem seq_self (a : ByteArray) : seq a a = true := by simp [seq]
theorem loop_eq (a : ByteArray) (n i : Nat) (r : List UInt8) (h : a.size - i = n) : ByteArray.toList.loop a i r = r.reverse ++ a.data.toList.drop i := by
  induction n generalizing i r with
  | zero =>
    unfold ByteArray.toList.loop
    rw [if_neg (by omega), List.drop_eq_nil_of_le (by simp; have : a.size = a.data.size := rfl; omega)]
    simp
  | succ n ih =>
    unfold ByteArray.toList.loop
    have hlt : i < a.size := by omega
    rw [if_pos hlt, ih (i + 1) _ (by omega)]
    have hlt' : i < a.data.toList.length := by simpa using hlt
    rw [List.drop_eq_getElem_cons hlt']
    simp [ByteArray.get!, hlt]
theorem bytes_ext {a b : ByteArray} (h : a.toList = b.toList) : a = b := by
  unfold ByteArray.toList at h
  rw [loop_eq a _ 0 [] rfl, loop_eq b _ 0 [] rfl] at h
  simp at h
  cases a; cases b
  simpa using h
theorem seq_eq {a b : ByteArray} (h : seq a b = true) : a = b := bytes_ext (by simpa [seq] using h)

mutual
theorem ordT_self : ∀ a : Tm, ordT a a = 0
  | .mk k n s l => by rw [ordT, ordL_self l]; simp [sgI, sgS, slt_self, seq_self, orI]
theorem ordL_self : ∀ l : List Tm, ordL l l = 0
  | [] => by rw [ordL]; intros; simp_all
  | t :: l => by rw [ordL, ordT_self t, ordL_self l]; rfl
end
theorem sgI_eq {a b : Int} (h : sgI a b = 0) : a = b := by
  unfold sgI at h
  split at h
  · omega
  · split at h <;> omega
theorem sgS_eq {a b : ByteArray} (h : sgS a b = 0) : a = b := by
  unfold sgS at h
  split at h
  · omega
  · split at h
    · omega
    · rename_i h1 h2
      simp at h1 h2
      exact seq_eq (by simpa [h1] using h2)
theorem orI_eq {c d : Int} (h : orI c d = 0) : c = 0 ∧ d = 0 := by
  unfold orI at h
  split at h
  · exact ⟨by assumption, h⟩
  · omega
theorem ordL_eq (l : List Tm) (ih : ∀ t ∈ l, ∀ u, ordT t u = 0 → t = u) : ∀ m : List Tm, l.length = m.length → ordL l m = 0 → l = m := by
  induction l with
  | nil => intro m h _; cases m with
    | nil => rfl
    | cons _ _ => simp at h
  | cons t l ihl =>
    intro m h h0
    cases m with
    | nil => simp at h
    | cons u m =>
      rw [ordL] at h0
      obtain ⟨h1, h2⟩ := orI_eq h0
      rw [ih t (by simp) u h1, ihl (fun t ht => ih t (by simp [ht])) m (by simpa using h) h2]
theorem ordT_eq : ∀ (a b : Tm), ordT a b = 0 → a = b := by
  intro a
  induction a using Tm.ind with
  | h k n s l ih =>
    intro b h
    obtain ⟨k', n', s', l'⟩ := b
    rw [ordT] at h
    obtain ⟨h, h5⟩ := orI_eq h
    obtain ⟨h, h4⟩ := orI_eq h
    obtain ⟨h, h3⟩ := orI_eq h
    obtain ⟨h1, h2⟩ := orI_eq h
    have := sgI_eq h5
    rw [sgI_eq h1, sgI_eq h2, sgS_eq h3, ordL_eq l ih l' (by omega) h4]

def same (a b : Tm) : Bool := ordT a b == 0
theorem same_iff {a b : Tm} : same a b = true ↔ a = b := by
  unfold same
  rw [beq_iff_eq]
  exact ⟨ordT_eq a b, fun h => by rw [h]; exact ordT_self b⟩

theorem same_fn (a b : Tm) (h : Sm a) : Gives Try.prog 46 [a.sv, b.sv] (.bl (same a b)) := by
  refine contract_of ty_ok [0, 1, 2, 3, 4, 5, 6, 7] Try.func46 rfl (by decide) Try.ntmps46 rfl fun z => ?_
  refine run 400 rfl ?_
  refine at_fn (ord_fn a b h) rfl ?_
  refine run 400 rfl ?_
  exact at_ret rfl rfl [] ⟨rfl, rfl, rfl⟩ trivial
theorem less_fn (a b : Tm) (h : Sm a) : Gives Try.prog 48 [a.sv, b.sv] (.bl (decide (ordT a b < 0))) := by
  refine contract_of ty_ok [0, 1, 2, 3, 4, 5, 6, 7] Try.func48 rfl (by decide) Try.ntmps48 rfl fun z => ?_
  refine run 400 rfl ?_
  refine at_fn (ord_fn a b h) rfl ?_
  refine run 400 rfl ?_
  exact at_ret rfl rfl [] ⟨rfl, rfl, rfl⟩ trivial
end Go.Proofs.Ytmnmhehddbemkaa
