/- The texts W4c, W4d, W4e, W4f, W4g, W4h, W4i, W4j, W4k, W4l, W4m, W4n, W4o, one behind the other: an executor over the translated code, contracts of functions, and their laws. -/

import Derived.Test.YtmnmhehddbemkaaTermC4
namespace Go.Proofs.Ytmnmhehddbemkaa
open Go Go.Eng

theorem Tm.ind {P : Tm → Prop} (h : ∀ k n s l, (∀ t ∈ l, P t) → P (.mk k n s l)) (t : Tm) : P t :=
  Tm.rec (motive_1 := P) (motive_2 := fun l => ∀ t ∈ l, P t) (fun k n s l ih => h k n s l ih) (fun t ht => by cases ht) (fun x l hx hl t ht => by
    rcases List.mem_cons.1 ht with rfl | ht
    · exact hx
    · exact hl t ht) t

mutual
def mayT : Tm → Int → Int → Bool × Int
  | .mk k n s l, d, c => if 64 < c + 1 then (false, c + 1) else if 16 < d then (false, c + 1) else if rightF (.mk k n s l) = false then (false, c + 1) else mayL l (d + 1) (c + 1)
def mayL : List Tm → Int → Int → Bool × Int
  | [], _, c => (true, c)
  | t :: l, d, c => match mayT t d c with
    | (true, c') => mayL l d c'
    | (false, c') => (false, c')
end

theorem mayL_le (l : List Tm) (hl : ∀ t ∈ l, ∀ d c : Int, 0 ≤ c → c ≤ 64 → c < (mayT t d c).2 ∧ (mayT t d c).2 ≤ 65 ∧ ((mayT t d c).1 = true → (mayT t d c).2 ≤ 64)) :
    ∀ d c : Int, 0 ≤ c → c ≤ 64 → c ≤ (mayL l d c).2 ∧ (mayL l d c).2 ≤ 65 ∧ ((mayL l d c).1 = true → (mayL l d c).2 ≤ 64) := by
  induction l with
  | nil => intro d c h0 h1; simp only [mayL]; omega
  | cons t l ih =>
    intro d c h0 h1
    have ht := hl t (by simp) d c h0 h1
    have ih := ih (fun t h => hl t (by simp [h]))
    simp only [mayL]
    rcases hm : mayT t d c with ⟨b, c'⟩
    rw [hm] at ht
    dsimp only at ht
    cases b with
    | true =>
      have h64 := ht.2.2 rfl
      have := ih d c' (by omega) h64
      dsimp only
      exact ⟨by omega, this.2⟩
    | false =>
      dsimp only
      exact ⟨by omega, ht.2.1, fun h => by cases h⟩

theorem mayT_le : ∀ (t : Tm) (d c : Int), 0 ≤ c → c ≤ 64 → c < (mayT t d c).2 ∧ (mayT t d c).2 ≤ 65 ∧ ((mayT t d c).1 = true → (mayT t d c).2 ≤ 64) := by
  intro t
  induction t using Tm.ind with
  | h k n s l ih =>
    intro d c h0 h1
    simp only [mayT]
    split
    · exact ⟨by dsimp only; omega, by dsimp only; omega, fun h => by cases h⟩
    split
    · exact ⟨by dsimp only; omega, by dsimp only; omega, fun h => by cases h⟩
    split
    · exact ⟨by dsimp only; omega, by dsimp only; omega, fun h => by cases h⟩
    · have := mayL_le l ih (d + 1) (c + 1) (by omega) (by omega)
      exact ⟨by omega, this.2⟩

theorem kidsF_le (k : Int) : kidsF k ≤ 2 := by
  unfold kidsF
  repeat' split
  all_goals omega
theorem right_len {t : Tm} (h : rightF t = true) : (t.kids.length : Int) ≤ 2 := by
  unfold rightF at h
  rw [Bool.and_eq_true, Bool.and_eq_true] at h
  have h1 : (t.kids.length : Int) = kidsF t.k := by simpa using h.1.1
  rw [h1]
  exact kidsF_le _

abbrev mayPre (c : Int) : List (Nat × SO) := [(0, .cells 3 [I c]), (1, .cells 90 [.clo 67 [.ptr 0 0, .ptr 1 0]])]

theorem getD_mem {l : List Tm} {n : Nat} (h : n < l.length) : l.getD n .zero ∈ l := by
  rw [List.getD_eq_getElem?_getD, List.getElem?_eq_getElem h]
  exact List.getElem_mem h
theorem drop_getD {l : List Tm} {n : Nat} (h : n < l.length) : l.drop n = l.getD n .zero :: l.drop (n + 1) := by
  rw [List.getD_eq_getElem?_getD, List.getElem?_eq_getElem h, List.drop_eq_getElem_cons h]
  rfl

set_option maxRecDepth 100000 in
theorem may1_fn : ∀ (t : Tm) (d c : Int), 0 ≤ c → c ≤ 64 → 0 ≤ d → d ≤ 17 → Contract Try.prog 67 2 (mayPre c) [t.sv, I d, .ptr 0 0, .ptr 1 0] fun s post =>
    ∃ x : Bool, x = (mayT t d c).1 ∧ s = cond x .tt .ff ∧ post = mayPre (mayT t d c).2 := by
  intro t
  induction t using Tm.ind with
  | h k n s l ih =>
    intro d c h0 h1 h2 h3
    have hlen : (rowsT l).length = l.length := rowsT_len l
    refine contract_of ty_ok [2, 3, 4, 5, 6, 7] Try.func67 rfl (by decide) Try.ntmps67 rfl fun z => ?_
    refine run 400 rfl ?_
    refine at_split 12 rfl (fun g1 => ?_) (fun g1 => ?_)
    · rw [decide_eq_true_eq] at g1
      refine run 400 rfl ?_
      exact at_ret rfl rfl (mayPre (c + 1)) ⟨false, by simp [mayT, g1], rfl, by simp [mayT, g1]⟩ ⟨rfl, rfl, trivial⟩
    · rw [decide_eq_false_iff_not] at g1
      refine run 400 rfl ?_
      refine at_split 16 rfl (fun g2 => ?_) (fun g2 => ?_)
      · rw [decide_eq_true_eq] at g2
        refine run 400 rfl ?_
        exact at_ret rfl rfl (mayPre (c + 1)) ⟨false, by simp [mayT, g1, g2], rfl, by simp [mayT, g1, g2]⟩ ⟨rfl, rfl, trivial⟩
      · rw [decide_eq_false_iff_not] at g2
        refine run 400 rfl ?_
        refine at_fn (right_fn (.mk k n s l)) rfl ?_
        refine run 400 rfl ?_
        refine at_if rfl (fun g3 => ?_) (fun g3 => ?_)
        · simp only [Bool.not_eq_true'] at g3
          refine run 400 rfl ?_
          exact at_ret rfl rfl (mayPre (c + 1)) ⟨false, by simp [mayT, g1, g2, g3], rfl, by simp [mayT, g1, g2, g3]⟩ ⟨rfl, rfl, trivial⟩
        · simp only [Bool.not_eq_false'] at g3
          refine run 400 rfl ?_
          have hT : mayT (.mk k n s l) d c = mayL l (d + 1) (c + 1) := by simp only [mayT, g3]; rw [if_neg g1, if_neg g2]; simp
          have hk2 : (l.length : Int) ≤ 2 := right_len g3
          have hlen0 : ((rowsT l).length : Int) = l.length := by rw [hlen]
          refine at_loop (fun x : Int × Int => 0 ≤ x.1 ∧ x.1 ≤ l.length ∧ 0 ≤ x.2 ∧ x.2 ≤ 64 ∧ mayL l (d + 1) (c + 1) = mayL (l.drop x.1.toNat) (d + 1) x.2)
            (fun x => [(1, I d), (2, .ptr 0 0), (3, .ptr 1 0), (4, .ptr 2 0), (23, I (rowsT l).length), (24, I x.1)]) (fun x => [(2, .cells 33 [I k, I n, .str s, .lst 4 (rowsT l)]), (0, .cells 3 [I x.2]), (1, .cells 90 [.clo 67 [.ptr 0 0, .ptr 1 0]])]) (fun x => (l.length - x.1).toNat) [3, 4, 5, 6, 7]
            (0, c + 1) ⟨by omega, by dsimp only; omega, by dsimp only; omega, by dsimp only; omega, by simp⟩ ⟨SVle.refl _, SVle.refl _, SVle.refl _, SVle.refl _, SVle.refl _, SVle.refl _, trivial⟩ ⟨rfl, rfl, rfl, trivial⟩ ?_
          rintro ⟨i, ci⟩ ⟨a1, a2, a3, a4, a5⟩
          dsimp only at a1 a2 a3 a4 a5
          refine run 400 rfl ?_
          refine at_ifd rfl (fun q => ?_) (fun q => ?_)
          rotate_left
          · dsimp only at q
            rw [hlen0] at q
            refine run 400 rfl ?_
            have e : l.drop i.toNat = [] := List.drop_eq_nil_of_le (by omega)
            rw [e] at a5
            simp only [mayL] at a5
            exact at_ret rfl rfl (mayPre ci) ⟨true, by rw [hT, a5], rfl, by rw [hT, a5]⟩ ⟨rfl, rfl, trivial⟩
          dsimp only at q
          rw [hlen0] at q
          have hlt : i.toNat < l.length := by omega
          have hget := rowsT_get hlt
          have hmem := getD_mem hlt
          have hdrop := drop_getD hlt
          generalize l.getD i.toNat .zero = u at hget hmem hdrop
          rw [hdrop] at a5
          simp only [mayL] at a5
          have hu := mayT_le u (d + 1) ci a3 a4
          have hcall := ih u hmem (d + 1) ci a3 a4 (by omega) (by omega)
          refine run 400 rfl ?_
          refine at_drawn 8 rfl rfl [(4, .val (.rp [.int .i64 u.k, .int .i64 u.n, .str u.s, .lst 4 (rowsT u.kids)] 0))] [20, 21, 22] rfl ⟨by show _ ∧ _; omega, does_index ty_ok _ rfl rfl rfl a1 hget rfl⟩ ?_
          refine at_met2 0 1 hcall rfl rfl rfl (fun _ => rfl) ?_
          intro x hx
          rcases hm : mayT u (d + 1) ci with ⟨b, c'⟩
          rw [hm] at hx hu a5
          dsimp only at hx hu a5
          subst hx
          cases x with
          | false =>
            dsimp only at a5
            refine run 400 rfl ?_
            exact at_ret rfl rfl (mayPre c') ⟨false, by rw [hT, a5], rfl, by rw [hT, a5]⟩ ⟨rfl, rfl, trivial⟩
          | true =>
            dsimp only at a5
            have h64 := hu.2.2 rfl
            refine run 400 rfl ?_
            exact at_again (i + 1, c') ⟨by dsimp only; omega, by dsimp only; omega, by dsimp only; omega, by dsimp only; omega, by dsimp only; rw [a5]; congr 2; omega⟩ (by dsimp only; omega) ⟨SVle.refl _, SVle.refl _, SVle.refl _, SVle.refl _, SVle.refl _, SVle.refl _, trivial⟩ ⟨rfl, rfl, rfl, trivial⟩

def mayF (t : Tm) : Bool := (mayT t 1 0).1

theorem may_fn (t : Tm) : Gives Try.prog 39 [t.sv] (.bl (mayF t)) := by
  have key : ∀ b : Bool, mayF t = b → Gives Try.prog 39 [t.sv] (cond b .tt .ff) := by
    intro b hb
    refine contract_of ty_ok [0, 1, 2, 3, 4, 5, 6, 7] Try.func39 rfl (by decide) Try.ntmps39 rfl fun z => ?_
    refine run 400 rfl ?_
    refine at_met2 1 2 (may1_fn t 1 0 (by omega) (by omega) (by omega) (by omega)) rfl rfl rfl (fun _ => rfl) ?_
    intro x hx
    have : x = b := hx.trans hb
    subst this
    cases x with
    | false =>
      refine run 400 rfl ?_
      exact at_ret rfl rfl [] ⟨rfl, rfl, rfl⟩ trivial
    | true =>
      refine run 400 rfl ?_
      exact at_ret rfl rfl [] ⟨rfl, rfl, rfl⟩ trivial
  cases hm : mayF t with
  | false => exact (key false hm).le (SVle.ff rfl)
  | true => exact (key true hm).le (SVle.tt rfl)
end Go.Proofs.Ytmnmhehddbemkaa
namespace Go.Proofs.Ytmnmhehddbemkaa
open Go Go.Eng

def sgI (a b : Int) : Int := if a < b then -1 else if b < a then 1 else 0
def sgS (a b : ByteArray) : Int := if slt a b then -1 else if !(slt a b || seq a b) then 1 else 0
def orI (c d : Int) : Int := if c = 0 then d else c
mutual
def ordT : Tm → Tm → Int
  | .mk k n s l, .mk k' n' s' l' => orI (orI (orI (orI (sgI k k') (sgI n n')) (sgS s s')) (ordL l l')) (sgI l.length l'.length)
def ordL : List Tm → List Tm → Int
  | t :: l, u :: m => orI (ordT t u) (ordL l m)
  | _, _ => 0
end
theorem orI_0 (c : Int) : orI c 0 = c := by unfold orI; split <;> omega
theorem orI_ne {c d : Int} (h : c ≠ 0) : orI c d = c := if_neg h
theorem orI_00 (d : Int) : orI 0 d = d := if_pos rfl

theorem sign_fn (a b : Bool) : Gives Try.prog 101 [.bl a, .bl b] (I (if a then -1 else if b then 1 else 0)) := by
  refine contract_of ty_ok [0, 1, 2, 3, 4, 5, 6, 7] Try.func101 rfl (by decide) Try.ntmps101 rfl fun z => ?_
  refine run 400 rfl ?_
  refine at_if rfl (fun h1 => ?_) (fun h1 => ?_)
  · refine run 400 rfl ?_
    exact at_ret rfl rfl [] ⟨by simp [h1], rfl, rfl⟩ trivial
  · refine run 400 rfl ?_
    refine at_if rfl (fun h2 => ?_) (fun h2 => ?_)
    · refine run 400 rfl ?_
      exact at_ret rfl rfl [] ⟨by simp [h1, h2], rfl, rfl⟩ trivial
    · refine run 400 rfl ?_
      exact at_ret rfl rfl [] ⟨by simp [h1, h2], rfl, rfl⟩ trivial
theorem signI_fn (a b : Int) : Gives Try.prog 101 [.bl (decide (a < b)), .bl (decide (b < a))] (I (sgI a b)) := by
  have := sign_fn (decide (a < b)) (decide (b < a))
  simpa [sgI] using this
theorem signS_fn (a b : ByteArray) : Gives Try.prog 101 [.bl (slt a b), .bl (!(slt a b || seq a b))] (I (sgS a b)) := sign_fn _ _

abbrev ptrs (a b : Tm) : List (Nat × SO) := [(0, .cells 33 [I a.k, I a.n, .str a.s, .lst 4 (rowsT a.kids)]), (1, .cells 33 [I b.k, I b.n, .str b.s, .lst 4 (rowsT b.kids)])]

set_option maxRecDepth 100000 in
theorem order_fn : ∀ (a b : Tm), a.kids.length ≤ 1000000 → (∀ t : Tm, t ∈ a.kids → ∀ u : Tm, Gives Try.prog 78 [t.sv, u.sv] (I (ordT t u))) → Gives Try.prog 78 [a.sv, b.sv] (I (ordT a b)) := by
  intro a b hla ih
  obtain ⟨k, n, s, l⟩ := a
  obtain ⟨k', n', s', l'⟩ := b
  have hla : l.length ≤ 1000000 := hla
  have hl1 : ((rowsT l).length : Int) = l.length := by rw [rowsT_len]
  have hl2 : ((rowsT l').length : Int) = l'.length := by rw [rowsT_len]
  refine contract_of ty_ok [0, 1, 2, 3, 4, 5, 6, 7] Try.func78 rfl (by decide) Try.ntmps78 rfl fun z => ?_
  refine run 400 rfl ?_
  refine at_fn (signI_fn k k') rfl ?_
  refine run 400 rfl ?_
  refine at_join (fun c => c = orI (sgI k k') (sgI n n')) (fun c => [(2, .ptr 0 0), (3, .ptr 1 0), (5, I c)]) (fun _ => ptrs (.mk k n s l) (.mk k' n' s' l')) [2, 3, 4, 5] ?_ ?_
  · refine at_if rfl (fun h => ?_) (fun h => ?_)
    · refine run 400 rfl ?_
      refine at_fn (signI_fn n n') rfl ?_
      refine run 400 rfl ?_
      exact at_joined _ (by simp at h; rw [h, orI_00]) ⟨SVle.refl _, SVle.refl _, SVle.refl _, trivial⟩ ⟨rfl, rfl, trivial⟩
    · refine run 400 rfl ?_
      exact at_joined _ (by simp at h; rw [orI_ne h]) ⟨SVle.refl _, SVle.refl _, SVle.refl _, trivial⟩ ⟨rfl, rfl, trivial⟩
  intro c1 hc1
  refine run 400 rfl ?_
  refine at_join (fun c => c = orI c1 (sgS s s')) (fun c => [(2, .ptr 0 0), (3, .ptr 1 0), (5, I c)]) (fun _ => ptrs (.mk k n s l) (.mk k' n' s' l')) [2, 3, 4, 5] ?_ ?_
  · refine at_if rfl (fun h => ?_) (fun h => ?_)
    · refine run 400 rfl ?_
      refine at_fn (signS_fn s s') rfl ?_
      refine run 400 rfl ?_
      exact at_joined _ (by simp at h; rw [h, orI_00]) ⟨SVle.refl _, SVle.refl _, SVle.refl _, trivial⟩ ⟨rfl, rfl, trivial⟩
    · refine run 400 rfl ?_
      exact at_joined _ (by simp at h; rw [orI_ne h]) ⟨SVle.refl _, SVle.refl _, SVle.refl _, trivial⟩ ⟨rfl, rfl, trivial⟩
  intro c2 hc2
  refine run 400 rfl ?_
  have hT : ordT (.mk k n s l) (.mk k' n' s' l') = orI (orI c2 (ordL l l')) (sgI l.length l'.length) := by rw [ordT, hc2, hc1]
  refine at_loop (fun x : Int × Int => 0 ≤ x.1 ∧ x.1 ≤ l.length ∧ orI x.2 (ordL (l.drop x.1.toNat) (l'.drop x.1.toNat)) = orI c2 (ordL l l'))
    (fun x => [(2, .ptr 0 0), (3, .ptr 1 0), (5, I x.2), (6, I x.1)]) (fun _ => ptrs (.mk k n s l) (.mk k' n' s' l')) (fun x => (l.length - x.1).toNat) [2, 3, 4, 5]
    (0, c2) ⟨by omega, by dsimp only; omega, by simp⟩ ⟨SVle.refl _, SVle.refl _, SVle.refl _, SVle.refl _, trivial⟩ ⟨rfl, rfl, trivial⟩ ?_
  rintro ⟨i, c⟩ ⟨a1, a2, a3⟩
  dsimp only at a1 a2 a3
  refine run 400 rfl ?_
  refine at_split 49 rfl (fun h => ?_) (fun h => ?_)
  rotate_left
  · rw [hl1, decide_eq_false_iff_not] at h
    dsimp only at h
    have hfin : c = orI c2 (ordL l l') := by
      rw [← a3, List.drop_eq_nil_of_le (by omega)]
      cases l'.drop i.toNat <;> simp [ordL, orI_0]
    refine run 400 rfl ?_
    refine at_if rfl (fun g => ?_) (fun g => ?_)
    · refine run 400 rfl ?_
      refine at_fn (signI_fn (rowsT l).length (rowsT l').length) rfl ?_
      refine run 400 rfl ?_
      exact at_ret rfl rfl [] ⟨by simp at g; rw [hT, ← hfin, g, orI_00, hl1, hl2], rfl, rfl⟩ trivial
    · refine run 400 rfl ?_
      exact at_ret rfl rfl [] ⟨by simp at g; rw [hT, ← hfin, orI_ne g], rfl, rfl⟩ trivial
  rw [hl1, decide_eq_true_eq] at h
  dsimp only at h
  refine run 400 rfl ?_
  refine at_split 56 rfl (fun h2 => ?_) (fun h2 => ?_)
  rotate_left
  · rw [hl2, decide_eq_false_iff_not] at h2
    dsimp only at h2
    have hfin : c = orI c2 (ordL l l') := by
      have e : l'.drop i.toNat = [] := List.drop_eq_nil_of_le (by omega)
      rw [← a3, e]
      cases l.drop i.toNat <;> simp [ordL, orI_0]
    refine run 400 rfl ?_
    refine at_if rfl (fun g => ?_) (fun g => ?_)
    · refine run 400 rfl ?_
      refine at_fn (signI_fn (rowsT l).length (rowsT l').length) rfl ?_
      refine run 400 rfl ?_
      exact at_ret rfl rfl [] ⟨by simp at g; rw [hT, ← hfin, g, orI_00, hl1, hl2], rfl, rfl⟩ trivial
    · refine run 400 rfl ?_
      exact at_ret rfl rfl [] ⟨by simp at g; rw [hT, ← hfin, orI_ne g], rfl, rfl⟩ trivial
  rw [hl2, decide_eq_true_eq] at h2
  dsimp only at h2
  refine run 400 rfl ?_
  refine at_if rfl (fun h3 => ?_) (fun h3 => ?_)
  rotate_left
  · have hfin : c = orI c2 (ordL l l') := by
      simp at h3
      rw [← a3, orI_ne h3]
    refine run 400 rfl ?_
    refine at_if rfl (fun g => ?_) (fun g => ?_)
    · refine run 400 rfl ?_
      refine at_fn (signI_fn (rowsT l).length (rowsT l').length) rfl ?_
      refine run 400 rfl ?_
      exact at_ret rfl rfl [] ⟨by simp at g; rw [hT, ← hfin, g, orI_00, hl1, hl2], rfl, rfl⟩ trivial
    · refine run 400 rfl ?_
      exact at_ret rfl rfl [] ⟨by simp at g; rw [hT, ← hfin, orI_ne g], rfl, rfl⟩ trivial
  have hc : c = 0 := by simpa using h3
  subst hc
  have hlt : i.toNat < l.length := by omega
  have hlt2 : i.toNat < l'.length := by omega
  have hget := rowsT_get hlt
  have hget2 := rowsT_get hlt2
  have hmem := getD_mem hlt
  rw [drop_getD hlt, drop_getD hlt2] at a3
  generalize l.getD i.toNat .zero = u at hget hmem a3
  generalize l'.getD i.toNat .zero = v at hget2 a3
  rw [ordL, orI_00] at a3
  have hcall := ih u hmem v
  refine run 400 rfl ?_
  refine at_drawn 11 rfl rfl [(3, .val (.rp [.int .i64 u.k, .int .i64 u.n, .str u.s, .lst 4 (rowsT u.kids)] 0)), (8, .val (.rp [.int .i64 v.k, .int .i64 v.n, .str v.s, .lst 4 (rowsT v.kids)] 0)), (10, .sv (I (ordT u v)))] [20, 21, 22] rfl
    ⟨hcall, does_index ty_ok _ rfl rfl rfl a1 hget2 rfl, does_index ty_ok _ rfl rfl rfl a1 hget rfl⟩ ?_
  refine run 400 rfl ?_
  exact at_again (i + 1, ordT u v) ⟨by dsimp only; omega, by dsimp only; omega, by dsimp only; rw [← a3]; congr 3 <;> omega⟩ (by dsimp only; omega) ⟨SVle.refl _, SVle.refl _, SVle.refl _, SVle.refl _, trivial⟩ ⟨rfl, rfl, trivial⟩

/-- Not too many kids, here and below. -/
inductive Sm : Tm → Prop
  | mk {k n : Int} {s : ByteArray} {l : List Tm} (h : l.length ≤ 1000000) (hl : ∀ t ∈ l, Sm t) : Sm (.mk k n s l)

theorem ord_fn (a b : Tm) (h : Sm a) : Gives Try.prog 78 [a.sv, b.sv] (I (ordT a b)) := by
  induction a using Tm.ind generalizing b with
  | h k n s l ih =>
    cases h with
    | mk h1 h2 => exact order_fn _ b h1 fun t ht u => ih t ht u (h2 t ht)

theorem bytesLess_self : ∀ l : List UInt8, Op.bytesLess l l = false
  | [] => rfl
  | a :: l => by simp [Op.bytesLess, bytesLess_self l, UInt8.lt_irrefl]
theorem slt_self (a : ByteArray) : slt a a = false := bytesLess_self _
theorem seq_self (a : ByteArray) : seq a a = true := by simp [seq]
theorem loop_eq (a : ByteArray) (n i : Nat) (r : List UInt8) (h : a.size - i = n) : ByteArray.toList.loop a i r = r.reverse ++ a.data.toList.drop i := by
  induction n generalizing i r with
  | zero =>
    unfold ByteArray.toList.loop
    rw [if_neg (by omega), List.drop_eq_nil_of_le (by simp; have : a.size = a.data.size := rfl; omega)]
    simp
  | succ n ih =>
    unfold ByteArray.toList.loop
    have hlt : i < a.size := by omega
    rw [if_pos hlt, ih (i + 1) _ (by omega)]
    have hlt' : i < a.data.toList.length := by simpa using hlt
    rw [List.drop_eq_getElem_cons hlt']
    simp [ByteArray.get!, hlt]
theorem bytes_ext {a b : ByteArray} (h : a.toList = b.toList) : a = b := by
  unfold ByteArray.toList at h
  rw [loop_eq a _ 0 [] rfl, loop_eq b _ 0 [] rfl] at h
  simp at h
  cases a; cases b
  simpa using h
theorem seq_eq {a b : ByteArray} (h : seq a b = true) : a = b := bytes_ext (by simpa [seq] using h)

mutual
theorem ordT_self : ∀ a : Tm, ordT a a = 0
  | .mk k n s l => by rw [ordT, ordL_self l]; simp [sgI, sgS, slt_self, seq_self, orI]
theorem ordL_self : ∀ l : List Tm, ordL l l = 0
  | [] => by rw [ordL]; intros; simp_all
  | t :: l => by rw [ordL, ordT_self t, ordL_self l]; rfl
end
theorem sgI_eq {a b : Int} (h : sgI a b = 0) : a = b := by
  unfold sgI at h
  split at h
  · omega
  · split at h <;> omega
theorem sgS_eq {a b : ByteArray} (h : sgS a b = 0) : a = b := by
  unfold sgS at h
  split at h
  · omega
  · split at h
    · omega
    · rename_i h1 h2
      simp at h1 h2
      exact seq_eq (by simpa [h1] using h2)
theorem orI_eq {c d : Int} (h : orI c d = 0) : c = 0 ∧ d = 0 := by
  unfold orI at h
  split at h
  · exact ⟨by assumption, h⟩
  · omega
theorem ordL_eq (l : List Tm) (ih : ∀ t ∈ l, ∀ u, ordT t u = 0 → t = u) : ∀ m : List Tm, l.length = m.length → ordL l m = 0 → l = m := by
  induction l with
  | nil => intro m h _; cases m with
    | nil => rfl
    | cons _ _ => simp at h
  | cons t l ihl =>
    intro m h h0
    cases m with
    | nil => simp at h
    | cons u m =>
      rw [ordL] at h0
      obtain ⟨h1, h2⟩ := orI_eq h0
      rw [ih t (by simp) u h1, ihl (fun t ht => ih t (by simp [ht])) m (by simpa using h) h2]
theorem ordT_eq : ∀ (a b : Tm), ordT a b = 0 → a = b := by
  intro a
  induction a using Tm.ind with
  | h k n s l ih =>
    intro b h
    obtain ⟨k', n', s', l'⟩ := b
    rw [ordT] at h
    obtain ⟨h, h5⟩ := orI_eq h
    obtain ⟨h, h4⟩ := orI_eq h
    obtain ⟨h, h3⟩ := orI_eq h
    obtain ⟨h1, h2⟩ := orI_eq h
    have := sgI_eq h5
    rw [sgI_eq h1, sgI_eq h2, sgS_eq h3, ordL_eq l ih l' (by omega) h4]

def same (a b : Tm) : Bool := ordT a b == 0
theorem same_iff {a b : Tm} : same a b = true ↔ a = b := by
  unfold same
  rw [beq_iff_eq]
  exact ⟨ordT_eq a b, fun h => by rw [h]; exact ordT_self b⟩

theorem same_fn (a b : Tm) (h : Sm a) : Gives Try.prog 46 [a.sv, b.sv] (.bl (same a b)) := by
  refine contract_of ty_ok [0, 1, 2, 3, 4, 5, 6, 7] Try.func46 rfl (by decide) Try.ntmps46 rfl fun z => ?_
  refine run 400 rfl ?_
  refine at_fn (ord_fn a b h) rfl ?_
  refine run 400 rfl ?_
  exact at_ret rfl rfl [] ⟨rfl, rfl, rfl⟩ trivial
theorem less_fn (a b : Tm) (h : Sm a) : Gives Try.prog 48 [a.sv, b.sv] (.bl (decide (ordT a b < 0))) := by
  refine contract_of ty_ok [0, 1, 2, 3, 4, 5, 6, 7] Try.func48 rfl (by decide) Try.ntmps48 rfl fun z => ?_
  refine run 400 rfl ?_
  refine at_fn (ord_fn a b h) rfl ?_
  refine run 400 rfl ?_
  exact at_ret rfl rfl [] ⟨rfl, rfl, rfl⟩ trivial
end Go.Proofs.Ytmnmhehddbemkaa
namespace Go.Proofs.Ytmnmhehddbemkaa
open Go Go.Eng

abbrev tr (t : Tm) : List DV := [.int .i64 t.k, .int .i64 t.n, .str t.s, .lst 4 (rowsT t.kids)]
theorem rowsT_cons (t : Tm) (l : List Tm) : rowsT (t :: l) = tr t :: rowsT l := by rw [rowsT, row_eq]
theorem rowsT_nil : rowsT [] = [] := by rw [rowsT]
theorem rowsT_app : ∀ (a b : List Tm), rowsT (a ++ b) = rowsT a ++ rowsT b
  | [], b => by rw [rowsT_nil]; rfl
  | t :: a, b => by rw [List.cons_append, rowsT_cons, rowsT_cons, rowsT_app a b]; rfl
theorem rowsT_sz {l : List Tm} : ∀ r ∈ rowsT l, r.length = 4 := by
  intro r hr
  rw [rowsT_map] at hr
  obtain ⟨t, _, rfl⟩ := List.mem_map.1 hr
  exact row_len t
theorem rowsT_take (l : List Tm) (n : Nat) : (rowsT l).take n = rowsT (l.take n) := by rw [rowsT_map, rowsT_map, List.map_take]
theorem rowsT_drop (l : List Tm) (n : Nat) : (rowsT l).drop n = rowsT (l.drop n) := by rw [rowsT_map, rowsT_map, List.map_drop]

def amongF (O : List Tm) (t : Tm) : Bool := O.any fun x => same x t
theorem among_iff {O : List Tm} {t : Tm} : amongF O t = true ↔ t ∈ O := by
  unfold amongF
  rw [List.any_eq_true]
  constructor
  · rintro ⟨x, hx, h⟩
    rw [← same_iff.1 h]
    exact hx
  · exact fun h => ⟨t, h, same_iff.2 rfl⟩

set_option maxRecDepth 100000 in
theorem among_fn (O : List Tm) (t : Tm) (hO : ∀ x ∈ O, Sm x) (hl : O.length ≤ 10000000) : Gives Try.prog 32 [.lst 4 (rowsT O), t.sv] (.bl (amongF O t)) := by
  have key : ∀ b : Bool, amongF O t = b → Gives Try.prog 32 [.lst 4 (rowsT O), t.sv] (cond b .tt .ff) := by
    intro b hb
    have hlen : ((rowsT O).length : Int) = O.length := by rw [rowsT_len]
    refine contract_of ty_ok [0, 1, 2, 3, 4, 5, 6, 7] Try.func32 rfl (by decide) Try.ntmps32 rfl fun z => ?_
    refine run 400 rfl ?_
    refine at_loop (fun i : Int => 0 ≤ i ∧ i ≤ O.length ∧ amongF (O.drop i.toNat) t = b) (fun i => [(0, .lst 4 (rowsT O)), (3, .ptr 0 0), (5, I i)]) (fun _ => [(0, .cells 33 [I t.k, I t.n, .str t.s, .lst 4 (rowsT t.kids)])]) (fun i => (O.length - i).toNat) [1, 2, 3, 4, 5]
      0 ⟨by omega, by omega, by simpa using hb⟩ ⟨SVle.refl _, SVle.refl _, SVle.refl _, trivial⟩ ⟨rfl, trivial⟩ ?_
    rintro i ⟨a1, a2, a3⟩
    refine run 400 rfl ?_
    refine at_ifd rfl (fun h => ?_) (fun h => ?_)
    rotate_left
    · rw [hlen] at h
      rw [List.drop_eq_nil_of_le (by omega)] at a3
      have : b = false := a3.symm
      subst this
      refine run 400 rfl ?_
      exact at_ret rfl rfl [] ⟨rfl, rfl, rfl⟩ trivial
    rw [hlen] at h
    have hlt : i.toNat < O.length := by omega
    have hget := rowsT_get hlt
    have hmem := getD_mem hlt
    rw [drop_getD hlt] at a3
    generalize O.getD i.toNat .zero = u at hget hmem a3
    refine run 400 rfl ?_
    refine at_drawn 6 rfl rfl [(2, .val (.rp (tr u) 0)), (5, .sv (.bl (same u t)))] [20, 21, 22] rfl ⟨same_fn u t (hO u hmem), does_index ty_ok _ rfl rfl rfl a1 hget rfl⟩ ?_
    refine run 400 rfl ?_
    have a3 : (same u t || amongF (O.drop (i.toNat + 1)) t) = b := a3
    refine at_if rfl (fun h2 => ?_) (fun h2 => ?_)
    · rw [h2] at a3
      have : b = true := a3.symm
      subst this
      refine run 400 rfl ?_
      exact at_ret rfl rfl [] ⟨rfl, rfl, rfl⟩ trivial
    · rw [h2] at a3
      refine run 400 rfl ?_
      exact at_again (i + 1) ⟨by omega, by omega, by rw [← a3, Bool.false_or]; congr 2; omega⟩ (by omega) ⟨SVle.refl _, SVle.refl _, SVle.refl _, trivial⟩ ⟨rfl, trivial⟩
  cases hm : amongF O t with
  | false => exact (key false hm).le (SVle.ff rfl)
  | true => exact (key true hm).le (SVle.tt rfl)

mutual
def madeT (O : List Tm) : Tm → Bool
  | .mk k n s l => k == 1 || (amongF O (.mk k n s l) || (!(k == 2) && madeL O l))
def madeL (O : List Tm) : List Tm → Bool
  | [] => true
  | t :: l => madeT O t && madeL O l
end

set_option maxRecDepth 100000 in
theorem made_fn (O : List Tm) (hO : ∀ x ∈ O, Sm x) (hl : O.length ≤ 10000000) (t : Tm) (ht : Sm t) : Gives Try.prog 59 [.lst 4 (rowsT O), t.sv] (.bl (madeT O t)) := by
  induction t using Tm.ind with
  | h k n s l ih =>
    obtain ⟨hsm, hsl⟩ := ht
    have key : ∀ b : Bool, madeT O (.mk k n s l) = b → Gives Try.prog 59 [.lst 4 (rowsT O), (Tm.mk k n s l).sv] (cond b .tt .ff) := by
      intro b hb
      rw [madeT] at hb
      have hlen : ((rowsT l).length : Int) = l.length := by rw [rowsT_len]
      refine contract_of ty_ok [0, 1, 2, 3, 4, 5, 6, 7] Try.func59 rfl (by decide) Try.ntmps59 rfl fun z => ?_
      refine run 400 rfl ?_
      refine at_split 9 rfl (fun h1 => ?_) (fun h1 => ?_)
      · rw [h1, Bool.true_or] at hb
        subst hb
        refine run 400 rfl ?_
        exact at_ret rfl rfl [] ⟨rfl, rfl, rfl⟩ trivial
      rw [h1, Bool.false_or] at hb
      refine run 400 rfl ?_
      refine at_fn (among_fn O (.mk k n s l) hO hl) rfl ?_
      refine run 400 rfl ?_
      refine at_if rfl (fun h2 => ?_) (fun h2 => ?_)
      · rw [h2, Bool.true_or] at hb
        subst hb
        refine run 400 rfl ?_
        exact at_ret rfl rfl [] ⟨rfl, rfl, rfl⟩ trivial
      rw [h2, Bool.false_or] at hb
      refine run 400 rfl ?_
      refine at_if rfl (fun h3 => ?_) (fun h3 => ?_)
      · rw [h3] at hb
        have : b = false := hb.symm
        subst this
        refine run 400 rfl ?_
        exact at_ret rfl rfl [] ⟨rfl, rfl, rfl⟩ trivial
      rw [h3] at hb
      refine run 400 rfl ?_
      refine at_loop (fun i : Int => 0 ≤ i ∧ i ≤ l.length ∧ madeL O (l.drop i.toNat) = b) (fun i => [(0, .lst 4 (rowsT O)), (3, .ptr 0 0), (5, I i)]) (fun _ => [(0, .cells 33 [I k, I n, .str s, .lst 4 (rowsT l)])]) (fun i => (l.length - i).toNat) [1, 2, 3, 4, 5]
        0 ⟨by omega, by omega, by simpa using hb⟩ ⟨SVle.refl _, SVle.refl _, SVle.refl _, trivial⟩ ⟨rfl, trivial⟩ ?_
      rintro i ⟨a1, a2, a3⟩
      refine run 400 rfl ?_
      refine at_ifd rfl (fun h => ?_) (fun h => ?_)
      rotate_left
      · rw [hlen] at h
        rw [List.drop_eq_nil_of_le (by omega), madeL] at a3
        subst a3
        refine run 400 rfl ?_
        exact at_ret rfl rfl [] ⟨rfl, rfl, rfl⟩ trivial
      rw [hlen] at h
      have hlt : i.toNat < l.length := by omega
      have hget := rowsT_get hlt
      have hmem := getD_mem hlt
      rw [drop_getD hlt] at a3
      generalize l.getD i.toNat .zero = u at hget hmem a3
      rw [madeL] at a3
      refine run 400 rfl ?_
      refine at_val (.rp (tr u) 0) (does_index ty_ok _ rfl rfl rfl a1 hget rfl) ?_
      refine run 400 rfl ?_
      refine at_fn (ih u hmem (hsl u hmem)) rfl ?_
      refine run 400 rfl ?_
      refine at_if rfl (fun h4 => ?_) (fun h4 => ?_)
      · have h4 : madeT O u = false := by simpa using h4
        rw [h4] at a3
        have : b = false := a3.symm
        subst this
        refine run 400 rfl ?_
        exact at_ret rfl rfl [] ⟨rfl, rfl, rfl⟩ trivial
      · have h4 : madeT O u = true := by simpa using h4
        rw [h4, Bool.true_and] at a3
        refine run 400 rfl ?_
        exact at_again (i + 1) ⟨by omega, by omega, by rw [← a3]; congr 2; omega⟩ (by omega) ⟨SVle.refl _, SVle.refl _, SVle.refl _, trivial⟩ ⟨rfl, trivial⟩
    cases hm : madeT O (.mk k n s l) with
    | false => exact (key false hm).le (SVle.ff rfl)
    | true => exact (key true hm).le (SVle.tt rfl)
end Go.Proofs.Ytmnmhehddbemkaa
namespace Go.Proofs.Ytmnmhehddbemkaa
open Go Go.Eng

/-- What one more gives: each that was there, and it; as long as before only where it was there. -/
def AddP (L : List Tm) (t : Tm) (L' : List Tm) : Prop := (∀ x, x ∈ L' ↔ x ∈ L ∨ x = t) ∧ (L' = L ∧ t ∈ L ∨ L'.length = L.length + 1)

def addF : List Tm → Tm → List Tm
  | [], t => [t]
  | u :: L, t => if ordT u t < 0 then u :: addF L t else if same u t then u :: L else t :: u :: L
theorem addF_split {L : List Tm} {t : Tm} : ∀ (i : Nat), (∀ x ∈ L.take i, ordT x t < 0) → addF L t = L.take i ++ addF (L.drop i) t := by
  induction L with
  | nil => intro i _; simp
  | cons u L ih =>
    intro i h
    cases i with
    | zero => simp
    | succ i =>
      simp only [List.take_succ_cons, List.drop_succ_cons, List.cons_append]
      have hu := h u (by simp)
      rw [addF, if_pos hu, ih i fun x hx => h x (by simp [hx])]
theorem addF_P (L : List Tm) (t : Tm) : AddP L t (addF L t) := by
  induction L with
  | nil => exact ⟨fun x => by simp [addF], .inr (by simp [addF])⟩
  | cons u L ih =>
    obtain ⟨h1, h2⟩ := ih
    rw [addF]
    split
    · refine ⟨fun x => ?_, ?_⟩
      · rw [List.mem_cons, h1, List.mem_cons]
        constructor
        · rintro (h | h | h)
          · exact .inl (.inl h)
          · exact .inl (.inr h)
          · exact .inr h
        · rintro ((h | h) | h)
          · exact .inl h
          · exact .inr (.inl h)
          · exact .inr (.inr h)
      · rcases h2 with ⟨e, h2⟩ | h2
        · exact .inl ⟨by rw [e], by simp [h2]⟩
        · exact .inr (by simp [h2])
    · split
      · rename_i hs
        have e := same_iff.1 hs
        subst e
        exact ⟨fun x => ⟨.inl, fun q => q.elim id fun e => by simp [e]⟩, .inl ⟨rfl, by simp⟩⟩
      · exact ⟨fun x => by rw [List.mem_cons]; exact ⟨fun q => q.elim .inr .inl, fun q => q.elim .inr .inl⟩, .inr (by simp)⟩

set_option maxRecDepth 100000 in
theorem add_fn (L : List Tm) (t : Tm) (hL : ∀ x ∈ L, Sm x) (hl : L.length ≤ 10000000) : Gives Try.prog 64 [.lst 4 (rowsT L), t.sv] (.lst 4 (rowsT (addF L t))) := by
  have hlen : ((rowsT L).length : Int) = L.length := by rw [rowsT_len]
  have hlen2 : (rowsT L).length = L.length := rowsT_len L
  refine contract_of ty_ok [0, 1, 2, 3, 4, 5, 6, 7] Try.func64 rfl (by decide) Try.ntmps64 rfl fun z => ?_
  refine run 400 rfl ?_
  refine at_loop (fun i : Int => 0 ≤ i ∧ i ≤ L.length ∧ ∀ x ∈ L.take i.toNat, ordT x t < 0) (fun i => [(0, .lst 4 (rowsT L)), (3, .ptr 0 0), (5, I i)]) (fun _ => [(0, .cells 33 [I t.k, I t.n, .str t.s, .lst 4 (rowsT t.kids)])]) (fun i => (L.length - i).toNat) [1, 2, 3, 4, 5]
    0 ⟨by omega, by omega, by simp⟩ ⟨SVle.refl _, SVle.refl _, SVle.refl _, trivial⟩ ⟨rfl, trivial⟩ ?_
  rintro i ⟨a1, a2, a3⟩
  refine run 400 rfl ?_
  by_cases hlt : i.toNat < L.length
  · have hget := rowsT_get hlt
    have hmem := getD_mem hlt
    have hgetD : L[i.toNat]? = some (L.getD i.toNat .zero) := by rw [List.getD_eq_getElem?_getD, List.getElem?_eq_getElem hlt]; rfl
    have hdrop := drop_getD hlt
    generalize L.getD i.toNat .zero = u at hget hmem hgetD hdrop
    refine at_drawn 12 rfl rfl [(4, .yes), (7, .val (.rp (tr u) 0)), (10, .sv (.bl (decide (ordT u t < 0))))] [20, 21, 22] rfl ⟨less_fn u t (hL u hmem), does_index ty_ok _ rfl rfl rfl a1 hget rfl, decide_eq_true (by rw [hlen]; omega)⟩ ?_
    refine run 400 rfl ?_
    refine at_if rfl (fun h => ?_) (fun h => ?_)
    · refine run 400 rfl ?_
      have h : ordT u t < 0 := by simpa using h
      exact at_again (i + 1) ⟨by omega, by omega, by
        intro x hx
        rw [show (i + 1).toNat = i.toNat + 1 by omega, List.take_add_one, hgetD] at hx
        rcases List.mem_append.1 hx with hx | hx
        · exact a3 x hx
        · simp at hx
          rw [hx]
          exact h⟩ (by omega) ⟨SVle.refl _, SVle.refl _, SVle.refl _, trivial⟩ ⟨rfl, trivial⟩
    · have h : ¬ ordT u t < 0 := by simpa using h
      refine run 400 rfl ?_
      refine at_drawn 12 rfl rfl [(4, .yes), (7, .val (.rp (tr u) 0)), (10, .sv (.bl (same u t)))] [20, 21, 22] rfl ⟨same_fn u t (hL u hmem), does_index ty_ok _ rfl rfl rfl a1 hget rfl, decide_eq_true (by rw [hlen]; omega)⟩ ?_
      refine run 400 rfl ?_
      refine at_if rfl (fun h2 => ?_) (fun h2 => ?_)
      · have e := same_iff.1 h2
        subst e
        refine run 400 rfl ?_
        have e : addF L u = L := by
          rw [addF_split i.toNat a3, hdrop, addF, if_neg h, if_pos h2, ← hdrop, List.take_append_drop]
        exact at_ret rfl rfl [] ⟨by rw [e], rfl, rfl⟩ trivial
      · refine run 400 rfl ?_
        refine at_gro (.tl 4 []) (doesG_build ty_ok _ rfl trivial rfl rfl (by decide)) ?_
        refine run 400 rfl ?_
        refine at_val (.lst 4 ((rowsT L).take i.toNat)) (does_slice_h ty_ok rfl rfl rfl (by omega) rfl) ?_
        refine at_new 5 4 ([] ++ (rowsT L).take i.toNat) (doesT_append ty_ok rfl rfl rfl rfl rfl rfl rfl (by simp; omega) (by show _ * 56 ≤ _; simp; omega)) ?_
        refine run 400 rfl ?_
        refine at_drawn_st 8 [5] rfl rfl [(2, .gro (.tl 4 [tr t])), (3, .eat 5 4 ([] ++ (rowsT L).take i.toNat ++ [tr t]) (some 7)), (6, .val (.lst 4 ((rowsT L).drop i.toNat))), (7, .use 20 4 ([] ++ (rowsT L).take i.toNat ++ [tr t] ++ (rowsT L).drop i.toNat))] [20, 21, 22] rfl
          ⟨doesU_append ty_ok rfl rfl rfl rfl rfl rfl rfl (by simp; omega) (by show _ * 56 ≤ _; simp; omega), does_slice_l ty_ok rfl rfl rfl (by omega) rfl, doesU_append ty_ok rfl rfl rfl rfl rfl rfl rfl (by simp; omega) (by show _ * 56 ≤ _; simp; omega), doesG_build ty_ok _ rfl ⟨⟨rfl, rfl, _, rfl, SVles.refl _⟩, trivial⟩ rfl rfl (by decide)⟩ ?_
        refine run 400 rfl ?_
        have e : addF L t = L.take i.toNat ++ t :: L.drop i.toNat := by
          rw [addF_split i.toNat a3, hdrop, addF, if_neg h, if_neg (by simpa using h2)]
        exact at_ret rfl rfl [] ⟨by rw [e, rowsT_app, rowsT_cons, rowsT_take, rowsT_drop]; simp, rfl, rfl⟩ trivial
  · refine at_drawn 12 rfl rfl [(4, .no)] [20, 21, 22] rfl (decide_eq_false (by rw [hlen]; omega)) ?_
    refine run 400 rfl ?_
    refine at_drawn 12 rfl rfl [(4, .no)] [20, 21, 22] rfl (decide_eq_false (by rw [hlen]; omega)) ?_
    refine run 400 rfl ?_
    refine at_gro (.tl 4 []) (doesG_build ty_ok _ rfl trivial rfl rfl (by decide)) ?_
    refine run 400 rfl ?_
    refine at_val (.lst 4 ((rowsT L).take i.toNat)) (does_slice_h ty_ok rfl rfl rfl (by omega) rfl) ?_
    refine at_new 5 4 ([] ++ (rowsT L).take i.toNat) (doesT_append ty_ok rfl rfl rfl rfl rfl rfl rfl (by simp; omega) (by show _ * 56 ≤ _; simp; omega)) ?_
    refine run 400 rfl ?_
    refine at_drawn_st 8 [5] rfl rfl [(2, .gro (.tl 4 [tr t])), (3, .eat 5 4 ([] ++ (rowsT L).take i.toNat ++ [tr t]) (some 7)), (6, .val (.lst 4 ((rowsT L).drop i.toNat))), (7, .use 20 4 ([] ++ (rowsT L).take i.toNat ++ [tr t] ++ (rowsT L).drop i.toNat))] [20, 21, 22] rfl
      ⟨doesU_append ty_ok rfl rfl rfl rfl rfl rfl rfl (by simp; omega) (by show _ * 56 ≤ _; simp; omega), does_slice_l ty_ok rfl rfl rfl (by omega) rfl, doesU_append ty_ok rfl rfl rfl rfl rfl rfl rfl (by simp; omega) (by show _ * 56 ≤ _; simp; omega), doesG_build ty_ok _ rfl ⟨⟨rfl, rfl, _, rfl, SVles.refl _⟩, trivial⟩ rfl rfl (by decide)⟩ ?_
    refine run 400 rfl ?_
    have e : addF L t = L.take i.toNat ++ t :: L.drop i.toNat := by
      rw [addF_split i.toNat a3, List.drop_eq_nil_of_le (by omega), addF]
    exact at_ret rfl rfl [] ⟨by rw [e, rowsT_app, rowsT_cons, rowsT_take, rowsT_drop]; simp, rfl, rfl⟩ trivial
end Go.Proofs.Ytmnmhehddbemkaa
namespace Go.Proofs.Ytmnmhehddbemkaa
open Go Go.Eng

/-- As many kids as the kind says, here and below. -/
inductive Gd : Tm → Prop
  | mk {k n : Int} {s : ByteArray} {l : List Tm} (h : (l.length : Int) = kidsF k) (hl : ∀ t ∈ l, Gd t) : Gd (.mk k n s l)
theorem Gd.sm {t : Tm} (h : Gd t) : Sm t := by
  induction t using Tm.ind with
  | h k n s l ih =>
    cases h with
    | mk h1 h2 =>
      have := kidsF_le k
      exact .mk (by omega) fun t ht => ih t ht (h2 t ht)

mutual
def szT : Tm → Nat
  | .mk _ _ _ l => 1 + szL l
def szL : List Tm → Nat
  | [] => 0
  | t :: l => szT t + szL l
end
theorem szT_pos (t : Tm) : 0 < szT t := by cases t; rw [szT]; omega
theorem szL_app : ∀ a b : List Tm, szL (a ++ b) = szL a + szL b
  | [], b => by rw [szL]; simp
  | t :: a, b => by rw [List.cons_append, szL, szL, szL_app a b]; omega
theorem szL_len : ∀ l : List Tm, l.length ≤ szL l
  | [] => by rw [szL]; simp
  | t :: l => by
    have := szL_len l
    have := szT_pos t
    rw [szL, List.length_cons]
    omega

/-- What comes out of a term. -/
def parts : Tm → List Tm
  | .mk k _ _ l => if k = 7 then l else if k = 6 then l.drop 1 else []
def Closed (O : List Tm) : Prop := ∀ x ∈ O, ∀ p ∈ parts x, p ∈ O
structure OpenP (l O : List Tm) : Prop where
  has : ∀ x ∈ l, x ∈ O
  closed : Closed O
  least : ∀ C : Tm → Prop, (∀ x ∈ l, C x) → (∀ x, C x → ∀ p ∈ parts x, C p) → ∀ x ∈ O, C x
  gd : ∀ x ∈ O, Gd x
  len : O.length ≤ szL l

structure OpenI (l : List Tm) (x : List Tm × List Tm) : Prop where
  gdT : ∀ t ∈ x.1, Gd t
  gdO : ∀ t ∈ x.2, Gd t
  has : ∀ t ∈ l, t ∈ x.1 ∨ t ∈ x.2
  closed : ∀ t ∈ x.2, ∀ p ∈ parts t, p ∈ x.1 ∨ p ∈ x.2
  least : ∀ C : Tm → Prop, (∀ t ∈ l, C t) → (∀ t, C t → ∀ p ∈ parts t, C p) → (∀ t ∈ x.1, C t) ∧ ∀ t ∈ x.2, C t
  len : x.2.length + szL x.1 ≤ szL l

theorem gd_parts {t : Tm} (h : Gd t) : ∀ p ∈ parts t, Gd p := by
  intro p hp
  obtain ⟨hk, hl⟩ := h
  rw [parts] at hp
  split at hp
  · exact hl p hp
  · split at hp
    · exact hl p (List.mem_of_mem_drop hp)
    · cases hp

/-- One term is taken off, and put to the others; what comes out of it is put behind. -/
theorem openI_step {l T L L' : List Tm} {t : Tm} (h : OpenI l (t :: T, L)) (ha : AddP L t L') (q : List Tm) (hq : L' = L ∧ t ∈ L ∧ q = [] ∨ L'.length = L.length + 1 ∧ q = parts t) (hs : szL q < szT t) : OpenI l (T ++ q, L') := by
  obtain ⟨hm, _⟩ := ha
  refine ⟨fun x hx => ?_, fun x hx => ?_, fun x hx => ?_, fun x hx p hp => ?_, fun C h1 h2 => ?_, ?_⟩
  · rcases List.mem_append.1 hx with hx | hx
    · exact h.gdT x (by simp [hx])
    · rcases hq with ⟨_, _, e⟩ | ⟨_, e⟩
      · rw [e] at hx; cases hx
      · rw [e] at hx; exact gd_parts (h.gdT t (by simp)) x hx
  · rcases (hm x).1 hx with hx | rfl
    · exact h.gdO x hx
    · exact h.gdT x (by simp)
  · rcases h.has x hx with hx | hx
    · rcases List.mem_cons.1 hx with rfl | hx
      · exact .inr ((hm x).2 (.inr rfl))
      · exact .inl (List.mem_append.2 (.inl hx))
    · exact .inr ((hm x).2 (.inl hx))
  · have old : x ∈ L → p ∈ T ++ q ∨ p ∈ L' := fun hx => by
      rcases h.closed x hx p hp with h' | h'
      · rcases List.mem_cons.1 h' with rfl | h'
        · exact .inr ((hm p).2 (.inr rfl))
        · exact .inl (List.mem_append.2 (.inl h'))
      · exact .inr ((hm p).2 (.inl h'))
    rcases (hm x).1 hx with hx | rfl
    · exact old hx
    · rcases hq with ⟨_, hx, _⟩ | ⟨_, e⟩
      · exact old hx
      · exact .inl (List.mem_append.2 (.inr (by rw [e]; exact hp)))
  · obtain ⟨c1, c2⟩ := h.least C h1 h2
    refine ⟨fun x hx => ?_, fun x hx => ?_⟩
    · rcases List.mem_append.1 hx with hx | hx
      · exact c1 x (by simp [hx])
      · rcases hq with ⟨_, _, e⟩ | ⟨_, e⟩
        · rw [e] at hx; cases hx
        · rw [e] at hx; exact h2 t (c1 t (by simp)) x hx
    · rcases (hm x).1 hx with hx | rfl
      · exact c2 x hx
      · exact c1 x (by simp)
  · have := h.len
    simp only [szL] at this
    simp only [szL_app]
    have := szT_pos t
    rcases hq with ⟨e, _, _⟩ | ⟨e, _⟩
    · rw [e]; omega
    · omega

def openG : Nat → List Tm → List Tm → List Tm
  | 0, _, L => L
  | _, [], L => L
  | n + 1, t :: T, L => if (addF L t).length = L.length then openG n T (addF L t) else openG n (T ++ parts t) (addF L t)

theorem sz_parts (t : Tm) : szL (parts t) < szT t := by
  obtain ⟨k, n, s, l⟩ := t
  rw [parts, szT]
  split
  · omega
  · split
    · cases l with
      | nil => simp [szL]
      | cons a l => simp only [List.drop_succ_cons, List.drop_zero, szL]; omega
    · rw [szL]; omega
theorem openG_irr : ∀ (n m : Nat) (T L : List Tm), szL T ≤ n → szL T ≤ m → openG n T L = openG m T L := by
  intro n
  induction n with
  | zero =>
    intro m T L h1 _
    cases T with
    | nil => cases m <;> simp [openG]
    | cons t T =>
      have := szT_pos t
      rw [szL] at h1
      omega
  | succ n ih =>
    intro m T L h1 h2
    cases T with
    | nil => cases m <;> simp [openG]
    | cons t T =>
      have h3 := szT_pos t
      have h4 := sz_parts t
      rw [szL] at h1 h2
      cases m with
      | zero => omega
      | succ m =>
        rw [openG, openG]
        split
        · exact ih m T _ (by omega) (by omega)
        · exact ih m _ _ (by rw [szL_app]; omega) (by rw [szL_app]; omega)

/-- What is open. -/
def openF (l : List Tm) : List Tm := openG (szL l) l []

theorem openG_P {l : List Tm} : ∀ (n : Nat) (T L : List Tm), szL T ≤ n → OpenI l (T, L) → OpenP l (openG n T L) := by
  have fin : ∀ L, OpenI l ([], L) → OpenP l L := fun L hI =>
    ⟨fun x hx => (hI.has x hx).resolve_left (by simp), fun x hx p hp => (hI.closed x hx p hp).resolve_left (by simp), fun C h1 h2 => (hI.least C h1 h2).2, hI.gdO, by have := hI.len; simpa [szL] using this⟩
  intro n
  induction n with
  | zero =>
    intro T L h hI
    cases T with
    | nil => exact fin L hI
    | cons t T => have := szT_pos t; rw [szL] at h; omega
  | succ n ih =>
    intro T L h hI
    cases T with
    | nil => exact fin L hI
    | cons t T =>
      have h3 := szT_pos t
      have h4 := sz_parts t
      rw [szL] at h
      have hA := addF_P L t
      rw [openG]
      split
      · rename_i g
        have hq := hA.2.resolve_right (by omega)
        have hI' := openI_step hI hA [] (.inl ⟨hq.1, hq.2, rfl⟩) (by rw [szL]; exact h3)
        rw [List.append_nil] at hI'
        exact ih T _ (by omega) hI'
      · rename_i g
        have g' : (addF L t).length = L.length + 1 := hA.2.resolve_left fun e => g (by rw [e.1])
        exact ih _ _ (by rw [szL_app]; omega) (openI_step hI hA (parts t) (.inr ⟨g', rfl⟩) h4)
theorem openF_P {l : List Tm} (hg : ∀ t ∈ l, Gd t) : OpenP l (openF l) :=
  openG_P _ l [] (Nat.le_refl _) ⟨hg, by simp, fun t h => .inl h, by simp, fun C h1 _ => ⟨h1, by simp⟩, by simp⟩

set_option maxRecDepth 100000 in
theorem open_fn (l : List Tm) (hg : ∀ t ∈ l, Gd t) (hl : szL l ≤ 1000000) : Gives Try.prog 30 [.lst 4 (rowsT l)] (.lst 4 (rowsT (openF l))) := by
  have hlen : (rowsT l).length = l.length := rowsT_len l
  have hll := szL_len l
  refine contract_of ty_ok [0, 1, 2, 3, 4, 6, 7] Try.func30 rfl (by decide) Try.ntmps30 rfl fun z => ?_
  refine run 400 rfl ?_
  refine at_gro (.tl 4 []) (doesG_build ty_ok _ rfl trivial rfl rfl (by decide)) ?_
  refine run 400 rfl ?_
  refine at_new 5 4 ([] ++ rowsT l) (doesT_append ty_ok rfl rfl rfl rfl rfl rfl rfl (by simp; omega) (by show _ * 56 ≤ _; simp; omega)) ?_
  refine run 400 rfl ?_
  refine at_loop (fun x : List Tm × List Tm => OpenI l x ∧ openG (szL x.1) x.1 x.2 = openF l) (fun x => [(4, .gl 5 4 (rowsT x.1)), (3, .lst 4 (rowsT x.2))]) (fun _ => [(5, .tok 4)]) (fun x => szL x.1) [0, 1, 2, 3, 4, 6, 7]
    (l, []) ⟨⟨hg, by simp, fun t h => .inl h, by simp, fun C h1 _ => ⟨h1, by simp⟩, by simp⟩, rfl⟩ ⟨SVle.refl _, ?_, trivial⟩ ⟨rfl, trivial⟩ ?_
  · rw [rowsT_nil]
    exact fun g H x h => SVle.tl 4 [] g H x (SVle.nil 4 g H x h)
  rintro ⟨T, L⟩ ⟨hI, hF⟩
  dsimp only at hF
  have hTlen : ((rowsT T).length : Int) = T.length := by rw [rowsT_len]
  have hT0 := szL_len T
  have hlen0 := hI.len
  dsimp only at hlen0
  refine run 400 rfl ?_
  refine at_ifd rfl (fun h => ?_) (fun h => ?_)
  rotate_left
  · rw [hTlen] at h
    have : T = [] := List.eq_nil_of_length_eq_zero (by omega)
    subst this
    refine run 400 rfl ?_
    have e : L = openF l := by rw [← hF, szL, openG]
    exact at_ret rfl rfl [] ⟨by rw [e], rfl, rfl⟩ trivial
  rw [hTlen] at h
  cases T with
  | nil => simp at h
  | cons t T =>
    refine run 400 rfl ?_
    refine at_val (.rp (tr t) 0) (does_index ty_ok _ rfl rfl rfl (by omega) (show (rowsT (t :: T))[(0 : Int).toNat]? = some (tr t) by rw [rowsT_cons]; rfl) rfl) ?_
    refine run 400 rfl ?_
    refine at_grow 5 5 4 ((rowsT (t :: T)).drop (1 : Int).toNat) rfl (doesU_slice_l ty_ok rfl rfl rfl (by omega) rfl) rfl ?_
    have e1 : (rowsT (t :: T)).drop (1 : Int).toNat = rowsT T := by rw [rowsT_cons]; rfl
    rw [e1]
    refine run 400 rfl ?_
    have hLlen : (rowsT L).length = L.length := rowsT_len L
    have hT1 : (rowsT T).length = T.length := rowsT_len T
    refine at_fn (add_fn L t (fun x hx => (hI.gdO x hx).sm) (by omega)) rfl ?_
    have hA := addF_P L t
    have hstep : openF l = if (addF L t).length = L.length then openG (szL T) T (addF L t) else openG (szL (T ++ parts t)) (T ++ parts t) (addF L t) := by
      have h3 := szT_pos t
      have h4 := sz_parts t
      obtain ⟨q, hq⟩ : ∃ q, szL (t :: T) = q + 1 := ⟨szL (t :: T) - 1, by rw [szL]; omega⟩
      have hq' : szT t + szL T = q + 1 := by rw [← hq, szL]
      rw [← hF, hq, openG]
      split
      · exact openG_irr _ _ _ _ (by omega) (Nat.le_refl _)
      · exact openG_irr _ _ _ _ (by rw [szL_app]; omega) (Nat.le_refl _)
    generalize addF L t = L' at hA hstep
    have hLlen' : (rowsT L').length = L'.length := rowsT_len L'
    have hsz : szL (t :: T) = szT t + szL T := by rw [szL]
    refine run 400 rfl ?_
    refine at_if rfl (fun g => ?_) (fun g => ?_)
    · rw [hLlen, hLlen', beq_iff_eq] at g
      have hq : L' = L ∧ t ∈ L := hA.2.resolve_right (by omega)
      have hI' := openI_step hI hA [] (.inl ⟨hq.1, hq.2, rfl⟩) (by rw [szL]; exact szT_pos t)
      rw [List.append_nil] at hI'
      refine run 400 rfl ?_
      rw [if_pos (by omega)] at hstep
      exact at_again (T, L') ⟨hI', hstep.symm⟩ (by have := szT_pos t; dsimp only; omega) ⟨SVle.refl _, SVle.refl _, trivial⟩ ⟨rfl, trivial⟩
    · rw [hLlen, hLlen'] at g
      have g0 : ¬ L'.length = L.length := by simp at g; omega
      rw [if_neg g0] at hstep
      have g : L'.length = L.length + 1 := hA.2.resolve_left fun e => by rw [e.1] at g; simp at g
      have hgt := hI.gdT t (by simp)
      obtain ⟨k, n, s, ks⟩ := t
      obtain ⟨hk1, hk2⟩ := hgt
      refine run 400 rfl ?_
      refine at_if rfl (fun g7 => ?_) (fun g7 => ?_)
      · have g7 : k = 7 := by simpa using g7
        subst g7
        obtain ⟨a, b, rfl⟩ : ∃ a b, ks = [a, b] := by
          have : ks.length = 2 := by simp [kidsF] at hk1; omega
          match ks, this with
          | [a, b], _ => exact ⟨a, b, rfl⟩
        have hI' := openI_step hI hA [a, b] (.inr ⟨g, by simp [parts]⟩) (by simp only [szT, szL]; omega)
        refine run 400 rfl ?_
        refine at_drawn 10 rfl rfl [(3, .val (.rp (tr a) 0)), (7, .val (.rp (tr b) 0)), (9, .gro (.tl 4 [tr a, tr b]))] [20, 21, 22] rfl
          ⟨doesG_build ty_ok _ rfl ⟨⟨rfl, rfl, _, rfl, SVles.refl _⟩, ⟨rfl, rfl, _, rfl, SVles.refl _⟩, trivial⟩ rfl rfl (by decide), does_index ty_ok _ rfl rfl rfl (by omega) (show (rowsT [a, b])[(1 : Int).toNat]? = some (tr b) by rw [rowsT_cons, rowsT_cons]; rfl) rfl, does_index ty_ok _ rfl rfl rfl (by omega) (show (rowsT [a, b])[(0 : Int).toNat]? = some (tr a) by rw [rowsT_cons]; rfl) rfl⟩ ?_
        refine at_grow 5 5 4 (rowsT T ++ [tr a, tr b]) rfl (doesU_append ty_ok rfl rfl rfl rfl rfl rfl rfl (by simp; simp at hT0; omega) (by show _ * 56 ≤ _; simp; simp at hT0; omega)) rfl ?_
        refine run 400 rfl ?_
        exact at_again (T ++ [a, b], L') ⟨hI', by rw [hstep]; simp [parts]⟩ (by simp only [szT, szL, szL_app]; omega) ⟨SVle.of_eq (by show SV.gl 5 4 (rowsT T ++ [tr a, tr b]) = SV.gl 5 4 (rowsT (T ++ [a, b])); rw [rowsT_app, rowsT_cons, rowsT_cons, rowsT_nil]), SVle.refl _, trivial⟩ ⟨rfl, trivial⟩
      · have g7 : k ≠ 7 := by simpa using g7
        refine run 400 rfl ?_
        refine at_if rfl (fun g6 => ?_) (fun g6 => ?_)
        · have g6 : k = 6 := by simpa using g6
          subst g6
          obtain ⟨a, b, rfl⟩ : ∃ a b, ks = [a, b] := by
            have : ks.length = 2 := by simp [kidsF] at hk1; omega
            match ks, this with
            | [a, b], _ => exact ⟨a, b, rfl⟩
          have hI' := openI_step hI hA [b] (.inr ⟨g, by simp [parts]⟩) (by simp only [szT, szL]; omega)
          refine run 400 rfl ?_
          refine at_val (.rp (tr b) 0) (does_index ty_ok _ rfl rfl rfl (by omega) (show (rowsT [a, b])[(1 : Int).toNat]? = some (tr b) by rw [rowsT_cons, rowsT_cons]; rfl) rfl) ?_
          refine run 400 rfl ?_
          refine at_gro (.tl 4 [tr b]) (doesG_build ty_ok _ rfl ⟨⟨rfl, rfl, _, rfl, SVles.refl _⟩, trivial⟩ rfl rfl (by decide)) ?_
          refine at_grow 5 5 4 (rowsT T ++ [tr b]) rfl (doesU_append ty_ok rfl rfl rfl rfl rfl rfl rfl (by simp; simp at hT0; omega) (by show _ * 56 ≤ _; simp; simp at hT0; omega)) rfl ?_
          refine run 400 rfl ?_
          exact at_again (T ++ [b], L') ⟨hI', by rw [hstep]; simp [parts]⟩ (by simp only [szT, szL, szL_app]; omega) ⟨SVle.of_eq (by show SV.gl 5 4 (rowsT T ++ [tr b]) = SV.gl 5 4 (rowsT (T ++ [b])); rw [rowsT_app, rowsT_cons, rowsT_nil]), SVle.refl _, trivial⟩ ⟨rfl, trivial⟩
        · have g6 : k ≠ 6 := by simpa using g6
          have hI' := openI_step hI hA [] (.inr ⟨g, by simp [parts, g7, g6]⟩) (by simp only [szT, szL]; omega)
          rw [List.append_nil] at hI'
          refine run 400 rfl ?_
          exact at_again (T, L') ⟨hI', by rw [hstep]; simp [parts, g7, g6]⟩ (by have := szT_pos (.mk k n s ks); dsimp only; omega) ⟨SVle.refl _, SVle.refl _, trivial⟩ ⟨rfl, trivial⟩

theorem can_fn (l : List Tm) (t : Tm) (hg : ∀ t ∈ l, Gd t) (hl : szL l ≤ 1000000) (ht : Sm t) : Gives Try.prog 20 [.lst 4 (rowsT l), t.sv] (.bl (madeT (openF l) t)) := by
  have hO := openF_P hg
  refine contract_of ty_ok [0, 1, 2, 3, 4, 5, 6, 7] Try.func20 rfl (by decide) Try.ntmps20 rfl fun z => ?_
  refine run 400 rfl ?_
  refine at_drawn 4 rfl rfl [(1, .sv (.lst 4 (rowsT (openF l)))), (3, .sv (.bl (madeT (openF l) t)))] [20, 21, 22] rfl ⟨made_fn _ (fun x hx => (hO.gd x hx).sm) (by have := hO.len; omega) t ht, open_fn l hg hl⟩ ?_
  refine run 400 rfl ?_
  exact at_ret rfl rfl [] ⟨rfl, rfl, rfl⟩ trivial
end Go.Proofs.Ytmnmhehddbemkaa
namespace Go.Proofs.Ytmnmhehddbemkaa
open Go Go.Eng

theorem tmod_val (a n : Int) (h : 0 < n) : (if a.tmod n < 0 then a.tmod n + n else a.tmod n) = a % n ∧ -n < a.tmod n ∧ a.tmod n < n := by
  have h1 := Int.emod_nonneg a (show n ≠ 0 by omega)
  have h2 := Int.emod_lt_of_pos a h
  rw [Int.tmod_eq_emod]
  by_cases hc : 0 ≤ a ∨ n ∣ a
  · simp only [if_pos hc, Int.natCast_zero, Int.sub_zero]
    rw [if_neg (by omega)]
    omega
  · simp only [if_neg hc]
    have e : (n.natAbs : Int) = n := by omega
    have : (if 0 ≤ a ∨ n ∣ a then 0 else n.natAbs) = n.natAbs := if_neg hc
    rw [if_pos (by omega)]
    omega

theorem within52 (a n : Int) (h : 0 < n ∧ n ≤ 4611686018427387904) : Gives Try.prog 52 [I a, I n] (I (a % n)) := by
  refine contract_of ty_ok [0, 1, 2, 3, 4, 5, 6, 7] Try.func52 rfl (by decide) Try.ntmps52 rfl fun z => ?_
  obtain ⟨hv, h3, h4⟩ := tmod_val a n h.1
  rw [← hv]
  refine run 400 rfl ?_
  refine at_ifd rfl (fun h1 => ?_) (fun h1 => ?_)
  · refine run 400 rfl ?_
    refine run 400 rfl ?_
    exact at_ret rfl rfl [] ⟨by rw [if_pos h1], rfl, rfl⟩ trivial
  · refine run 400 rfl ?_
    exact at_ret rfl rfl [] ⟨by rw [if_neg h1], rfl, rfl⟩ trivial
theorem within21 (a n : Int) (h : 0 < n ∧ n ≤ 4611686018427387904) : Gives Try.prog 21 [I a, I n] (I (a % n)) := by
  refine contract_of ty_ok [0, 1, 2, 3, 4, 5, 6, 7] Try.func21 rfl (by decide) Try.ntmps21 rfl fun z => ?_
  obtain ⟨hv, h3, h4⟩ := tmod_val a n h.1
  rw [← hv]
  refine run 400 rfl ?_
  refine at_ifd rfl (fun h1 => ?_) (fun h1 => ?_)
  · refine run 400 rfl ?_
    refine run 400 rfl ?_
    exact at_ret rfl rfl [] ⟨by rw [if_pos h1], rfl, rfl⟩ trivial
  · refine run 400 rfl ?_
    exact at_ret rfl rfl [] ⟨by rw [if_neg h1], rfl, rfl⟩ trivial

abbrev ints (l : List Int) : List (List DV) := l.map fun n => [.int .i64 n]
theorem ints_get {l : List Int} {n : Int} (h0 : 0 ≤ n) (h1 : n < l.length) : (ints l)[n.toNat]? = some [.int .i64 (l.getD n.toNat 0)] := by
  have : n.toNat < l.length := by omega
  simp [List.getElem?_map, List.getElem?_eq_getElem this, List.getD_eq_getElem?_getD]
abbrev strs (l : List ByteArray) : List (List DV) := l.map fun b => [.str b]
theorem strs_get {l : List ByteArray} {n : Int} (h0 : 0 ≤ n) (h1 : n < l.length) : (strs l)[n.toNat]? = some [.str (l.getD n.toNat .empty)] := by
  have : n.toNat < l.length := by omega
  simp [List.getElem?_map, List.getElem?_eq_getElem this, List.getD_eq_getElem?_getD]
abbrev tape (l : List Int) (j : Int) : SO := .cells 62 [.lst 1 (ints l), I j]

set_option maxRecDepth 100000 in
theorem more_fn (l : List Int) (j : Int) : Contract Try.prog 54 1 [(0, tape l j)] [.ptr 0 0] fun s post => s = .bl (decide (j < l.length)) ∧ post = [(0, tape l j)] := by
  have hlen : (ints l).length = l.length := by simp
  refine contract_of ty_ok [1, 2, 3, 4, 5, 6, 7] Try.func54 rfl (by decide) Try.ntmps54 rfl fun z => ?_
  refine run 400 rfl ?_
  refine at_drawn 10 rfl rfl [] [20, 21, 22] rfl trivial ?_
  refine run 400 rfl ?_
  exact at_ret rfl rfl [(0, tape l j)] ⟨by rw [hlen], rfl⟩ ⟨rfl, trivial⟩

def nextF (l : List Int) (j n : Int) : Int × Int := if j < l.length ∧ 1 ≤ n then (l.getD j.toNat 0 % n, j + 1) else (0, j)
theorem nextF_le {l : List Int} {j n : Int} (hj : 0 ≤ j ∧ j ≤ l.length) : 0 ≤ (nextF l j n).1 ∧ ((nextF l j n).1 < n ∨ (nextF l j n).1 = 0) ∧ 0 ≤ (nextF l j n).2 ∧ (nextF l j n).2 ≤ l.length := by
  unfold nextF
  split
  · rename_i h
    have := Int.emod_nonneg (l.getD j.toNat 0) (show n ≠ 0 by omega)
    have := Int.emod_lt_of_pos (l.getD j.toNat 0) (show 0 < n by omega)
    dsimp only
    omega
  · dsimp only
    omega

set_option maxRecDepth 100000 in
theorem next_fn (l : List Int) (j n : Int) (hl : l.length ≤ 9223372036854775807) (hj : 0 ≤ j ∧ j ≤ l.length) (hn : n ≤ 4611686018427387904) :
    Contract Try.prog 56 1 [(0, tape l j)] [.ptr 0 0, I n] fun s post => s = I (nextF l j n).1 ∧ post = [(0, tape l (nextF l j n).2)] := by
  have hlen : (ints l).length = l.length := by simp
  refine contract_of ty_ok [1, 2, 3, 4, 5, 6, 7] Try.func56 rfl (by decide) Try.ntmps56 rfl fun z => ?_
  refine run 400 rfl ?_
  refine at_metF 0 (more_fn l j) rfl rfl rfl ?_
  refine run 400 rfl ?_
  refine at_split 8 rfl (fun h1 => ?_) (fun h1 => ?_)
  · have e : nextF l j n = (0, j) := by simp at h1; rw [nextF, if_neg (by omega)]
    refine run 400 rfl ?_
    exact at_ret rfl rfl [(0, tape l j)] ⟨by rw [e], by rw [e]⟩ ⟨rfl, trivial⟩
  · simp only [Bool.not_eq_false', decide_eq_true_eq] at h1
    refine run 400 rfl ?_
    refine at_ifd rfl (fun h2 => ?_) (fun h2 => ?_)
    · have e : nextF l j n = (0, j) := by rw [nextF, if_neg (by omega)]
      refine run 400 rfl ?_
      exact at_ret rfl rfl [(0, tape l j)] ⟨by rw [e], by rw [e]⟩ ⟨rfl, trivial⟩
    · have e : nextF l j n = (l.getD j.toNat 0 % n, j + 1) := by rw [nextF, if_pos (by omega)]
      refine run 400 rfl ?_
      have hget := ints_get (l := l) (n := j + 1 - 1) (by omega) (by omega)
      have ej : (j + 1 - 1).toNat = j.toNat := by omega
      rw [ej] at hget
      generalize l.getD j.toNat 0 = d at hget e
      refine at_drawn 13 rfl rfl [(9, .val (.rp [.int .i64 d] 0)), (12, .sv (I (d % n)))] [20, 21, 22] rfl ⟨within52 d n (by omega), does_index ty_ok _ rfl rfl rfl (by omega) (by rw [ej]; exact hget) rfl, by show _ ∧ _; omega⟩ ?_
      refine run 400 rfl ?_
      exact at_ret rfl rfl [(0, tape l (j + 1))] ⟨by rw [e], by rw [e]⟩ ⟨rfl, trivial⟩

def pickF (l : List Int) (j : Int) (ss : List ByteArray) : ByteArray × Int := (ss.getD (nextF l j ss.length).1.toNat .empty, (nextF l j ss.length).2)

set_option maxRecDepth 100000 in
theorem pick_fn (l : List Int) (j : Int) (ss : List ByteArray) (hs : ss ≠ []) (hs2 : ss.length ≤ 100) (hl : l.length ≤ 9223372036854775807) (hj : 0 ≤ j ∧ j ≤ l.length) :
    Contract Try.prog 57 1 [(0, tape l j)] [.ptr 0 0, .tl 1 (strs ss)] fun s post => s = .str (pickF l j ss).1 ∧ post = [(0, tape l (pickF l j ss).2)] := by
  have hlen : (strs ss).length = ss.length := by simp
  have hpos : 0 < ss.length := List.length_pos_iff.2 hs
  refine contract_of ty_ok [1, 2, 3, 4, 5, 6, 7] Try.func57 rfl (by decide) Try.ntmps57 rfl fun z => ?_
  refine run 400 rfl ?_
  refine at_false 7 rfl (by simpa using hs) ?_
  have hx := nextF_le (l := l) (j := j) (n := ss.length) hj
  have hn := next_fn l j (strs ss).length hl hj (by omega)
  rw [hlen] at hn
  unfold pickF
  generalize nextF l j ss.length = r at hx hn
  obtain ⟨v, j'⟩ := r
  dsimp only at hx hn ⊢
  refine run 400 rfl ?_
  refine at_metF 0 hn (by rw [← hlen]; rfl) rfl rfl ?_
  have hget := strs_get (l := ss) (n := v) (by omega) (by omega)
  generalize ss.getD v.toNat .empty = d at hget
  refine run 400 rfl ?_
  refine at_val (.rp [.str d] 0) (does_index ty_ok _ rfl rfl rfl (by omega) hget rfl) ?_
  refine run 400 rfl ?_
  exact at_ret rfl rfl [(0, tape l j')] ⟨rfl, rfl⟩ ⟨rfl, trivial⟩

theorem A_fn (b : ByteArray) : Gives Try.prog 36 [.str b] (Tm.mk 1 0 b []).sv := by
  have : Gives Try.prog 36 [.str b] (.agg [I 1, I 0, .str b, .tl 0 []]) := by
    refine contract_of ty_ok [0, 1, 2, 3, 4, 5, 6, 7] Try.func36 rfl (by decide) Try.ntmps36 rfl fun z => ?_
    refine run 400 rfl ?_
    exact at_ret rfl rfl [] ⟨rfl, rfl, rfl⟩ trivial
  refine this.le (SVle.agg ⟨SVle.refl _, SVle.refl _, SVle.refl _, ?_, trivial⟩)
  rw [rowsT_nil]
  exact fun g H x h => SVle.tl 4 [] g H x (SVle.nil 4 g H x h)
theorem N_fn (n : Int) : Gives Try.prog 33 [I n] (Tm.mk 2 n .empty []).sv := by
  have : Gives Try.prog 33 [I n] (.agg [I 2, I n, .str .empty, .tl 0 []]) := by
    refine contract_of ty_ok [0, 1, 2, 3, 4, 5, 6, 7] Try.func33 rfl (by decide) Try.ntmps33 rfl fun z => ?_
    refine run 400 rfl ?_
    exact at_ret rfl rfl [] ⟨rfl, rfl, rfl⟩ trivial
  refine this.le (SVle.agg ⟨SVle.refl _, SVle.refl _, SVle.refl _, ?_, trivial⟩)
  rw [rowsT_nil]
  exact fun g H x h => SVle.tl 4 [] g H x (SVle.nil 4 g H x h)
theorem T_fn (k : Int) (l : List Tm) : Gives Try.prog 35 [I k, .lst 4 (rowsT l)] (Tm.mk k 0 .empty l).sv := by
  refine contract_of ty_ok [0, 1, 2, 3, 4, 5, 6, 7] Try.func35 rfl (by decide) Try.ntmps35 rfl fun z => ?_
  refine run 400 rfl ?_
  exact at_ret rfl rfl [] ⟨rfl, rfl, rfl⟩ trivial
end Go.Proofs.Ytmnmhehddbemkaa
namespace Go.Proofs.Ytmnmhehddbemkaa
open Go Go.Eng

def words : List ByteArray := [⟨#[]⟩, ⟨#[97]⟩, ⟨#[98]⟩, ⟨#[97, 98]⟩, ⟨#[0]⟩, ⟨#[126]⟩, ⟨#[97, 108, 105, 99, 101]⟩, ⟨#[99, 49]⟩, ⟨#[126, 65, 103, 65, 65, 65, 65, 69, 126]⟩]
def nums : List Int := [1, 2, 3, 4, 5, 0, 300, 1073741824]
def leafA (ns : List Int) (j : Int) : Tm × Int := let p := pickF ns j words; (.mk 1 0 p.1 [], p.2)
def leafN (ns : List Int) (j : Int) : Tm × Int := let q := nextF ns j 8; (.mk 2 (nums.getD q.1.toNat 0) .empty [], q.2)
/-- A term of numbers. -/
def genT (ns : List Int) : Nat → Int → Tm × Int
  | 0, j => let r := nextF ns j 10; if r.1.tmod 5 < 2 then leafA ns r.2 else leafN ns r.2
  | d + 1, j => let r := nextF ns j 10
    if r.1 < 2 then leafA ns r.2 else if r.1 < 5 then leafN ns r.2
    else if r.1 < 7 then (let u := genT ns d r.2; (.mk (3 + r.1 - 5) 0 .empty [u.1], u.2))
    else (let u := genT ns d r.2; let v := genT ns d u.2; (.mk (5 + r.1 - 7) 0 .empty [u.1, v.1], v.2))

theorem genT_le (ns : List Int) : ∀ (d : Nat) (j : Int), 0 ≤ j ∧ j ≤ ns.length → 0 ≤ (genT ns d j).2 ∧ (genT ns d j).2 ≤ ns.length := by
  have hA : ∀ j : Int, 0 ≤ j ∧ j ≤ ns.length → 0 ≤ (leafA ns j).2 ∧ (leafA ns j).2 ≤ ns.length := fun j h => by
    have := nextF_le (l := ns) (j := j) (n := words.length) h
    exact this.2.2
  have hN : ∀ j : Int, 0 ≤ j ∧ j ≤ ns.length → 0 ≤ (leafN ns j).2 ∧ (leafN ns j).2 ≤ ns.length := fun j h => by
    have := nextF_le (l := ns) (j := j) (n := 8) h
    exact this.2.2
  intro d
  induction d with
  | zero =>
    intro j h
    have hx := nextF_le (l := ns) (j := j) (n := 10) h
    simp only [genT]
    split
    · exact hA _ hx.2.2
    · exact hN _ hx.2.2
  | succ d ih =>
    intro j h
    have hx := nextF_le (l := ns) (j := j) (n := 10) h
    simp only [genT]
    split
    · exact hA _ hx.2.2
    · split
      · exact hN _ hx.2.2
      · split
        · exact ih _ hx.2.2
        · exact ih _ (ih _ hx.2.2)

set_option maxRecDepth 100000 in
theorem term_fn (ns : List Int) (hl : ns.length ≤ 9223372036854775807) : ∀ (d : Nat), d ≤ 100 → ∀ j : Int, 0 ≤ j → j ≤ ns.length →
    Contract Try.prog 55 1 [(0, tape ns j)] [.ptr 0 0, I d] fun s post => s = (genT ns d j).1.sv ∧ post = [(0, tape ns (genT ns d j).2)] := by
  intro d
  induction d with
  | zero =>
    intro _ j h0 h1
    refine contract_of ty_ok [1, 2, 3, 4, 5, 6, 7] Try.func55 rfl (by decide) Try.ntmps55 rfl fun z => ?_
    have hx := nextF_le (l := ns) (j := j) (n := 10) ⟨h0, h1⟩
    have hn := next_fn ns j 10 hl ⟨h0, h1⟩ (by omega)
    have hg : genT ns 0 j = if (nextF ns j 10).1.tmod 5 < 2 then leafA ns (nextF ns j 10).2 else leafN ns (nextF ns j 10).2 := rfl
    generalize nextF ns j 10 = r at hx hn hg
    obtain ⟨v, j1⟩ := r
    dsimp only at hx hn hg
    have ht := (tmod_val v 5 (by omega)).2
    refine run 400 rfl ?_
    refine at_metF 0 hn rfl rfl rfl ?_
    refine run 400 rfl ?_
    refine at_ifd rfl (fun g1 => ?_) (fun g1 => absurd (by omega) g1)
    refine run 400 rfl ?_
    refine at_ifd rfl (fun g2 => ?_) (fun g2 => ?_)
    · rw [if_pos g2] at hg
      refine run 400 rfl ?_
      refine at_gro (.tl 1 (strs words)) (doesG_build ty_ok _ rfl ⟨⟨rfl, rfl, _, rfl, SVles.refl _⟩, ⟨rfl, rfl, _, rfl, SVles.refl _⟩, ⟨rfl, rfl, _, rfl, SVles.refl _⟩, ⟨rfl, rfl, _, rfl, SVles.refl _⟩, ⟨rfl, rfl, _, rfl, SVles.refl _⟩, ⟨rfl, rfl, _, rfl, SVles.refl _⟩, ⟨rfl, rfl, _, rfl, SVles.refl _⟩, ⟨rfl, rfl, _, rfl, SVles.refl _⟩, ⟨rfl, rfl, _, rfl, SVles.refl _⟩, trivial⟩ rfl rfl (by decide)) ?_
      refine run 400 rfl ?_
      refine at_metF 0 (pick_fn ns j1 words (by simp [words]) (by simp [words]) hl (by omega)) rfl rfl rfl ?_
      refine run 400 rfl ?_
      refine at_fn (A_fn _) rfl ?_
      refine run 400 rfl ?_
      exact at_ret rfl rfl [(0, tape ns (pickF ns j1 words).2)] ⟨by rw [hg]; rfl, by rw [hg]; rfl⟩ ⟨rfl, trivial⟩
    · rw [if_neg g2] at hg
      refine run 400 rfl ?_
      refine at_ifd rfl (fun g3 => ?_) (fun g3 => absurd (by omega) g3)
      refine run 400 rfl ?_
      refine at_gro (.tl 1 (ints nums)) (doesG_build ty_ok _ rfl ⟨⟨rfl, rfl, _, rfl, SVles.refl _⟩, ⟨rfl, rfl, _, rfl, SVles.refl _⟩, ⟨rfl, rfl, _, rfl, SVles.refl _⟩, ⟨rfl, rfl, _, rfl, SVles.refl _⟩, ⟨rfl, rfl, _, rfl, SVles.refl _⟩, ⟨rfl, rfl, _, rfl, SVles.refl _⟩, ⟨rfl, rfl, _, rfl, SVles.refl _⟩, ⟨rfl, rfl, _, rfl, SVles.refl _⟩, trivial⟩ rfl rfl (by decide)) ?_
      refine run 400 rfl ?_
      have hq := nextF_le (l := ns) (j := j1) (n := 8) (by omega)
      refine at_metF 0 (next_fn ns j1 8 hl (by omega) (by omega)) rfl rfl rfl ?_
      refine run 400 rfl ?_
      refine at_val (.rp [.int .i64 (nums.getD (nextF ns j1 8).1.toNat 0)] 0) (does_index ty_ok _ rfl rfl rfl hq.1 (ints_get hq.1 (by simp [nums]; omega)) rfl) ?_
      refine run 400 rfl ?_
      refine at_fn (N_fn _) rfl ?_
      refine run 400 rfl ?_
      exact at_ret rfl rfl [(0, tape ns (nextF ns j1 8).2)] ⟨by rw [hg]; rfl, by rw [hg]; rfl⟩ ⟨rfl, trivial⟩
  | succ d ih =>
    intro hd j h0 h1
    refine contract_of ty_ok [1, 2, 3, 4, 5, 6, 7] Try.func55 rfl (by decide) Try.ntmps55 rfl fun z => ?_
    have hx := nextF_le (l := ns) (j := j) (n := 10) ⟨h0, h1⟩
    have hn := next_fn ns j 10 hl ⟨h0, h1⟩ (by omega)
    have hg : genT ns (d + 1) j = if (nextF ns j 10).1 < 2 then leafA ns (nextF ns j 10).2 else if (nextF ns j 10).1 < 5 then leafN ns (nextF ns j 10).2
      else if (nextF ns j 10).1 < 7 then (.mk (3 + (nextF ns j 10).1 - 5) 0 .empty [(genT ns d (nextF ns j 10).2).1], (genT ns d (nextF ns j 10).2).2)
      else (.mk (5 + (nextF ns j 10).1 - 7) 0 .empty [(genT ns d (nextF ns j 10).2).1, (genT ns d (genT ns d (nextF ns j 10).2).2).1], (genT ns d (genT ns d (nextF ns j 10).2).2).2) := rfl
    generalize nextF ns j 10 = r at hx hn hg
    obtain ⟨v, j1⟩ := r
    dsimp only at hx hn hg
    refine run 400 rfl ?_
    refine at_metF 0 hn rfl rfl rfl ?_
    refine run 400 rfl ?_
    refine at_ifd rfl (fun g1 => absurd g1 (by omega)) (fun g1 => ?_)
    refine run 400 rfl ?_
    refine at_ifd rfl (fun g2 => ?_) (fun g2 => ?_)
    · rw [if_pos g2] at hg
      refine run 400 rfl ?_
      refine at_gro (.tl 1 (strs words)) (doesG_build ty_ok _ rfl ⟨⟨rfl, rfl, _, rfl, SVles.refl _⟩, ⟨rfl, rfl, _, rfl, SVles.refl _⟩, ⟨rfl, rfl, _, rfl, SVles.refl _⟩, ⟨rfl, rfl, _, rfl, SVles.refl _⟩, ⟨rfl, rfl, _, rfl, SVles.refl _⟩, ⟨rfl, rfl, _, rfl, SVles.refl _⟩, ⟨rfl, rfl, _, rfl, SVles.refl _⟩, ⟨rfl, rfl, _, rfl, SVles.refl _⟩, ⟨rfl, rfl, _, rfl, SVles.refl _⟩, trivial⟩ rfl rfl (by decide)) ?_
      refine run 400 rfl ?_
      refine at_metF 0 (pick_fn ns j1 words (by simp [words]) (by simp [words]) hl (by omega)) rfl rfl rfl ?_
      refine run 400 rfl ?_
      refine at_fn (A_fn _) rfl ?_
      refine run 400 rfl ?_
      exact at_ret rfl rfl [(0, tape ns (pickF ns j1 words).2)] ⟨by rw [hg]; rfl, by rw [hg]; rfl⟩ ⟨rfl, trivial⟩
    rw [if_neg g2] at hg
    refine run 400 rfl ?_
    refine at_ifd rfl (fun g3 => ?_) (fun g3 => ?_)
    · rw [if_pos g3] at hg
      refine run 400 rfl ?_
      refine at_gro (.tl 1 (ints nums)) (doesG_build ty_ok _ rfl ⟨⟨rfl, rfl, _, rfl, SVles.refl _⟩, ⟨rfl, rfl, _, rfl, SVles.refl _⟩, ⟨rfl, rfl, _, rfl, SVles.refl _⟩, ⟨rfl, rfl, _, rfl, SVles.refl _⟩, ⟨rfl, rfl, _, rfl, SVles.refl _⟩, ⟨rfl, rfl, _, rfl, SVles.refl _⟩, ⟨rfl, rfl, _, rfl, SVles.refl _⟩, ⟨rfl, rfl, _, rfl, SVles.refl _⟩, trivial⟩ rfl rfl (by decide)) ?_
      refine run 400 rfl ?_
      have hq := nextF_le (l := ns) (j := j1) (n := 8) (by omega)
      refine at_metF 0 (next_fn ns j1 8 hl (by omega) (by omega)) rfl rfl rfl ?_
      refine run 400 rfl ?_
      refine at_val (.rp [.int .i64 (nums.getD (nextF ns j1 8).1.toNat 0)] 0) (does_index ty_ok _ rfl rfl rfl hq.1 (ints_get hq.1 (by simp [nums]; omega)) rfl) ?_
      refine run 400 rfl ?_
      refine at_fn (N_fn _) rfl ?_
      refine run 400 rfl ?_
      exact at_ret rfl rfl [(0, tape ns (nextF ns j1 8).2)] ⟨by rw [hg]; rfl, by rw [hg]; rfl⟩ ⟨rfl, trivial⟩
    rw [if_neg g3] at hg
    have e1 : (((d + 1 : Nat) : Int) - 1) = (d : Int) := by omega
    have hu := ih (by omega) j1 (by omega) (by omega)
    have hu2 := genT_le ns d j1 (by omega)
    generalize genT ns d j1 = u at hu hu2 hg
    obtain ⟨a, j2⟩ := u
    dsimp only at hu hu2 hg
    refine run 400 rfl ?_
    refine at_ifd rfl (fun g4 => ?_) (fun g4 => ?_)
    · rw [if_pos g4] at hg
      refine run 400 rfl ?_
      refine at_metF 0 hu (by rw [← e1]; rfl) rfl rfl ?_
      refine run 400 rfl ?_
      refine at_gro (.tl 4 [tr a]) (doesG_build ty_ok _ rfl ⟨⟨rfl, rfl, _, rfl, SVles.refl _⟩, trivial⟩ rfl rfl (by decide)) ?_
      have hT : Gives Try.prog 35 [I (3 + v - 5), .tl 4 [tr a]] (Tm.mk (3 + v - 5) 0 .empty [a]).sv := (T_fn _ [a]).weak ⟨SVle.refl _, by rw [rowsT_cons, rowsT_nil]; exact SVle.tl _ _, trivial⟩
      refine at_fn hT rfl ?_
      refine run 400 rfl ?_
      exact at_ret rfl rfl [(0, tape ns j2)] ⟨by rw [hg], by rw [hg]⟩ ⟨rfl, trivial⟩
    · rw [if_neg g4] at hg
      have hv := ih (by omega) j2 (by omega) (by omega)
      have hv2 := genT_le ns d j2 (by omega)
      generalize genT ns d j2 = w at hv hv2 hg
      obtain ⟨b, j3⟩ := w
      dsimp only at hv hv2 hg
      refine run 400 rfl ?_
      refine at_metF 0 hu (by rw [← e1]; rfl) rfl rfl ?_
      refine run 400 rfl ?_
      have hT : Gives Try.prog 35 [I (5 + v - 7), .tl 4 [tr a, tr b]] (Tm.mk (5 + v - 7) 0 .empty [a, b]).sv := (T_fn _ [a, b]).weak ⟨SVle.refl _, by rw [rowsT_cons, rowsT_cons, rowsT_nil]; exact SVle.tl _ _, trivial⟩
      refine at_drawn_st 10 [0] rfl rfl [(7, .met 0 (tape ns j3) b.sv), (8, .gro (.tl 4 [tr a, tr b])), (9, .sv (Tm.mk (5 + v - 7) 0 .empty [a, b]).sv)] [20, 21, 22] rfl
        ⟨hT, doesG_build ty_ok _ rfl ⟨⟨rfl, rfl, _, rfl, SVles.refl _⟩, ⟨rfl, rfl, _, rfl, SVles.refl _⟩, trivial⟩ rfl rfl (by decide), doesM_call hv (by rw [← e1]; rfl), by show _ ∧ _; omega, by show _ ∧ _; omega, by show _ ∧ _; omega⟩ ?_
      refine run 400 rfl ?_
      exact at_ret rfl rfl [(0, tape ns j3)] ⟨by rw [hg], by rw [hg]⟩ ⟨rfl, trivial⟩
end Go.Proofs.Ytmnmhehddbemkaa
namespace Go.Proofs.Ytmnmhehddbemkaa
open Go Go.Eng

def genL (ns : List Int) : Nat → Int → List Tm
  | 0, _ => []
  | n + 1, j => if j < ns.length then (genT ns 3 j).1 :: genL ns n (genT ns 3 j).2 else []
theorem genL_len (ns : List Int) : ∀ (n : Nat) (j : Int), (genL ns n j).length ≤ n
  | 0, _ => by simp [genL]
  | n + 1, j => by
    rw [genL]
    split
    · have := genL_len ns n (genT ns 3 j).2
      simp; omega
    · simp

set_option maxRecDepth 100000 in
theorem terms_fn (ns : List Int) (most : Nat) (hl : ns.length ≤ 9223372036854775807) (hm : most ≤ 1000) : Gives Try.prog 17 [.lst 1 (ints ns), I most] (.lst 4 (rowsT (genL ns most 0))) := by
  refine contract_of ty_ok [0, 1, 2, 3, 4, 6, 7] Try.func17 rfl (by decide) Try.ntmps17 rfl fun z => ?_
  refine run 400 rfl ?_
  refine at_name 6 5 4 rfl (.inr rfl) ?_
  refine at_loop (fun x : List Tm × Nat × Int => x.2.1 ≤ most ∧ x.1.length = x.2.1 ∧ 0 ≤ x.2.2 ∧ x.2.2 ≤ ns.length ∧ x.1 ++ genL ns (most - x.2.1) x.2.2 = genL ns most 0)
    (fun x => [(1, I most), (5, .ptr 0 0), (6, .gl 5 4 (rowsT x.1)), (7, I x.2.1)]) (fun x => [(0, tape ns x.2.2), (5, .tok 4)]) (fun x => most - x.2.1) [1, 2, 3, 4, 6, 7]
    ([], 0, 0) ⟨by simp, rfl, by simp, by simp, by simp⟩ ⟨SVle.refl _, SVle.refl _, SVle.of_eq (by show SV.gl 5 4 [] = SV.gl 5 4 (rowsT []); rw [rowsT_nil]), SVle.refl _, trivial⟩ ⟨rfl, rfl, trivial⟩ ?_
  rintro ⟨acc, i, j⟩ ⟨a1, a2, a3, a4, a5⟩
  dsimp only at a1 a2 a3 a4 a5
  refine run 400 rfl ?_
  refine at_split 14 rfl (fun h => ?_) (fun h => ?_)
  rotate_left
  · rw [decide_eq_false_iff_not] at h
    dsimp only at h
    have e : most - i = 0 := by omega
    rw [e, genL, List.append_nil] at a5
    refine at_deg 5 ?_
    refine run 400 rfl ?_
    exact at_ret rfl rfl [] ⟨by rw [a5], rfl, rfl⟩ trivial
  rw [decide_eq_true_eq] at h
  dsimp only at h
  refine run 400 rfl ?_
  refine at_metF 0 (more_fn ns j) rfl rfl rfl ?_
  refine run 400 rfl ?_
  obtain ⟨q, hq⟩ : ∃ q, most - i = q + 1 := ⟨most - i - 1, by omega⟩
  rw [hq, genL] at a5
  refine at_ifd rfl (fun h2 => ?_) (fun h2 => ?_)
  rotate_left
  · rw [if_neg h2, List.append_nil] at a5
    refine at_deg 5 ?_
    refine run 400 rfl ?_
    exact at_ret rfl rfl [] ⟨by rw [a5], rfl, rfl⟩ trivial
  rw [if_pos h2] at a5
  have ht := term_fn ns hl 3 (by omega) j a3 a4
  have ht2 := genT_le ns 3 j ⟨a3, a4⟩
  generalize genT ns 3 j = u at ht ht2 a5
  obtain ⟨u, j'⟩ := u
  dsimp only at ht ht2 a5
  have hlen : (rowsT acc).length = acc.length := rowsT_len acc
  refine run 400 rfl ?_
  refine at_metF 0 ht rfl rfl rfl ?_
  refine run 400 rfl ?_
  refine at_gro (.tl 4 [tr u]) (doesG_build ty_ok _ rfl ⟨⟨rfl, rfl, _, rfl, SVles.refl _⟩, trivial⟩ rfl rfl (by decide)) ?_
  refine at_grow 5 5 4 (rowsT acc ++ [tr u]) rfl (doesU_append ty_ok rfl rfl rfl rfl rfl rfl rfl (by simp; omega) (by show _ * 56 ≤ _; simp; omega)) rfl ?_
  refine run 400 rfl ?_
  exact at_again (acc ++ [u], i + 1, j') ⟨by dsimp only; omega, by simp [a2], by dsimp only; omega, by dsimp only; omega, by dsimp only; rw [← a5, List.append_assoc, show most - (i + 1) = q by omega]; rfl⟩ (by dsimp only; omega)
    ⟨SVle.refl _, SVle.refl _, SVle.of_eq (by show SV.gl 5 4 (rowsT acc ++ [tr u]) = SV.gl 5 4 (rowsT (acc ++ [u])); rw [rowsT_app, rowsT_cons, rowsT_nil]), SVle.of_eq (by show I ((i : Int) + 1) = I ((i + 1 : Nat) : Int); rw [Int.natCast_add]; rfl), trivial⟩ ⟨rfl, rfl, trivial⟩
end Go.Proofs.Ytmnmhehddbemkaa
namespace Go.Proofs.Ytmnmhehddbemkaa
open Go Go.Eng

/-- A move. -/
structure Mv where
  k : Int
  a : Int
  b : Int
  s : ByteArray
abbrev mr (m : Mv) : List DV := [.int .i64 m.k, .int .i64 m.a, .int .i64 m.b, .str m.s]
abbrev Mv.sv (m : Mv) : SV := .agg [I m.k, I m.a, I m.b, .str m.s]
abbrev rowsM (l : List Mv) : List (List DV) := l.map mr
def Mv.zero : Mv := ⟨0, 0, 0, .empty⟩
theorem rowsM_get {l : List Mv} {n : Nat} (h : n < l.length) : (rowsM l)[n]? = some (mr (l.getD n .zero)) := by
  rw [List.getElem?_map, List.getElem?_eq_getElem h, List.getD_eq_getElem?_getD, List.getElem?_eq_getElem h]
  rfl

def few : List ByteArray := [⟨#[97]⟩, ⟨#[98]⟩, ⟨#[]⟩]
/-- A move of numbers, and where the tape stands behind it. -/
def genV (ns : List Int) (i j : Int) : Mv × Int :=
  let r1 := nextF ns j 10
  let r2 := nextF ns r1.2 (i + 1)
  let r3 := nextF ns r2.2 (i + 1)
  let p := pickF ns r3.2 few
  let c := nextF ns p.2 12
  if c.1 = 0 then (⟨(nextF ns c.2 13).1, (nextF ns (nextF ns c.2 13).2 30).1 - 2, r3.1, p.1⟩, (nextF ns (nextF ns c.2 13).2 30).2)
  else (⟨1 + r1.1, r2.1, r3.1, p.1⟩, c.2)
def genM (ns : List Int) : Nat → Nat → Int → List Mv
  | 0, _, _ => []
  | n + 1, i, j => if j < ns.length then (genV ns i j).1 :: genM ns n (i + 1) (genV ns i j).2 else []
theorem genM_len (ns : List Int) : ∀ (n i : Nat) (j : Int), (genM ns n i j).length ≤ n
  | 0, _, _ => by simp [genM]
  | n + 1, i, j => by
    rw [genM]
    split
    · have := genM_len ns n (i + 1) (genV ns i j).2
      simp; omega
    · simp

set_option maxRecDepth 100000 in
theorem moves_fn (ns : List Int) (most : Nat) (hl : ns.length ≤ 9223372036854775807) (hm : most ≤ 1000) : Gives Try.prog 18 [.lst 1 (ints ns), I most] (.lst 4 (rowsM (genM ns most 0 0))) := by
  refine contract_of ty_ok [0, 1, 2, 3, 4, 6, 7] Try.func18 rfl (by decide) Try.ntmps18 rfl fun z => ?_
  refine run 400 rfl ?_
  refine at_name 6 5 4 rfl (.inr rfl) ?_
  refine at_loop (fun x : List Mv × Nat × Int => x.2.1 ≤ most ∧ x.1.length = x.2.1 ∧ 0 ≤ x.2.2 ∧ x.2.2 ≤ ns.length ∧ x.1 ++ genM ns (most - x.2.1) x.2.1 x.2.2 = genM ns most 0 0)
    (fun x => [(1, I most), (5, .ptr 0 0), (6, .gl 5 4 (rowsM x.1)), (7, I x.2.1)]) (fun x => [(0, tape ns x.2.2), (5, .tok 4)]) (fun x => most - x.2.1) [1, 2, 3, 4, 6, 7]
    ([], 0, 0) ⟨by simp, rfl, by simp, by simp, by simp⟩ ⟨SVle.refl _, SVle.refl _, SVle.refl _, SVle.refl _, trivial⟩ ⟨rfl, rfl, trivial⟩ ?_
  rintro ⟨acc, i, j⟩ ⟨a1, a2, a3, a4, a5⟩
  dsimp only at a1 a2 a3 a4 a5
  refine run 400 rfl ?_
  refine at_split 15 rfl (fun h => ?_) (fun h => ?_)
  rotate_left
  · rw [decide_eq_false_iff_not] at h
    dsimp only at h
    have e : most - i = 0 := by omega
    rw [e, genM, List.append_nil] at a5
    refine at_deg 5 ?_
    refine run 400 rfl ?_
    exact at_ret rfl rfl [] ⟨by rw [a5], rfl, rfl⟩ trivial
  rw [decide_eq_true_eq] at h
  dsimp only at h
  refine run 400 rfl ?_
  refine at_metF 0 (more_fn ns j) rfl rfl rfl ?_
  refine run 400 rfl ?_
  obtain ⟨q, hq⟩ : ∃ q, most - i = q + 1 := ⟨most - i - 1, by omega⟩
  rw [hq, genM] at a5
  refine at_ifd rfl (fun h2 => ?_) (fun h2 => ?_)
  rotate_left
  · rw [if_neg h2, List.append_nil] at a5
    refine at_deg 5 ?_
    refine run 400 rfl ?_
    exact at_ret rfl rfl [] ⟨by rw [a5], rfl, rfl⟩ trivial
  rw [if_pos h2] at a5
  have hlen : (rowsM acc).length = acc.length := by simp
  have hv : genV ns i j = if (nextF ns (pickF ns (nextF ns (nextF ns (nextF ns j 10).2 (i + 1)).2 (i + 1)).2 few).2 12).1 = 0 then
      (⟨(nextF ns (nextF ns (pickF ns (nextF ns (nextF ns (nextF ns j 10).2 (i + 1)).2 (i + 1)).2 few).2 12).2 13).1, (nextF ns (nextF ns (nextF ns (pickF ns (nextF ns (nextF ns (nextF ns j 10).2 (i + 1)).2 (i + 1)).2 few).2 12).2 13).2 30).1 - 2, (nextF ns (nextF ns (nextF ns j 10).2 (i + 1)).2 (i + 1)).1, (pickF ns (nextF ns (nextF ns (nextF ns j 10).2 (i + 1)).2 (i + 1)).2 few).1⟩, (nextF ns (nextF ns (nextF ns (pickF ns (nextF ns (nextF ns (nextF ns j 10).2 (i + 1)).2 (i + 1)).2 few).2 12).2 13).2 30).2)
      else (⟨1 + (nextF ns j 10).1, (nextF ns (nextF ns j 10).2 (i + 1)).1, (nextF ns (nextF ns (nextF ns j 10).2 (i + 1)).2 (i + 1)).1, (pickF ns (nextF ns (nextF ns (nextF ns j 10).2 (i + 1)).2 (i + 1)).2 few).1⟩, (nextF ns (pickF ns (nextF ns (nextF ns (nextF ns j 10).2 (i + 1)).2 (i + 1)).2 few).2 12).2) := rfl
  have n1 := next_fn ns j 10 hl ⟨a3, a4⟩ (by omega)
  have l1 := nextF_le (l := ns) (j := j) (n := 10) ⟨a3, a4⟩
  generalize nextF ns j 10 = r1 at hv n1 l1
  obtain ⟨v1, j1⟩ := r1
  dsimp only at hv n1 l1
  have n2 := next_fn ns j1 (i + 1) hl l1.2.2 (by omega)
  have l2 := nextF_le (l := ns) (j := j1) (n := i + 1) l1.2.2
  generalize nextF ns j1 (i + 1) = r2 at hv n2 l2
  obtain ⟨v2, j2⟩ := r2
  dsimp only at hv n2 l2
  have n3 := next_fn ns j2 (i + 1) hl l2.2.2 (by omega)
  have l3 := nextF_le (l := ns) (j := j2) (n := i + 1) l2.2.2
  generalize nextF ns j2 (i + 1) = r3 at hv n3 l3
  obtain ⟨v3, j3⟩ := r3
  dsimp only at hv n3 l3
  have n4 := pick_fn ns j3 few (by simp [few]) (by simp [few]) hl l3.2.2
  have l4 : 0 ≤ (pickF ns j3 few).2 ∧ (pickF ns j3 few).2 ≤ ns.length := (nextF_le (l := ns) (j := j3) (n := few.length) l3.2.2).2.2
  generalize pickF ns j3 few = r4 at hv n4 l4
  obtain ⟨v4, j4⟩ := r4
  dsimp only at hv n4 l4
  have n5 := next_fn ns j4 12 hl l4 (by omega)
  have l5 := nextF_le (l := ns) (j := j4) (n := 12) l4
  generalize nextF ns j4 12 = r5 at hv n5 l5
  obtain ⟨v5, j5⟩ := r5
  dsimp only at hv n5 l5
  refine run 400 rfl ?_
  refine at_metF 0 n1 rfl rfl rfl ?_
  refine run 400 rfl ?_
  refine at_metF 0 n2 rfl rfl rfl ?_
  refine run 400 rfl ?_
  refine at_metF 0 n3 rfl rfl rfl ?_
  refine run 400 rfl ?_
  refine at_gro (.tl 1 (strs few)) (doesG_build ty_ok _ rfl ⟨⟨rfl, rfl, _, rfl, SVles.refl _⟩, ⟨rfl, rfl, _, rfl, SVles.refl _⟩, ⟨rfl, rfl, _, rfl, SVles.refl _⟩, trivial⟩ rfl rfl (by decide)) ?_
  refine run 400 rfl ?_
  refine at_metF 0 n4 rfl rfl rfl ?_
  refine run 400 rfl ?_
  refine at_metF 0 n5 rfl rfl rfl ?_
  refine run 400 rfl ?_
  refine at_join (fun x : Mv × Int => genV ns i j = x ∧ 0 ≤ x.2 ∧ x.2 ≤ ns.length) (fun x => [(1, I most), (5, .ptr 0 0), (6, .gl 5 4 (rowsM acc)), (7, I i), (8, .ptr 1 0)]) (fun x => [(0, tape ns x.2), (1, .cells 37 [I x.1.k, I x.1.a, I x.1.b, .str x.1.s]), (5, .tok 4)]) [2, 3, 4, 6, 7] ?_ ?_
  · refine at_if rfl (fun g => ?_) (fun g => ?_)
    · have g : v5 = 0 := by simpa using g
      rw [if_pos g] at hv
      have n6 := next_fn ns j5 13 hl l5.2.2 (by omega)
      have l6 := nextF_le (l := ns) (j := j5) (n := 13) l5.2.2
      generalize nextF ns j5 13 = r6 at hv n6 l6
      obtain ⟨v6, j6⟩ := r6
      dsimp only at hv n6 l6
      have n7 := next_fn ns j6 30 hl l6.2.2 (by omega)
      have l7 := nextF_le (l := ns) (j := j6) (n := 30) l6.2.2
      generalize nextF ns j6 30 = r7 at hv n7 l7
      obtain ⟨v7, j7⟩ := r7
      dsimp only at hv n7 l7
      refine run 400 rfl ?_
      refine at_metF 0 n6 rfl rfl rfl ?_
      refine run 400 rfl ?_
      refine at_metF 0 n7 rfl rfl rfl ?_
      refine run 400 rfl ?_
      exact at_joined (⟨v6, v7 - 2, v3, v4⟩, j7) ⟨hv, l7.2.2⟩ ⟨SVle.refl _, SVle.refl _, SVle.refl _, SVle.refl _, SVle.refl _, trivial⟩ ⟨rfl, rfl, rfl, trivial⟩
    · have g : ¬ v5 = 0 := by simpa using g
      rw [if_neg g] at hv
      refine run 400 rfl ?_
      exact at_joined (⟨1 + v1, v2, v3, v4⟩, j5) ⟨hv, l5.2.2⟩ ⟨SVle.refl _, SVle.refl _, SVle.refl _, SVle.refl _, SVle.refl _, trivial⟩ ⟨rfl, rfl, rfl, trivial⟩
  rintro ⟨m, j'⟩ ⟨hm', hj1, hj2⟩
  dsimp only at hj1 hj2
  rw [hm'] at a5
  dsimp only at a5
  refine run 400 rfl ?_
  refine at_gro (.tl 4 [mr m]) (doesG_build ty_ok _ rfl ⟨⟨rfl, rfl, _, rfl, SVles.refl _⟩, trivial⟩ rfl rfl (by decide)) ?_
  refine at_grow 5 5 4 (rowsM acc ++ [mr m]) rfl (doesU_append ty_ok rfl rfl rfl rfl rfl rfl rfl (by simp; omega) (by show _ * 40 ≤ _; simp; omega)) rfl ?_
  refine run 400 rfl ?_
  exact at_again (acc ++ [m], i + 1, j') ⟨by dsimp only; omega, by simp [a2], by dsimp only; omega, by dsimp only; omega, by dsimp only; rw [← a5, List.append_assoc, show most - (i + 1) = q by omega]; rfl⟩ (by dsimp only; omega)
    ⟨SVle.refl _, SVle.refl _, SVle.of_eq (by show SV.gl 5 4 (rowsM acc ++ [mr m]) = SV.gl 5 4 (rowsM (acc ++ [m])); simp), SVle.of_eq (by show I ((i : Int) + 1) = I ((i + 1 : Nat) : Int); rw [Int.natCast_add]; rfl), trivial⟩ ⟨rfl, rfl, trivial⟩
end Go.Proofs.Ytmnmhehddbemkaa
namespace Go.Proofs.Ytmnmhehddbemkaa
open Go Go.Eng

/-- A move as a step. -/
inductive St where
  | given (n : Int)
  | atom (s : ByteArray)
  | half (a k d : Int)
  | one (k a : Int)
  | two (k a b : Int)
abbrev St.ty : St → Nat
  | .given _ => 125
  | .atom _ => 126
  | .half _ _ _ => 108
  | .one _ _ => 128
  | .two _ _ _ => 130
abbrev St.v : St → Value
  | .given n => .int .i64 n
  | .atom s => .string s
  | .half a k d => .agg #[.int .i64 a, .int .i64 k, .int .i64 d]
  | .one k a => .agg #[.int .i64 k, .int .i64 a]
  | .two k a b => .agg #[.int .i64 k, .int .i64 a, .int .i64 b]
abbrev St.sv : St → SV
  | .given n => I n
  | .atom s => .str s
  | .half a k d => .agg [I a, I k, I d]
  | .one k a => .agg [I k, I a]
  | .two k a b => .agg [I k, I a, I b]
theorem St.den (s : St) (g : Nat → Value) (H : Hp) : Den g H s.sv s.v := by
  cases s with
  | given n => rfl
  | atom s => rfl
  | half a k d => exact ⟨_, rfl, rfl, rfl, rfl, trivial⟩
  | one k a => exact ⟨_, rfl, rfl, rfl, trivial⟩
  | two k a b => exact ⟨_, rfl, rfl, rfl, rfl, trivial⟩
abbrev optV : Option St → Value
  | none => .nilIface
  | some s => .iface s.ty s.v

def readF (m : Mv) : Option St := if m.k = 1 then some (.given m.a) else if m.k = 2 then some (.atom m.s) else if m.k = 3 then some (.half m.a 7 0) else if m.k = 4 then some (.half m.a 7 1) else if m.k = 5 then some (.half m.a 6 1)
  else if m.k = 6 then some (.one 3 m.a) else if m.k = 7 then some (.one 4 m.a) else if m.k = 8 then some (.two 5 m.a m.b) else if m.k = 9 then some (.two 6 m.a m.b) else if m.k = 10 then some (.two 7 m.a m.b) else none

set_option maxRecDepth 100000 in
theorem read_fn (m : Mv) : Gives Try.prog 84 [m.sv] (.val (optV (readF m))) := by
  refine contract_of ty_ok [0, 1, 2, 3, 4, 5, 6, 7] Try.func84 rfl (by decide) Try.ntmps84 rfl fun z => ?_
  refine run 400 rfl ?_
  refine at_split 5 rfl (fun h1 => ?_) (fun h1 => ?_)
  · have e : readF m = some (.given m.a) := by simp at h1; rw [readF, if_pos h1]
    refine run 400 rfl ?_
    refine at_val (.val (.iface 125 (St.v (.given m.a)))) (does_iface ty_ok (St.v (.given m.a)) rfl rfl rfl) ?_
    refine run 400 rfl ?_
    exact at_ret rfl rfl [] ⟨by rw [e], rfl, rfl⟩ trivial
  refine run 400 rfl ?_
  refine at_split 10 rfl (fun h2 => ?_) (fun h2 => ?_)
  · have e : readF m = some (.atom m.s) := by simp at h1 h2; rw [readF, if_neg h1, if_pos h2]
    refine run 400 rfl ?_
    refine at_val (.val (.iface 126 (St.v (.atom m.s)))) (does_iface ty_ok (St.v (.atom m.s)) rfl rfl rfl) ?_
    refine run 400 rfl ?_
    exact at_ret rfl rfl [] ⟨by rw [e], rfl, rfl⟩ trivial
  refine run 400 rfl ?_
  refine at_split 15 rfl (fun h3 => ?_) (fun h3 => ?_)
  · have e : readF m = some (.half m.a 7 0) := by simp at h1 h2 h3; rw [readF, if_neg h1, if_neg h2, if_pos h3]
    refine run 400 rfl ?_
    refine at_val (.val (.iface 108 (St.v (.half m.a 7 0)))) (does_iface ty_ok (St.v (.half m.a 7 0)) rfl rfl rfl) ?_
    refine run 400 rfl ?_
    exact at_ret rfl rfl [] ⟨by rw [e], rfl, rfl⟩ trivial
  refine run 400 rfl ?_
  refine at_split 21 rfl (fun h4 => ?_) (fun h4 => ?_)
  · have e : readF m = some (.half m.a 7 1) := by simp at h1 h2 h3 h4; rw [readF, if_neg h1, if_neg h2, if_neg h3, if_pos h4]
    refine run 400 rfl ?_
    refine at_val (.val (.iface 108 (St.v (.half m.a 7 1)))) (does_iface ty_ok (St.v (.half m.a 7 1)) rfl rfl rfl) ?_
    refine run 400 rfl ?_
    exact at_ret rfl rfl [] ⟨by rw [e], rfl, rfl⟩ trivial
  refine run 400 rfl ?_
  refine at_split 27 rfl (fun h5 => ?_) (fun h5 => ?_)
  · have e : readF m = some (.half m.a 6 1) := by simp at h1 h2 h3 h4 h5; rw [readF, if_neg h1, if_neg h2, if_neg h3, if_neg h4, if_pos h5]
    refine run 400 rfl ?_
    refine at_val (.val (.iface 108 (St.v (.half m.a 6 1)))) (does_iface ty_ok (St.v (.half m.a 6 1)) rfl rfl rfl) ?_
    refine run 400 rfl ?_
    exact at_ret rfl rfl [] ⟨by rw [e], rfl, rfl⟩ trivial
  refine run 400 rfl ?_
  refine at_split 33 rfl (fun h6 => ?_) (fun h6 => ?_)
  · have e : readF m = some (.one 3 m.a) := by simp at h1 h2 h3 h4 h5 h6; rw [readF, if_neg h1, if_neg h2, if_neg h3, if_neg h4, if_neg h5, if_pos h6]
    refine run 400 rfl ?_
    refine at_val (.val (.iface 128 (St.v (.one 3 m.a)))) (does_iface ty_ok (St.v (.one 3 m.a)) rfl rfl rfl) ?_
    refine run 400 rfl ?_
    exact at_ret rfl rfl [] ⟨by rw [e], rfl, rfl⟩ trivial
  refine run 400 rfl ?_
  refine at_split 39 rfl (fun h7 => ?_) (fun h7 => ?_)
  · have e : readF m = some (.one 4 m.a) := by simp at h1 h2 h3 h4 h5 h6 h7; rw [readF, if_neg h1, if_neg h2, if_neg h3, if_neg h4, if_neg h5, if_neg h6, if_pos h7]
    refine run 400 rfl ?_
    refine at_val (.val (.iface 128 (St.v (.one 4 m.a)))) (does_iface ty_ok (St.v (.one 4 m.a)) rfl rfl rfl) ?_
    refine run 400 rfl ?_
    exact at_ret rfl rfl [] ⟨by rw [e], rfl, rfl⟩ trivial
  refine run 400 rfl ?_
  refine at_split 45 rfl (fun h8 => ?_) (fun h8 => ?_)
  · have e : readF m = some (.two 5 m.a m.b) := by simp at h1 h2 h3 h4 h5 h6 h7 h8; rw [readF, if_neg h1, if_neg h2, if_neg h3, if_neg h4, if_neg h5, if_neg h6, if_neg h7, if_pos h8]
    refine run 400 rfl ?_
    refine at_val (.val (.iface 130 (St.v (.two 5 m.a m.b)))) (does_iface ty_ok (St.v (.two 5 m.a m.b)) rfl rfl rfl) ?_
    refine run 400 rfl ?_
    exact at_ret rfl rfl [] ⟨by rw [e], rfl, rfl⟩ trivial
  refine run 400 rfl ?_
  refine at_split 53 rfl (fun h9 => ?_) (fun h9 => ?_)
  · have e : readF m = some (.two 6 m.a m.b) := by simp at h1 h2 h3 h4 h5 h6 h7 h8 h9; rw [readF, if_neg h1, if_neg h2, if_neg h3, if_neg h4, if_neg h5, if_neg h6, if_neg h7, if_neg h8, if_pos h9]
    refine run 400 rfl ?_
    refine at_val (.val (.iface 130 (St.v (.two 6 m.a m.b)))) (does_iface ty_ok (St.v (.two 6 m.a m.b)) rfl rfl rfl) ?_
    refine run 400 rfl ?_
    exact at_ret rfl rfl [] ⟨by rw [e], rfl, rfl⟩ trivial
  refine run 400 rfl ?_
  refine at_split 61 rfl (fun h10 => ?_) (fun h10 => ?_)
  · have e : readF m = some (.two 7 m.a m.b) := by simp at h1 h2 h3 h4 h5 h6 h7 h8 h9 h10; rw [readF, if_neg h1, if_neg h2, if_neg h3, if_neg h4, if_neg h5, if_neg h6, if_neg h7, if_neg h8, if_neg h9, if_pos h10]
    refine run 400 rfl ?_
    refine at_val (.val (.iface 130 (St.v (.two 7 m.a m.b)))) (does_iface ty_ok (St.v (.two 7 m.a m.b)) rfl rfl rfl) ?_
    refine run 400 rfl ?_
    exact at_ret rfl rfl [] ⟨by rw [e], rfl, rfl⟩ trivial
  refine run 400 rfl ?_
  have e : readF m = none := by simp at h1 h2 h3 h4 h5 h6 h7 h8 h9 h10; rw [readF, if_neg h1, if_neg h2, if_neg h3, if_neg h4, if_neg h5, if_neg h6, if_neg h7, if_neg h8, if_neg h9, if_neg h10]
  exact at_ret rfl rfl [] ⟨by rw [e], rfl, rfl⟩ trivial

def inF (n most : Int) : Bool := decide (0 ≤ n) && decide (n < most)
theorem in_fn (n most : Int) : Gives Try.prog 155 [I n, I most] (.bl (inF n most)) := by
  have key : ∀ b : Bool, inF n most = b → Gives Try.prog 155 [I n, I most] (cond b .tt .ff) := by
    intro b hb
    refine contract_of ty_ok [0, 1, 2, 3, 4, 5, 6, 7] Try.func155 rfl (by decide) Try.ntmps155 rfl fun z => ?_
    refine run 400 rfl ?_
    refine at_split 7 rfl (fun h1 => ?_) (fun h1 => ?_)
    · have hb : decide (n < most) = b := by rw [← hb, inF, h1, Bool.true_and]
      refine run 400 rfl ?_
      refine at_split 4 rfl (fun h2 => ?_) (fun h2 => ?_)
      · rw [h2] at hb
        subst hb
        exact at_ret rfl rfl [] ⟨rfl, rfl, rfl⟩ trivial
      · rw [h2] at hb
        subst hb
        exact at_ret rfl rfl [] ⟨rfl, rfl, rfl⟩ trivial
    · have hb : b = false := by rw [← hb, inF, h1, Bool.false_and]
      subst hb
      refine run 400 rfl ?_
      exact at_ret rfl rfl [] ⟨rfl, rfl, rfl⟩ trivial
  cases hm : inF n most with
  | false => exact (key false hm).le (SVle.ff rfl)
  | true => exact (key true hm).le (SVle.tt rfl)

def nearF : St → Int → Int → Bool
  | .given n, _, known => inF n known
  | .atom _, _, _ => true
  | .half a _ _, res, _ => inF a res
  | .one _ a, res, _ => inF a res
  | .two _ a b, res, _ => inF a res && inF b res

theorem near156 (n res known : Int) : Gives Try.prog 156 [I n, I res, I known] (.bl (nearF (.given n) res known)) := by
  refine contract_of ty_ok [0, 1, 2, 3, 4, 5, 6, 7] Try.func156 rfl (by decide) Try.ntmps156 rfl fun z => ?_
  refine run 400 rfl ?_
  refine at_fn (in_fn n known) rfl ?_
  refine run 400 rfl ?_
  exact at_ret rfl rfl [] ⟨rfl, rfl, rfl⟩ trivial
theorem near157 (s : ByteArray) (res known : Int) : Gives Try.prog 157 [.str s, I res, I known] (.bl (nearF (.atom s) res known)) := by
  have : Gives Try.prog 157 [.str s, I res, I known] .tt := by
    refine contract_of ty_ok [0, 1, 2, 3, 4, 5, 6, 7] Try.func157 rfl (by decide) Try.ntmps157 rfl fun z => ?_
    refine run 400 rfl ?_
    exact at_ret rfl rfl [] ⟨rfl, rfl, rfl⟩ trivial
  exact this.le (SVle.tt rfl)
theorem near154 (a k d res known : Int) : Gives Try.prog 154 [.agg [I a, I k, I d], I res, I known] (.bl (nearF (.half a k d) res known)) := by
  refine contract_of ty_ok [0, 1, 2, 3, 4, 5, 6, 7] Try.func154 rfl (by decide) Try.ntmps154 rfl fun z => ?_
  refine run 400 rfl ?_
  refine at_fn (in_fn a res) rfl ?_
  refine run 400 rfl ?_
  exact at_ret rfl rfl [] ⟨rfl, rfl, rfl⟩ trivial
theorem near158 (k a res known : Int) : Gives Try.prog 158 [.agg [I k, I a], I res, I known] (.bl (nearF (.one k a) res known)) := by
  refine contract_of ty_ok [0, 1, 2, 3, 4, 5, 6, 7] Try.func158 rfl (by decide) Try.ntmps158 rfl fun z => ?_
  refine run 400 rfl ?_
  refine at_fn (in_fn a res) rfl ?_
  refine run 400 rfl ?_
  exact at_ret rfl rfl [] ⟨rfl, rfl, rfl⟩ trivial
theorem near159 (k a b res known : Int) : Gives Try.prog 159 [.agg [I k, I a, I b], I res, I known] (.bl (nearF (.two k a b) res known)) := by
  cases h1 : inF a res with
  | false =>
    have : Gives Try.prog 159 [.agg [I k, I a, I b], I res, I known] .ff := by
      refine contract_of ty_ok [0, 1, 2, 3, 4, 5, 6, 7] Try.func159 rfl (by decide) Try.ntmps159 rfl fun z => ?_
      refine run 400 rfl ?_
      refine at_fn (in_fn a res) rfl ?_
      refine run 400 rfl ?_
      refine at_false 11 rfl h1 ?_
      refine run 400 rfl ?_
      exact at_ret rfl rfl [] ⟨rfl, rfl, rfl⟩ trivial
    exact this.le (SVle.ff (by simp [nearF, h1]))
  | true =>
    have : Gives Try.prog 159 [.agg [I k, I a, I b], I res, I known] (.bl (inF b res)) := by
      refine contract_of ty_ok [0, 1, 2, 3, 4, 5, 6, 7] Try.func159 rfl (by decide) Try.ntmps159 rfl fun z => ?_
      refine run 400 rfl ?_
      refine at_fn (in_fn a res) rfl ?_
      refine run 400 rfl ?_
      refine at_true 11 rfl h1 ?_
      refine run 400 rfl ?_
      refine at_fn (in_fn b res) rfl ?_
      refine run 400 rfl ?_
      exact at_ret rfl rfl [] ⟨rfl, rfl, rfl⟩ trivial
    exact this.le (SVle.of_eq (by simp [nearF, h1]))

def nearId : St → Nat
  | .given _ => 156
  | .atom _ => 157
  | .half _ _ _ => 154
  | .one _ _ => 158
  | .two _ _ _ => 159
theorem near_fn (s : St) (res known : Int) : Gives Try.prog (nearId s) [s.sv, I res, I known] (.bl (nearF s res known)) := by
  cases s with
  | given n => exact near156 n res known
  | atom s => exact near157 s res known
  | half a k d => exact near154 a k d res known
  | one k a => exact near158 k a res known
  | two k a b => exact near159 k a b res known
/-- How the model names the method. -/
noncomputable def nearNm : String := match Try.prog.info? (St.given 0).ty with
  | some i => match i.methods.toList with
    | m :: _ => m.name
    | [] => ""
  | none => ""
theorem near_meth (s : St) {nm : String} (h : nm = nearNm) : methB Try.prog s.ty nm (nearId s) = true := by
  rw [h]
  cases s <;> kernel_rfl

end Go.Proofs.Ytmnmhehddbemkaa
namespace Go.Proofs.Ytmnmhehddbemkaa
open Go Go.Eng

theorem flat_len : ∀ l : List Tm, (flatU (rowsT l)).length = l.length * 4
  | [] => by rw [rowsT_nil]; rfl
  | t :: l => by
    have := flat_len l
    rw [rowsT_cons]
    unfold flatU at this ⊢
    rw [List.flatten_cons, List.map_append, List.length_append, this, List.length_cons]
    show 4 + _ = _
    omega
theorem flat_app (a b : List Tm) : flatU (rowsT (a ++ b)) = flatU (rowsT a) ++ flatU (rowsT b) := by
  unfold flatU
  rw [rowsT_app, List.flatten_append, List.map_append]
theorem flat_one (t : Tm) : flatU (rowsT [t]) = [I t.k, I t.n, .str t.s, .lst 4 (rowsT t.kids)] := by
  rw [rowsT_cons, rowsT_nil]
  rfl
theorem splice_fill (new a : List SV) (m : Nat) : splice new a.length (a ++ List.replicate (m + new.length) .any) = a ++ new ++ List.replicate m .any := by
  unfold splice
  rw [List.take_left, ← List.drop_drop, List.drop_left, List.drop_replicate, Nat.add_sub_cancel]

theorem noK_up (k : Nat) : ∀ d : DV, (up d).noK k = true
  | .int _ _ => rfl
  | .bl _ => rfl
  | .str _ => rfl
  | .val _ => rfl
  | .lst _ _ => rfl
theorem noKs_flat (k : Nat) : ∀ l : List DV, SV.noKs k (l.map up) = true
  | [] => rfl
  | d :: l => by simp [SV.noKs, noK_up, noKs_flat k l]
theorem noKs_app (k : Nat) : ∀ a b : List SV, SV.noKs k a = true → SV.noKs k b = true → SV.noKs k (a ++ b) = true
  | [], b, _, h => h
  | x :: a, b, h1, h2 => by
    simp only [SV.noKs] at h1
    cases hx : x.noK k with
    | false => simp [hx] at h1
    | true =>
      simp only [hx, cond_true] at h1
      simp only [List.cons_append, SV.noKs, hx, cond_true]
      exact noKs_app k a b h1 h2
theorem noKs_half (k : Nat) (rows : List (List DV)) (m : Nat) : SV.noKs k (flatU rows ++ List.replicate m .any) = true := noKs_app k _ _ (noKs_flat k _) (noKs_anys k m)

abbrev half (l : List Tm) (i : Nat) : List SV := flatU (rowsT (l.take i)) ++ List.replicate ((l.length - i) * 4) .any

theorem half_step {l : List Tm} {i : Nat} {u : Tm} (h : l[i]? = some u) : splice [I u.k, I u.n, .str u.s, .lst 4 (rowsT u.kids)] (i * 4) (half l i) = half l (i + 1) := by
  have hlt : i < l.length := (List.getElem?_eq_some_iff.1 h).1
  have hlen : (flatU (rowsT (l.take i))).length = i * 4 := by rw [flat_len, List.length_take, Nat.min_eq_left (by omega)]
  unfold half
  rw [← hlen, show (l.length - i) * 4 = (l.length - (i + 1)) * 4 + [I u.k, I u.n, SV.str u.s, SV.lst 4 (rowsT u.kids)].length from by show _ = _ + 4; omega, splice_fill, List.take_add_one, h]
  show _ = flatU (rowsT (l.take i ++ [u])) ++ _
  rw [flat_app, flat_one]

set_option maxRecDepth 100000 in
theorem ownL_fn (l : List Tm) (hl : l.length ≤ 1000000) (h : ∀ t : Tm, t ∈ l → Gives Try.prog 102 [t.sv] t.sv) : Gives Try.prog 80 [.lst 4 (rowsT l)] (.tl 4 (rowsT l)) := by
  have hlen : (rowsT l).length = l.length := rowsT_len l
  refine contract_of ty_ok [0, 1, 2, 3, 4, 6, 7] Try.func80 rfl (by decide) Try.ntmps80 rfl fun z => ?_
  refine run 400 rfl ?_
  refine at_make 5 4 ty_ok rfl rfl rfl (by omega) (show ((56 : Nat) : Int) * ((rowsT l).length : Int) ≤ 281474976710656 by omega) (by omega) ?_
  refine run 400 rfl ?_
  refine at_loop (fun i : Nat => i ≤ l.length) (fun i => [(3, .arr 5 (rowsT l).length), (9, .lst 4 (rowsT l)), (10, I (rowsT l).length), (11, I i)]) (fun i => [(5, .cells 33 (half l i))]) (fun i => l.length - i) [0, 1, 2, 3, 4, 6, 7]
    0 (by omega) ⟨SVle.refl _, SVle.refl _, SVle.refl _, SVle.refl _, trivial⟩ ⟨?_, trivial⟩ ?_
  · show some (SO.cells 33 (List.replicate (((rowsT l).length : Int).toNat * 4) .any)) = some (SO.cells 33 (half l 0))
    unfold half
    rw [List.take_zero, rowsT_nil, hlen]
    rfl
  intro i hi
  refine run 400 rfl ?_
  refine at_ifd rfl (fun g => ?_) (fun g => ?_)
  rotate_left
  · have e : i = l.length := by omega
    subst e
    refine run 400 rfl ?_
    refine at_publish 5 4 (rowsT l) (by show some (SO.cells 33 (half l l.length)) = _; unfold half; rw [List.take_length, Nat.sub_self, Nat.zero_mul, List.replicate_zero, List.append_nil]) (fun r hr => by rw [rowsT_map] at hr; obtain ⟨t, _, rfl⟩ := List.mem_map.1 hr; exact row_len t) (own2 := []) (fun j o h => by simp [ownq] at h) (by repeat' (first | exact trivial | refine ⟨rfl, ?_⟩)) ?_
    exact at_ret rfl rfl [] ⟨rfl, rfl, rfl⟩ trivial
  have hlt : i < l.length := by omega
  have hget := rowsT_get hlt
  have hmem := getD_mem hlt
  have hgetD : l[i]? = some (l.getD i .zero) := by rw [List.getD_eq_getElem?_getD, List.getElem?_eq_getElem hlt]; rfl
  generalize l.getD i .zero = u at hget hmem hgetD
  refine run 400 rfl ?_
  refine at_val (.rp (tr u) 0) (does_index ty_ok _ rfl rfl rfl (by omega) (show (rowsT l)[(i : Int).toNat]? = some (tr u) from hget) rfl) ?_
  refine run 1 rfl ?_
  refine at_alloc ty_ok 0 _ rfl rfl (by simp only [freshO, noKs_half]; rfl) ?_
  refine run 400 rfl ?_
  refine at_fn (h u hmem) rfl ?_
  refine run 400 rfl ?_
  refine at_val (.ptr 5 ((i : Int).toNat * 4)) (does_indexArr ty_ok rfl rfl rfl ⟨by omega, by rw [hlen]; omega⟩ rfl) ?_
  refine at_store ty_ok (half l (i + 1)) rfl rfl rfl rfl rfl rfl (by unfold half; rw [List.length_append, flat_len, List.length_replicate, List.length_take]; show i * 4 + 4 ≤ _; omega) (half_step hgetD) rfl ?_
  refine run 400 rfl ?_
  exact at_again (i + 1) (by omega) (by omega) ⟨SVle.refl _, SVle.refl _, SVle.refl _, SVle.of_eq (by show I ((i : Int) + 1) = I ((i + 1 : Nat) : Int); rw [Int.natCast_add]; rfl), trivial⟩ ⟨rfl, trivial⟩

theorem own_fn (t : Tm) (h : Sm t) : Gives Try.prog 102 [t.sv] t.sv := by
  induction t using Tm.ind with
  | h k n s l ih =>
    cases h with
    | mk h1 h2 =>
      have hL := ownL_fn l h1 fun t ht => ih t ht (h2 t ht)
      have : Gives Try.prog 102 [(Tm.mk k n s l).sv] (.agg [I k, I n, .str s, .tl 4 (rowsT l)]) := by
        refine contract_of ty_ok [0, 1, 2, 3, 4, 5, 6, 7] Try.func102 rfl (by decide) Try.ntmps102 rfl fun z => ?_
        refine run 400 rfl ?_
        refine at_fn hL rfl ?_
        refine run 400 rfl ?_
        exact at_ret rfl rfl [] ⟨rfl, rfl, rfl⟩ trivial
      exact this.le (SVle.agg ⟨SVle.refl _, SVle.refl _, SVle.refl _, SVle.tl _ _, trivial⟩)
theorem owns_fn (l : List Tm) (hl : l.length ≤ 1000000) (h : ∀ t ∈ l, Sm t) : Gives Try.prog 80 [.lst 4 (rowsT l)] (.tl 4 (rowsT l)) :=
  ownL_fn l hl fun t ht => own_fn t (h t ht)
end Go.Proofs.Ytmnmhehddbemkaa
namespace Go.Proofs.Ytmnmhehddbemkaa
open Go Go.Eng

abbrev errV : Bool → Value
  | true => .nilIface
  | false => .iface 28 (.int .i64 3)
theorem z125 : (Try.prog.info? 125).bind (·.zero) = some (.int .i64 0) := by kernel_rfl
theorem z126 : (Try.prog.info? 126).bind (·.zero) = some (.string .empty) := by kernel_rfl
theorem z108 : (Try.prog.info? 108).bind (·.zero) = some (.agg #[.int .i64 0, .int .i64 0, .int .i64 0]) := by kernel_rfl
theorem z128 : (Try.prog.info? 128).bind (·.zero) = some (.agg #[.int .i64 0, .int .i64 0]) := by kernel_rfl
theorem z130 : (Try.prog.info? 130).bind (·.zero) = some (.agg #[.int .i64 0, .int .i64 0, .int .i64 0]) := by kernel_rfl

theorem inF_lt {n m : Int} (h : inF n m = true) : 0 ≤ n ∧ n < m := by simpa [inF] using h

set_option maxRecDepth 100000 in
theorem does_given (n : Int) (l res : List Tm) (h : inF n l.length = true) (b : Bool) (hb : mayF (l.getD n.toNat .zero) = b) : Gives Try.prog 85 [.val (.iface (St.ty (.given n)) (St.v (.given n))), .lst 4 (rowsT l), .lst 4 (rowsT res)] (.tup [(l.getD n.toNat .zero).sv, .val (errV b)]) := by
  refine contract_of ty_ok [0, 1, 2, 3, 4, 5, 6, 7] Try.func85 rfl (by decide) Try.ntmps85 rfl fun z => ?_
  refine run 400 rfl ?_
  have h0 := inF_lt h
  refine at_val (.tup [St.sv (.given n), .tt]) (does_assert_yes ty_ok (St.sv (.given n)) rfl rfl rfl (St.den (.given n))) ?_
  refine run 400 rfl ?_
  have hget := rowsT_get (l := l) (n := n.toNat) (by omega)
  generalize l.getD n.toNat .zero = u at hget hb
  refine at_val (.rp (tr u) 0) (does_index ty_ok _ rfl rfl rfl h0.1 hget rfl) ?_
  refine run 400 rfl ?_
  refine at_fn (may_fn u) rfl ?_
  refine run 400 rfl ?_
  rw [hb]
  cases b with
  | false =>
    refine at_if rfl (fun g => ?_) (fun g => by cases g)
    refine run 400 rfl ?_
    refine at_val (.val (.iface 28 (.int .i64 3))) (does_iface ty_ok (.int .i64 3) rfl rfl rfl) ?_
    refine run 400 rfl ?_
    exact at_ret rfl rfl [] ⟨rfl, rfl, rfl⟩ trivial
  | true =>
    refine at_if rfl (fun g => by cases g) (fun g => ?_)
    refine run 400 rfl ?_
    exact at_ret rfl rfl [] ⟨rfl, rfl, rfl⟩ trivial

set_option maxRecDepth 100000 in
theorem does_atom (s : ByteArray) (l res : List Tm)  (b : Bool) (hb : mayF (.mk 1 0 s []) = b) : Gives Try.prog 85 [.val (.iface (St.ty (.atom s)) (St.v (.atom s))), .lst 4 (rowsT l), .lst 4 (rowsT res)] (.tup [.agg [I 1, I 0, .str s, .tl 0 []], .val (errV b)]) := by
  refine contract_of ty_ok [0, 1, 2, 3, 4, 5, 6, 7] Try.func85 rfl (by decide) Try.ntmps85 rfl fun z => ?_
  refine run 400 rfl ?_
  refine at_val (.tup [(I 0), .ff]) (does_assert_no ty_ok (I 0) z125 rfl rfl rfl rfl (fun _ _ => rfl)) ?_
  refine run 400 rfl ?_
  refine at_val (.tup [St.sv (.atom s), .tt]) (does_assert_yes ty_ok (St.sv (.atom s)) rfl rfl rfl (St.den (.atom s))) ?_
  refine run 400 rfl ?_
  have hm : Gives Try.prog 39 [.agg [I 1, I 0, .str s, .tl 0 []]] (.bl (mayF (.mk 1 0 s []))) := (may_fn (.mk 1 0 s [])).weak ⟨SVle.agg ⟨SVle.refl _, SVle.refl _, SVle.refl _, by rw [rowsT_nil]; exact fun g H x h => SVle.tl 4 [] g H x (SVle.nil 4 g H x h), trivial⟩, trivial⟩
  refine at_fn (hm) rfl ?_
  refine run 400 rfl ?_
  rw [hb]
  cases b with
  | false =>
    refine at_if rfl (fun g => ?_) (fun g => by cases g)
    refine run 400 rfl ?_
    refine at_val (.val (.iface 28 (.int .i64 3))) (does_iface ty_ok (.int .i64 3) rfl rfl rfl) ?_
    refine run 400 rfl ?_
    exact at_ret rfl rfl [] ⟨rfl, rfl, rfl⟩ trivial
  | true =>
    refine at_if rfl (fun g => by cases g) (fun g => ?_)
    refine run 400 rfl ?_
    exact at_ret rfl rfl [] ⟨rfl, rfl, rfl⟩ trivial

set_option maxRecDepth 100000 in
theorem does_half (a k d : Int) (l res : List Tm) (h : inF a res.length = true) (hk : (res.getD a.toNat .zero).k = k) (hd : 0 ≤ d ∧ d < (res.getD a.toNat .zero).kids.length) (b : Bool) (hb : mayF ((res.getD a.toNat .zero).kids.getD d.toNat .zero) = b) : Gives Try.prog 85 [.val (.iface (St.ty (.half a k d)) (St.v (.half a k d))), .lst 4 (rowsT l), .lst 4 (rowsT res)] (.tup [((res.getD a.toNat .zero).kids.getD d.toNat .zero).sv, .val (errV b)]) := by
  refine contract_of ty_ok [0, 1, 2, 3, 4, 5, 6, 7] Try.func85 rfl (by decide) Try.ntmps85 rfl fun z => ?_
  refine run 400 rfl ?_
  have h0 := inF_lt h
  refine at_val (.tup [(I 0), .ff]) (does_assert_no ty_ok (I 0) z125 rfl rfl rfl rfl (fun _ _ => rfl)) ?_
  refine run 400 rfl ?_
  refine at_val (.tup [(.str .empty), .ff]) (does_assert_no ty_ok (.str .empty) z126 rfl rfl rfl rfl (fun _ _ => rfl)) ?_
  refine run 400 rfl ?_
  refine at_val (.tup [St.sv (.half a k d), .tt]) (does_assert_yes ty_ok (St.sv (.half a k d)) rfl rfl rfl (St.den (.half a k d))) ?_
  refine run 400 rfl ?_
  have hget := rowsT_get (l := res) (n := a.toNat) (by omega)
  generalize res.getD a.toNat .zero = f at hget hb hk hd
  have hlen : ((rowsT f.kids).length : Int) = f.kids.length := by rw [rowsT_len]
  refine at_val (.rp (tr f) 0) (does_index ty_ok _ rfl rfl rfl h0.1 hget rfl) ?_
  refine run 400 rfl ?_
  refine at_false 41 rfl (by simpa using hk) ?_
  refine run 400 rfl ?_
  refine at_ifd rfl (fun g => absurd g (by rw [hlen]; omega)) (fun g => ?_)
  have hget2 := rowsT_get (l := f.kids) (n := d.toNat) (by omega)
  generalize f.kids.getD d.toNat .zero = u at hget2 hb
  refine run 400 rfl ?_
  refine at_val (.rp (tr u) 0) (does_index ty_ok _ rfl rfl rfl hd.1 hget2 rfl) ?_
  refine run 400 rfl ?_
  refine at_fn (may_fn u) rfl ?_
  refine run 400 rfl ?_
  rw [hb]
  cases b with
  | false =>
    refine at_if rfl (fun g => ?_) (fun g => by cases g)
    refine run 400 rfl ?_
    refine at_val (.val (.iface 28 (.int .i64 3))) (does_iface ty_ok (.int .i64 3) rfl rfl rfl) ?_
    refine run 400 rfl ?_
    exact at_ret rfl rfl [] ⟨rfl, rfl, rfl⟩ trivial
  | true =>
    refine at_if rfl (fun g => by cases g) (fun g => ?_)
    refine run 400 rfl ?_
    exact at_ret rfl rfl [] ⟨rfl, rfl, rfl⟩ trivial

set_option maxRecDepth 100000 in
theorem does_half_no (a k d : Int) (l res : List Tm) (h : inF a res.length = true) (hk : (res.getD a.toNat .zero).k ≠ k ∨ ((res.getD a.toNat .zero).kids.length : Int) ≤ d) : Gives Try.prog 85 [.val (.iface (St.ty (.half a k d)) (St.v (.half a k d))), .lst 4 (rowsT l), .lst 4 (rowsT res)] (.tup [.agg [I 0, I 0, .str .empty, .tl 0 []], .val (errV false)]) := by
  refine contract_of ty_ok [0, 1, 2, 3, 4, 5, 6, 7] Try.func85 rfl (by decide) Try.ntmps85 rfl fun z => ?_
  refine run 400 rfl ?_
  have h0 := inF_lt h
  refine at_val (.tup [(I 0), .ff]) (does_assert_no ty_ok (I 0) z125 rfl rfl rfl rfl (fun _ _ => rfl)) ?_
  refine run 400 rfl ?_
  refine at_val (.tup [(.str .empty), .ff]) (does_assert_no ty_ok (.str .empty) z126 rfl rfl rfl rfl (fun _ _ => rfl)) ?_
  refine run 400 rfl ?_
  refine at_val (.tup [St.sv (.half a k d), .tt]) (does_assert_yes ty_ok (St.sv (.half a k d)) rfl rfl rfl (St.den (.half a k d))) ?_
  refine run 400 rfl ?_
  have hget := rowsT_get (l := res) (n := a.toNat) (by omega)
  generalize res.getD a.toNat .zero = f at hget hk
  have hlen : ((rowsT f.kids).length : Int) = f.kids.length := by rw [rowsT_len]
  refine at_val (.rp (tr f) 0) (does_index ty_ok _ rfl rfl rfl h0.1 hget rfl) ?_
  refine run 400 rfl ?_
  refine at_split 41 rfl (fun g => ?_) (fun g => ?_)
  · refine run 400 rfl ?_
    refine at_val (.val (.iface 28 (.int .i64 3))) (does_iface ty_ok (.int .i64 3) rfl rfl rfl) ?_
    refine run 400 rfl ?_
    exact at_ret rfl rfl [] ⟨rfl, rfl, rfl⟩ trivial
  · have g : f.k = k := by simpa using g
    refine run 400 rfl ?_
    refine at_ifd rfl (fun g2 => ?_) (fun g2 => absurd (by rw [hlen]; omega) g2)
    refine run 400 rfl ?_
    refine at_val (.val (.iface 28 (.int .i64 3))) (does_iface ty_ok (.int .i64 3) rfl rfl rfl) ?_
    refine run 400 rfl ?_
    exact at_ret rfl rfl [] ⟨rfl, rfl, rfl⟩ trivial

set_option maxRecDepth 100000 in
theorem does_one (k a : Int) (l res : List Tm) (h : inF a res.length = true) (b : Bool) (hb : mayF (.mk k 0 .empty [res.getD a.toNat .zero]) = b) : Gives Try.prog 85 [.val (.iface (St.ty (.one k a)) (St.v (.one k a))), .lst 4 (rowsT l), .lst 4 (rowsT res)] (.tup [.agg [I k, I 0, .str .empty, .tl 4 [tr (res.getD a.toNat .zero)]], .val (errV b)]) := by
  refine contract_of ty_ok [0, 1, 2, 3, 4, 5, 6, 7] Try.func85 rfl (by decide) Try.ntmps85 rfl fun z => ?_
  refine run 400 rfl ?_
  have h0 := inF_lt h
  refine at_val (.tup [(I 0), .ff]) (does_assert_no ty_ok (I 0) z125 rfl rfl rfl rfl (fun _ _ => rfl)) ?_
  refine run 400 rfl ?_
  refine at_val (.tup [(.str .empty), .ff]) (does_assert_no ty_ok (.str .empty) z126 rfl rfl rfl rfl (fun _ _ => rfl)) ?_
  refine run 400 rfl ?_
  refine at_val (.tup [(.agg [I 0, I 0, I 0]), .ff]) (does_assert_no ty_ok (.agg [I 0, I 0, I 0]) z108 rfl rfl rfl rfl (fun _ _ => ⟨_, rfl, rfl, rfl, rfl, trivial⟩)) ?_
  refine run 400 rfl ?_
  refine at_val (.tup [St.sv (.one k a), .tt]) (does_assert_yes ty_ok (St.sv (.one k a)) rfl rfl rfl (St.den (.one k a))) ?_
  refine run 400 rfl ?_
  have hget := rowsT_get (l := res) (n := a.toNat) (by omega)
  generalize res.getD a.toNat .zero = u at hget hb
  refine at_drawn 9 rfl rfl [(5, .val (.rp (tr u) 0)), (7, .gro (.tl 4 [tr u]))] [20, 21, 22] rfl ⟨doesG_build ty_ok _ rfl ⟨⟨rfl, rfl, _, rfl, SVles.refl _⟩, trivial⟩ rfl rfl (by decide), does_index ty_ok _ rfl rfl rfl h0.1 hget rfl⟩ ?_
  refine run 400 rfl ?_
  have hm : Gives Try.prog 39 [.agg [I k, I 0, .str .empty, .tl 4 [tr u]]] (.bl (mayF (.mk k 0 .empty [u]))) := (may_fn (.mk k 0 .empty [u])).weak ⟨SVle.agg ⟨SVle.refl _, SVle.refl _, SVle.refl _, by rw [rowsT_cons, rowsT_nil]; exact SVle.tl _ _, trivial⟩, trivial⟩
  refine at_fn (hm) rfl ?_
  refine run 400 rfl ?_
  rw [hb]
  cases b with
  | false =>
    refine at_if rfl (fun g => ?_) (fun g => by cases g)
    refine run 400 rfl ?_
    refine at_val (.val (.iface 28 (.int .i64 3))) (does_iface ty_ok (.int .i64 3) rfl rfl rfl) ?_
    refine run 400 rfl ?_
    exact at_ret rfl rfl [] ⟨rfl, rfl, rfl⟩ trivial
  | true =>
    refine at_if rfl (fun g => by cases g) (fun g => ?_)
    refine run 400 rfl ?_
    exact at_ret rfl rfl [] ⟨rfl, rfl, rfl⟩ trivial

set_option maxRecDepth 100000 in
theorem does_two (k a c : Int) (l res : List Tm) (h : inF a res.length = true) (h2 : inF c res.length = true) (b : Bool) (hb : mayF (.mk k 0 .empty [res.getD a.toNat .zero, res.getD c.toNat .zero]) = b) : Gives Try.prog 85 [.val (.iface (St.ty (.two k a c)) (St.v (.two k a c))), .lst 4 (rowsT l), .lst 4 (rowsT res)] (.tup [.agg [I k, I 0, .str .empty, .tl 4 [tr (res.getD a.toNat .zero), tr (res.getD c.toNat .zero)]], .val (errV b)]) := by
  refine contract_of ty_ok [0, 1, 2, 3, 4, 5, 6, 7] Try.func85 rfl (by decide) Try.ntmps85 rfl fun z => ?_
  refine run 400 rfl ?_
  have h0 := inF_lt h
  have h1 := inF_lt h2
  refine at_val (.tup [(I 0), .ff]) (does_assert_no ty_ok (I 0) z125 rfl rfl rfl rfl (fun _ _ => rfl)) ?_
  refine run 400 rfl ?_
  refine at_val (.tup [(.str .empty), .ff]) (does_assert_no ty_ok (.str .empty) z126 rfl rfl rfl rfl (fun _ _ => rfl)) ?_
  refine run 400 rfl ?_
  refine at_val (.tup [(.agg [I 0, I 0, I 0]), .ff]) (does_assert_no ty_ok (.agg [I 0, I 0, I 0]) z108 rfl rfl rfl rfl (fun _ _ => ⟨_, rfl, rfl, rfl, rfl, trivial⟩)) ?_
  refine run 400 rfl ?_
  refine at_val (.tup [(.agg [I 0, I 0]), .ff]) (does_assert_no ty_ok (.agg [I 0, I 0]) z128 rfl rfl rfl rfl (fun _ _ => ⟨_, rfl, rfl, rfl, trivial⟩)) ?_
  refine run 400 rfl ?_
  refine at_val (.tup [St.sv (.two k a c), .tt]) (does_assert_yes ty_ok (St.sv (.two k a c)) rfl rfl rfl (St.den (.two k a c))) ?_
  refine run 400 rfl ?_
  have hget := rowsT_get (l := res) (n := a.toNat) (by omega)
  have hget2 := rowsT_get (l := res) (n := c.toNat) (by omega)
  generalize res.getD a.toNat .zero = u at hget hb
  generalize res.getD c.toNat .zero = v at hget2 hb
  refine at_drawn 14 rfl rfl [(5, .val (.rp (tr u) 0)), (10, .val (.rp (tr v) 0)), (12, .gro (.tl 4 [tr u, tr v]))] [20, 21, 22] rfl ⟨doesG_build ty_ok _ rfl ⟨⟨rfl, rfl, _, rfl, SVles.refl _⟩, ⟨rfl, rfl, _, rfl, SVles.refl _⟩, trivial⟩ rfl rfl (by decide), does_index ty_ok _ rfl rfl rfl h1.1 hget2 rfl, does_index ty_ok _ rfl rfl rfl h0.1 hget rfl⟩ ?_
  refine run 400 rfl ?_
  have hm : Gives Try.prog 39 [.agg [I k, I 0, .str .empty, .tl 4 [tr u, tr v]]] (.bl (mayF (.mk k 0 .empty [u, v]))) := (may_fn (.mk k 0 .empty [u, v])).weak ⟨SVle.agg ⟨SVle.refl _, SVle.refl _, SVle.refl _, by rw [rowsT_cons, rowsT_cons, rowsT_nil]; exact SVle.tl _ _, trivial⟩, trivial⟩
  refine at_fn (hm) rfl ?_
  refine run 400 rfl ?_
  rw [hb]
  cases b with
  | false =>
    refine at_if rfl (fun g => ?_) (fun g => by cases g)
    refine run 400 rfl ?_
    refine at_val (.val (.iface 28 (.int .i64 3))) (does_iface ty_ok (.int .i64 3) rfl rfl rfl) ?_
    refine run 400 rfl ?_
    exact at_ret rfl rfl [] ⟨rfl, rfl, rfl⟩ trivial
  | true =>
    refine at_if rfl (fun g => by cases g) (fun g => ?_)
    refine run 400 rfl ?_
    exact at_ret rfl rfl [] ⟨rfl, rfl, rfl⟩ trivial

end Go.Proofs.Ytmnmhehddbemkaa
namespace Go.Proofs.Ytmnmhehddbemkaa
open Go Go.Eng

def stepT (l res : List Tm) : St → Option Tm
  | .given n => some (l.getD n.toNat .zero)
  | .atom s => some (.mk 1 0 s [])
  | .half a k d => if (res.getD a.toNat .zero).k = k ∧ d < (res.getD a.toNat .zero).kids.length then some ((res.getD a.toNat .zero).kids.getD d.toNat .zero) else none
  | .one k a => some (.mk k 0 .empty [res.getD a.toNat .zero])
  | .two k a b => some (.mk k 0 .empty [res.getD a.toNat .zero, res.getD b.toNat .zero])
def doesF (l res : List Tm) (s : St) : Tm × Bool :=
  match stepT l res s with
  | none => (.zero, false)
  | some t => (t, mayF t)
def okS : St → Prop
  | .half _ _ d => 0 ≤ d
  | _ => True
theorem SVle.nils : SVle (.tl 0 []) (.lst 4 (rowsT [])) := by
  rw [rowsT_nil]
  exact fun g H x h => SVle.tl 4 [] g H x (SVle.nil 4 g H x h)

theorem does_fn (l res : List Tm) (s : St) (hn : nearF s res.length l.length = true) (ho : okS s) :
    Gives Try.prog 85 [.val (.iface s.ty s.v), .lst 4 (rowsT l), .lst 4 (rowsT res)] (.tup [(doesF l res s).1.sv, .val (errV (doesF l res s).2)]) := by
  cases s with
  | given n => exact does_given n l res hn _ rfl
  | atom s => exact (does_atom s l res _ rfl).le (SVle.tup ⟨SVle.agg ⟨SVle.refl _, SVle.refl _, SVle.refl _, SVle.nils, trivial⟩, SVle.refl _, trivial⟩)
  | half a k d =>
    by_cases h : (res.getD a.toNat .zero).k = k ∧ d < (res.getD a.toNat .zero).kids.length
    · have e : doesF l res (.half a k d) = ((res.getD a.toNat .zero).kids.getD d.toNat .zero, mayF ((res.getD a.toNat .zero).kids.getD d.toNat .zero)) := by simp only [doesF, stepT, if_pos h]
      rw [e]
      exact does_half a k d l res hn h.1 ⟨ho, h.2⟩ _ rfl
    · have e : doesF l res (.half a k d) = (.zero, false) := by simp only [doesF, stepT, if_neg h]
      rw [e]
      refine (does_half_no a k d l res hn ?_).le (SVle.tup ⟨SVle.agg ⟨SVle.refl _, SVle.refl _, SVle.refl _, SVle.nils, trivial⟩, SVle.refl _, trivial⟩)
      by_cases h1 : (res.getD a.toNat .zero).k = k
      · exact .inr (by have := fun q => h ⟨h1, q⟩; omega)
      · exact .inl h1
  | one k a => exact (does_one k a l res hn _ rfl).le (SVle.tup ⟨SVle.agg ⟨SVle.refl _, SVle.refl _, SVle.refl _, by show SVle _ (.lst 4 (rowsT [_])); rw [rowsT_cons, rowsT_nil]; exact SVle.tl _ _, trivial⟩, SVle.refl _, trivial⟩)
  | two k a b =>
    rw [nearF, Bool.and_eq_true] at hn
    exact (does_two k a b l res hn.1 hn.2 _ rfl).le (SVle.tup ⟨SVle.agg ⟨SVle.refl _, SVle.refl _, SVle.refl _, by show SVle _ (.lst 4 (rowsT [_, _])); rw [rowsT_cons, rowsT_cons, rowsT_nil]; exact SVle.tl _ _, trivial⟩, SVle.refl _, trivial⟩)

theorem read_ok {m : Mv} {s : St} (h : readF m = some s) : okS s := by
  unfold readF at h
  repeat' split at h
  all_goals (first | (cases h; trivial) | (cases h; show (0 : Int) ≤ _; decide) | cases h)

/-- A term that may be has as many kids as its kinds say. -/
theorem mayT_gd : ∀ (t : Tm) (d c : Int), (mayT t d c).1 = true → Gd t := by
  intro t
  induction t using Tm.ind with
  | h k n s l ih =>
    intro d c h
    rw [mayT] at h
    split at h
    · cases h
    split at h
    · cases h
    split at h
    · cases h
    · rename_i h3
      have h3 : rightF (.mk k n s l) = true := by simpa using h3
      have hlen : (l.length : Int) = kidsF k := by
        unfold rightF at h3
        rw [Bool.and_eq_true, Bool.and_eq_true] at h3
        simpa using h3.1.1
      refine .mk hlen ?_
      have key : ∀ (m : List Tm) (d c : Int), (∀ t ∈ m, t ∈ l) → (mayL m d c).1 = true → ∀ t ∈ m, Gd t := by
        intro m
        induction m with
        | nil => intro _ _ _ _ t ht; cases ht
        | cons u m ihm =>
          intro d c hm h t ht
          rw [mayL] at h
          rcases hu : mayT u d c with ⟨b, c'⟩
          rw [hu] at h
          cases b with
          | false => cases h
          | true =>
            rcases List.mem_cons.1 ht with rfl | ht
            · exact ih t (hm t (by simp)) d c (by rw [hu])
            · exact ihm d c' (fun t ht => hm t (by simp [ht])) h t ht
      exact key l _ _ (fun _ h => h) h
theorem mayF_gd {t : Tm} (h : mayF t = true) : Gd t := mayT_gd t 1 0 h

theorem st_plain (s : St) : (tiOf Try.prog s.ty).kd.plain = true := by
  rw [← ty_ok]
  cases s
  · exact (rfl : (ty 125).kd.plain = true)
  · exact (rfl : (ty 126).kd.plain = true)
  · exact (rfl : (ty 108).kd.plain = true)
  · exact (rfl : (ty 128).kd.plain = true)
  · exact (rfl : (ty 130).kd.plain = true)
theorem st_np (s : St) : (tiOf Try.prog s.ty).kd ≠ .ptr := by
  intro h
  have := st_plain s
  rw [← ty_ok] at h
  cases s
  · exact absurd (show (ty 125).kd = .ptr from h) (by intro e; cases e)
  · exact absurd (show (ty 126).kd = .ptr from h) (by intro e; cases e)
  · exact absurd (show (ty 108).kd = .ptr from h) (by intro e; cases e)
  · exact absurd (show (ty 128).kd = .ptr from h) (by intro e; cases e)
  · exact absurd (show (ty 130).kd = .ptr from h) (by intro e; cases e)

/-- What moves come to. -/
def runG (l : List Tm) : List Mv → List Tm → List Tm × Int
  | [], acc => (acc, 0)
  | m :: ms, acc => match readF m with
    | none => ([], 2)
    | some s => if nearF s acc.length l.length then (match doesF l acc s with
      | (t, true) => runG l ms (acc ++ [t])
      | (_, false) => ([], 3)) else ([], 8)
def runF (l : List Tm) (ms : List Mv) : List Tm × Int := if 1024 < ms.length then ([], 7) else runG l ms []
abbrev errI (e : Int) : Value := if e = 0 then .nilIface else .iface 28 (.int .i64 e)

set_option maxRecDepth 100000 in
theorem run58_fn (l : List Tm) (ms : List Mv) (_hl : l.length ≤ 1000000) : Gives Try.prog 58 [.lst 4 (rowsT l), .lst 4 (rowsM ms)] (.tup [.lst 4 (rowsT (runF l ms).1), .val (errI (runF l ms).2)]) := by
  refine GivesP.le (Post := fun s => ∃ a, s = .tup [a, .val (errI (runF l ms).2)] ∧ SVle a (.lst 4 (rowsT (runF l ms).1))) ?_ (fun s h => by
    obtain ⟨a, rfl, h⟩ := h
    exact SVle.tup ⟨h, SVle.refl _, trivial⟩)
  have hlen : (rowsM ms).length = ms.length := by simp
  have hlenl : (rowsT l).length = l.length := rowsT_len l
  refine contract_of ty_ok [0, 1, 2, 3, 4, 6, 7] Try.func58 rfl (by decide) Try.ntmps58 rfl fun z => ?_
  refine run 400 rfl ?_
  refine at_ifd rfl (fun h => ?_) (fun h => ?_)
  · rw [hlen] at h
    have e : runF l ms = ([], 7) := by rw [runF, if_pos (by omega)]
    rw [e]
    refine run 400 rfl ?_
    refine at_val (.val (.iface 28 (.int .i64 7))) (does_iface ty_ok (.int .i64 7) rfl rfl rfl) ?_
    refine run 400 rfl ?_
    exact at_ret rfl rfl [] ⟨⟨_, rfl, SVle.nils⟩, rfl, rfl⟩ trivial
  rw [hlen] at h
  have e : runF l ms = runG l ms [] := by rw [runF, if_neg (by omega)]
  rw [e]
  generalize hR : runG l ms [] = R
  refine run 400 rfl ?_
  refine at_new 5 4 [] (doesT_make0 ty_ok rfl rfl rfl (by omega) (show ((56 : Nat) : Int) * ((rowsM ms).length : Int) ≤ 281474976710656 by omega) (by omega) rfl) ?_
  refine run 400 rfl ?_
  refine at_loop (fun x : Nat × List Tm => x.1 ≤ ms.length ∧ x.2.length = x.1 ∧ (∀ t ∈ x.2, Sm t) ∧ runG l (ms.drop x.1) x.2 = R) (fun x => [(0, .lst 4 (rowsT l)), (6, .gl 5 4 (rowsT x.2)), (19, .lst 4 (rowsM ms)), (20, I (rowsM ms).length), (21, I x.1)]) (fun _ => [(5, .tok 4)]) (fun x => ms.length - x.1) [0, 1, 2, 3, 4, 6, 7]
    (0, []) ⟨by simp, rfl, by simp, by simpa using hR⟩ ⟨SVle.refl _, SVle.of_eq (by show SV.gl 5 4 [] = SV.gl 5 4 (rowsT []); rw [rowsT_nil]), SVle.refl _, SVle.refl _, SVle.refl _, trivial⟩ ⟨rfl, trivial⟩ ?_
  rintro ⟨i, acc⟩ ⟨a1, a2, a3, a4⟩
  dsimp only at a1 a2 a3 a4
  have hacc : (rowsT acc).length = acc.length := rowsT_len acc
  refine run 400 rfl ?_
  refine at_ifd rfl (fun g => ?_) (fun g => ?_)
  rotate_left
  · rw [hlen] at g
    dsimp only at g
    rw [List.drop_eq_nil_of_le (by omega), runG] at a4
    subst a4
    refine run 400 rfl ?_
    refine at_fn ((owns_fn acc (by omega) a3).weak (args' := [.gl 5 4 (rowsT acc)]) ⟨SVle.gl 5 4 _, trivial⟩) rfl ?_
    refine run 400 rfl ?_
    exact at_ret rfl rfl [] ⟨⟨_, rfl, SVle.tl 4 _⟩, rfl, rfl⟩ trivial
  rw [hlen] at g
  dsimp only at g
  have hlt : i < ms.length := by omega
  have hget := rowsM_get hlt
  have hdrop : ms.drop i = ms.getD i .zero :: ms.drop (i + 1) := by
    rw [List.getD_eq_getElem?_getD, List.getElem?_eq_getElem hlt, List.drop_eq_getElem_cons hlt]
    rfl
  rw [hdrop, runG] at a4
  generalize ms.getD i .zero = m at hget a4
  refine run 400 rfl ?_
  refine at_val (.rp (mr m) 0) (does_index ty_ok _ rfl rfl rfl (by omega) (show (rowsM ms)[(i : Int).toNat]? = some (mr m) from hget) rfl) ?_
  refine run 400 rfl ?_
  refine at_fn (read_fn m) rfl ?_
  refine run 400 rfl ?_
  cases hr : readF m with
  | none =>
    rw [hr] at a4
    subst a4
    refine at_val .tt (does_isNil ty_ok rfl rfl rfl) ?_
    refine run 400 rfl ?_
    refine at_val (.val (.iface 28 (.int .i64 2))) (does_iface ty_ok (.int .i64 2) rfl rfl rfl) ?_
    refine run 400 rfl ?_
    exact at_ret rfl rfl [] ⟨⟨_, rfl, SVle.nils⟩, rfl, rfl⟩ trivial
  | some s =>
    rw [hr] at a4
    refine at_val .ff (does_isNil_no ty_ok rfl rfl rfl) ?_
    refine run 400 rfl ?_
    refine at_invoke (near_meth s (by kernel_rfl)) (st_plain s) (st_np s) (near_fn s i (rowsT l).length) rfl rfl rfl rfl (St.den s) rfl ?_
    refine run 400 rfl ?_
    dsimp only at a4
    rw [hlenl]
    rw [a2] at a4
    refine at_if rfl (fun q => ?_) (fun q => ?_)
    · have q : nearF s i l.length = false := by simpa using q
      rw [q] at a4
      have a4 : ([], 8) = R := a4
      subst a4
      refine run 400 rfl ?_
      refine at_val (.val (.iface 28 (.int .i64 8))) (does_iface ty_ok (.int .i64 8) rfl rfl rfl) ?_
      refine run 400 rfl ?_
      exact at_ret rfl rfl [] ⟨⟨_, rfl, SVle.nils⟩, rfl, rfl⟩ trivial
    have q : nearF s i l.length = true := by simpa using q
    rw [if_pos q] at a4
    have hd := does_fn l acc s (by rw [a2]; exact q) (read_ok hr)
    have hd2 := hd.weak (args' := [.val (.iface s.ty s.v), .lst 4 (rowsT l), .gl 5 4 (rowsT acc)]) ⟨SVle.refl _, SVle.refl _, SVle.gl 5 4 _, trivial⟩
    have hgd : (doesF l acc s).2 = true → Sm (doesF l acc s).1 := by
      unfold doesF
      split
      · intro h; cases h
      · exact fun h => (mayF_gd h).sm
    generalize doesF l acc s = r at hd2 a4 hgd
    obtain ⟨t, b⟩ := r
    refine run 400 rfl ?_
    refine at_fn hd2 rfl ?_
    refine run 400 rfl ?_
    cases b with
    | false =>
      have a4 : ([], 3) = R := a4
      subst a4
      refine at_val .tt (does_notNil ty_ok rfl rfl rfl) ?_
      refine run 400 rfl ?_
      exact at_ret rfl rfl [] ⟨⟨_, rfl, SVle.nils⟩, rfl, rfl⟩ trivial
    | true =>
      have a4 : runG l (ms.drop (i + 1)) (acc ++ [t]) = R := a4
      refine at_val .ff (does_notNil_no ty_ok rfl rfl rfl) ?_
      refine run 400 rfl ?_
      refine at_gro (.tl 4 [tr t]) (doesG_build ty_ok _ rfl ⟨⟨rfl, rfl, _, rfl, SVles.refl _⟩, trivial⟩ rfl rfl (by decide)) ?_
      refine at_grow 5 5 4 (rowsT acc ++ [tr t]) rfl (doesU_append ty_ok rfl rfl rfl rfl rfl rfl rfl (by simp; omega) (by show _ * 56 ≤ _; simp; omega)) rfl ?_
      refine run 400 rfl ?_
      exact at_again (i + 1, acc ++ [t]) ⟨by dsimp only; omega, by simp [a2], fun u hu => (List.mem_append.1 hu).elim (a3 u) (fun h => by simp at h; rw [h]; exact hgd rfl), a4⟩ (by dsimp only; omega)
        ⟨SVle.refl _, SVle.of_eq (by show SV.gl 5 4 (rowsT acc ++ [tr t]) = SV.gl 5 4 (rowsT (acc ++ [t])); rw [rowsT_app, rowsT_cons, rowsT_nil]), SVle.refl _, SVle.refl _, SVle.of_eq (by show I ((i : Int) + 1) = I ((i + 1 : Nat) : Int); rw [Int.natCast_add]; rfl), trivial⟩ ⟨rfl, trivial⟩
end Go.Proofs.Ytmnmhehddbemkaa
