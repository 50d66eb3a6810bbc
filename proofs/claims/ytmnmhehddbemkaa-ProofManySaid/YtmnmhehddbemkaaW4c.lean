import Derived.Test.YtmnmhehddbemkaaW4b
namespace Go.Proofs.Ytmnmhehddbemkaa
open Go Go.Eng

theorem Tm.ind {P : Tm → Prop} (h : ∀ k n s l, (∀ t ∈ l, P t) → P (.mk k n s l)) (t : Tm) : P t :=
  Tm.rec (motive_1 := P) (motive_2 := fun l => ∀ t ∈ l, P t) (fun k n s l ih => h k n s l ih) (fun t ht => by cases ht) (fun x l hx hl t ht => by
    rcases List.mem_cons.1 ht with rfl | ht
    · exact hx
    · exact hl t ht) t

mutual
def mayT : Tm → Int → Int → Bool × Int
  | .mk k n s l, d, c => if 64 < c + 1 then (false, c + 1) else if 16 < d then (false, c + 1) else if rightF (.mk k n s l) = false then (false, c + 1) else mayL l (d + 1) (c + 1)
def mayL : List Tm → Int → Int → Bool × Int
  | [], _, c => (true, c)
  | t :: l, d, c => match mayT t d c with
    | (true, c') => mayL l d c'
    | (false, c') => (false, c')
end

theorem mayL_le (l : List Tm) (hl : ∀ t ∈ l, ∀ d c : Int, 0 ≤ c → c ≤ 64 → c < (mayT t d c).2 ∧ (mayT t d c).2 ≤ 65 ∧ ((mayT t d c).1 = true → (mayT t d c).2 ≤ 64)) :
    ∀ d c : Int, 0 ≤ c → c ≤ 64 → c ≤ (mayL l d c).2 ∧ (mayL l d c).2 ≤ 65 ∧ ((mayL l d c).1 = true → (mayL l d c).2 ≤ 64) := by
  induction l with
  | nil => intro d c h0 h1; simp only [mayL]; omega
  | cons t l ih =>
    intro d c h0 h1
    have ht := hl t (by simp) d c h0 h1
    have ih := ih (fun t h => hl t (by simp [h]))
    simp only [mayL]
    rcases hm : mayT t d c with ⟨b, c'⟩
    rw [hm] at ht
    dsimp only at ht
    cases b with
    | true =>
      have h64 := ht.2.2 rfl
      have := ih d c' (by omega) h64
      dsimp only
      exact ⟨by omega, this.2⟩
    | false =>
      dsimp only
      exact ⟨by omega, ht.2.1, fun h => by cases h⟩

theorem mayT_le : ∀ (t : Tm) (d c : Int), 0 ≤ c → c ≤ 64 → c < (mayT t d c).2 ∧ (mayT t d c).2 ≤ 65 ∧ ((mayT t d c).1 = true → (mayT t d c).2 ≤ 64) := by
  intro t
  induction t using Tm.ind with
  | h k n s l ih =>
    intro d c h0 h1
    simp only [mayT]
    split
    · exact ⟨by dsimp only; omega, by dsimp only; omega, fun h => by cases h⟩
    split
    · exact ⟨by dsimp only; omega, by dsimp only; omega, fun h => by cases h⟩
    split
    · exact ⟨by dsimp only; omega, by dsimp only; omega, fun h => by cases h⟩
    · have := mayL_le l ih (d + 1) (c + 1) (by omega) (by omega)
      exact ⟨by omega, this.2⟩

theorem kidsF_le (k : Int) : kidsF k ≤ 2 := by
  unfold kidsF
  repeat' split
  all_goals omega
theorem right_len {t : Tm} (h : rightF t = true) : (t.kids.length : Int) ≤ 2 := by
  unfold rightF at h
  rw [Bool.and_eq_true, Bool.and_eq_true] at h
  have h1 : (t.kids.length : Int) = kidsF t.k := by simpa using h.1.1
  rw [h1]
  exact kidsF_le _

abbrev mayPre (c : Int) : List (Nat × SO) := [(0, .cells 3 [I c]), (1, .cells 90 [.clo 67 [.ptr 0 0, .ptr 1 0]])]

theorem getD_mem {l : List Tm} {n : Nat} (h : n < l.length) : l.getD n .zero ∈ l := by
  rw [List.getD_eq_getElem?_getD, List.getElem?_eq_getElem h]
  exact List.getElem_mem h
theorem drop_getD {l : List Tm} {n : Nat} (h : n < l.length) : l.drop n = l.getD n .zero :: l.drop (n + 1) := by
  rw [List.getD_eq_getElem?_getD, List.getElem?_eq_getElem h, List.drop_eq_getElem_cons h]
  rfl

set_option maxRecDepth 100000 in
theorem may1_fn : ∀ (t : Tm) (d c : Int), 0 ≤ c → c ≤ 64 → 0 ≤ d → d ≤ 17 → Contract Try.prog 67 2 (mayPre c) [t.sv, I d, .ptr 0 0, .ptr 1 0] fun s post =>
    ∃ x : Bool, x = (mayT t d c).1 ∧ s = cond x .tt .ff ∧ post = mayPre (mayT t d c).2 := by
  intro t
  induction t using Tm.ind with
  | h k n s l ih =>
    intro d c h0 h1 h2 h3
    have hlen : (rowsT l).length = l.length := rowsT_len l
    refine contract_of ty_ok [2, 3, 4, 5, 6, 7] Try.func67 rfl (by decide) Try.ntmps67 rfl fun z => ?_
    refine run 400 rfl ?_
    refine at_split 12 rfl (fun g1 => ?_) (fun g1 => ?_)
    · rw [decide_eq_true_eq] at g1
      refine run 400 rfl ?_
      exact at_ret rfl rfl (mayPre (c + 1)) ⟨false, by simp [mayT, g1], rfl, by simp [mayT, g1]⟩ ⟨rfl, rfl, trivial⟩
    · rw [decide_eq_false_iff_not] at g1
      refine run 400 rfl ?_
      refine at_split 16 rfl (fun g2 => ?_) (fun g2 => ?_)
      · rw [decide_eq_true_eq] at g2
        refine run 400 rfl ?_
        exact at_ret rfl rfl (mayPre (c + 1)) ⟨false, by simp [mayT, g1, g2], rfl, by simp [mayT, g1, g2]⟩ ⟨rfl, rfl, trivial⟩
      · rw [decide_eq_false_iff_not] at g2
        refine run 400 rfl ?_
        refine at_fn (right_fn (.mk k n s l)) rfl ?_
        refine run 400 rfl ?_
        refine at_if rfl (fun g3 => ?_) (fun g3 => ?_)
        · simp only [Bool.not_eq_true'] at g3
          refine run 400 rfl ?_
          exact at_ret rfl rfl (mayPre (c + 1)) ⟨false, by simp [mayT, g1, g2, g3], rfl, by simp [mayT, g1, g2, g3]⟩ ⟨rfl, rfl, trivial⟩
        · simp only [Bool.not_eq_false'] at g3
          refine run 400 rfl ?_
          have hT : mayT (.mk k n s l) d c = mayL l (d + 1) (c + 1) := by simp only [mayT, g3]; rw [if_neg g1, if_neg g2]; simp
          have hk2 : (l.length : Int) ≤ 2 := right_len g3
          have hlen0 : ((rowsT l).length : Int) = l.length := by rw [hlen]
          refine at_loop (fun x : Int × Int => 0 ≤ x.1 ∧ x.1 ≤ l.length ∧ 0 ≤ x.2 ∧ x.2 ≤ 64 ∧ mayL l (d + 1) (c + 1) = mayL (l.drop x.1.toNat) (d + 1) x.2)
            (fun x => [(1, I d), (2, .ptr 0 0), (3, .ptr 1 0), (4, .ptr 2 0), (23, I (rowsT l).length), (24, I x.1)]) (fun x => [(2, .cells 33 [I k, I n, .str s, .lst 4 (rowsT l)]), (0, .cells 3 [I x.2]), (1, .cells 90 [.clo 67 [.ptr 0 0, .ptr 1 0]])]) (fun x => (l.length - x.1).toNat) [3, 4, 5, 6, 7]
            (0, c + 1) ⟨by omega, by dsimp only; omega, by dsimp only; omega, by dsimp only; omega, by simp⟩ ⟨SVle.refl _, SVle.refl _, SVle.refl _, SVle.refl _, SVle.refl _, SVle.refl _, trivial⟩ ⟨rfl, rfl, rfl, trivial⟩ ?_
          rintro ⟨i, ci⟩ ⟨a1, a2, a3, a4, a5⟩
          dsimp only at a1 a2 a3 a4 a5
          refine run 400 rfl ?_
          refine at_ifd rfl (fun q => ?_) (fun q => ?_)
          rotate_left
          · dsimp only at q
            rw [hlen0] at q
            refine run 400 rfl ?_
            have e : l.drop i.toNat = [] := List.drop_eq_nil_of_le (by omega)
            rw [e] at a5
            simp only [mayL] at a5
            exact at_ret rfl rfl (mayPre ci) ⟨true, by rw [hT, a5], rfl, by rw [hT, a5]⟩ ⟨rfl, rfl, trivial⟩
          dsimp only at q
          rw [hlen0] at q
          have hlt : i.toNat < l.length := by omega
          have hget := rowsT_get hlt
          have hmem := getD_mem hlt
          have hdrop := drop_getD hlt
          generalize l.getD i.toNat .zero = u at hget hmem hdrop
          rw [hdrop] at a5
          simp only [mayL] at a5
          have hu := mayT_le u (d + 1) ci a3 a4
          have hcall := ih u hmem (d + 1) ci a3 a4 (by omega) (by omega)
          refine run 400 rfl ?_
          refine at_drawn 8 rfl rfl [(4, .val (.rp [.int .i64 u.k, .int .i64 u.n, .str u.s, .lst 4 (rowsT u.kids)] 0))] [20, 21, 22] rfl ⟨by show _ ∧ _; omega, does_index ty_ok _ rfl rfl rfl a1 hget rfl⟩ ?_
          refine at_met2 0 1 hcall rfl rfl rfl (fun _ => rfl) ?_
          intro x hx
          rcases hm : mayT u (d + 1) ci with ⟨b, c'⟩
          rw [hm] at hx hu a5
          dsimp only at hx hu a5
          subst hx
          cases x with
          | false =>
            dsimp only at a5
            refine run 400 rfl ?_
            exact at_ret rfl rfl (mayPre c') ⟨false, by rw [hT, a5], rfl, by rw [hT, a5]⟩ ⟨rfl, rfl, trivial⟩
          | true =>
            dsimp only at a5
            have h64 := hu.2.2 rfl
            refine run 400 rfl ?_
            exact at_again (i + 1, c') ⟨by dsimp only; omega, by dsimp only; omega, by dsimp only; omega, by dsimp only; omega, by dsimp only; rw [a5]; congr 2; omega⟩ (by dsimp only; omega) ⟨SVle.refl _, SVle.refl _, SVle.refl _, SVle.refl _, SVle.refl _, SVle.refl _, trivial⟩ ⟨rfl, rfl, rfl, trivial⟩

def mayF (t : Tm) : Bool := (mayT t 1 0).1

theorem may_fn (t : Tm) : Gives Try.prog 39 [t.sv] (.bl (mayF t)) := by
  have key : ∀ b : Bool, mayF t = b → Gives Try.prog 39 [t.sv] (cond b .tt .ff) := by
    intro b hb
    refine contract_of ty_ok [0, 1, 2, 3, 4, 5, 6, 7] Try.func39 rfl (by decide) Try.ntmps39 rfl fun z => ?_
    refine run 400 rfl ?_
    refine at_met2 1 2 (may1_fn t 1 0 (by omega) (by omega) (by omega) (by omega)) rfl rfl rfl (fun _ => rfl) ?_
    intro x hx
    have : x = b := hx.trans hb
    subst this
    cases x with
    | false =>
      refine run 400 rfl ?_
      exact at_ret rfl rfl [] ⟨rfl, rfl, rfl⟩ trivial
    | true =>
      refine run 400 rfl ?_
      exact at_ret rfl rfl [] ⟨rfl, rfl, rfl⟩ trivial
  cases hm : mayF t with
  | false => exact (key false hm).le (SVle.ff rfl)
  | true => exact (key true hm).le (SVle.tt rfl)
end Go.Proofs.Ytmnmhehddbemkaa
