import Derived.Test.YtmnmhehddbemkaaW4d
namespace Go.Proofs.Ytmnmhehddbemkaa
open Go Go.Eng

abbrev tr (t : Tm) : List DV := [.int .i64 t.k, .int .i64 t.n, .str t.s, .lst 4 (rowsT t.kids)]
theorem rowsT_cons (t : Tm) (l : List Tm) : rowsT (t :: l) = tr t :: rowsT l := by rw [rowsT, row_eq]
theorem rowsT_nil : rowsT [] = [] := by rw [rowsT]
theorem rowsT_app : ∀ (a b : List Tm), rowsT (a ++ b) = rowsT a ++ rowsT b
  | [], b => by rw [rowsT_nil]; rfl
  | t :: a, b => by rw [List.cons_append, rowsT_cons, rowsT_cons, rowsT_app a b]; rfl
theorem rowsT_take (l : List Tm) (n : Nat) : (rowsT l).take n = rowsT (l.take n) := by rw [rowsT_map, rowsT_map, List.map_take]
theorem rowsT_drop (l : List Tm) (n : Nat) : (rowsT l).drop n = rowsT (l.drop n) := by rw [rowsT_map, rowsT_map, List.map_drop]

def amongF (O : List Tm) (t : Tm) : Bool := O.any fun x => same x t
theorem among_iff {O : List Tm} {t : Tm} : amongF O t = true ↔ t ∈ O := by
  unfold amongF
  rw [List.any_eq_true]
  constructor
  · rintro ⟨x, hx, h⟩
    rw [← same_iff.1 h]
    exact hx
  · exact fun h => ⟨t, h, same_iff.2 rfl⟩

set_option maxRecDepth 100000 in
theorem among_fn (O : List Tm) (t : Tm) (hO : ∀ x ∈ O, Sm x) (hl : O.length ≤ 10000000) : Gives Try.prog 32 [.lst 4 (rowsT O), t.sv] (.bl (amongF O t)) := by
  have key : ∀ b : Bool, amongF O t = b → Gives Try.prog 32 [.lst 4 (rowsT O), t.sv] (cond b .tt .ff) := by
    intro b hb
    have hlen : ((rowsT O).length : Int) = O.length := by rw [rowsT_len]
    refine contract_of ty_ok [0, 1, 2, 3, 4, 5, 6, 7] Try.func32 rfl (by decide) Try.ntmps32 rfl fun z => ?_
    refine run 400 rfl ?_
    refine at_loop (fun i : Int => 0 ≤ i ∧ i ≤ O.length ∧ amongF (O.drop i.toNat) t = b) (fun i => [(0, .lst 4 (rowsT O)), (3, .ptr 0 0), (5, I i)]) (fun _ => [(0, .cells 33 [I t.k, I t.n, .str t.s, .lst 4 (rowsT t.kids)])]) (fun i => (O.length - i).toNat) [1, 2, 3, 4, 5]
      0 ⟨by omega, by omega, by simpa using hb⟩ ⟨SVle.refl _, SVle.refl _, SVle.refl _, trivial⟩ ⟨rfl, trivial⟩ ?_
    rintro i ⟨a1, a2, a3⟩
    refine run 400 rfl ?_
    refine at_ifd rfl (fun h => ?_) (fun h => ?_)
    rotate_left
    · rw [hlen] at h
      rw [List.drop_eq_nil_of_le (by omega)] at a3
      have : b = false := a3.symm
      subst this
      refine run 400 rfl ?_
      exact at_ret rfl rfl [] ⟨rfl, rfl, rfl⟩ trivial
    rw [hlen] at h
    have hlt : i.toNat < O.length := by omega
    have hget := rowsT_get hlt
    have hmem := getD_mem hlt
    rw [drop_getD hlt] at a3
    generalize O.getD i.toNat .zero = u at hget hmem a3
    refine run 400 rfl ?_
    refine at_drawn 6 rfl rfl [(2, .val (.rp (tr u) 0)), (5, .sv (.bl (same u t)))] [20, 21, 22] rfl ⟨same_fn u t (hO u hmem), does_index ty_ok _ rfl rfl rfl a1 hget rfl⟩ ?_
    refine run 400 rfl ?_
    have a3 : (same u t || amongF (O.drop (i.toNat + 1)) t) = b := a3
    refine at_if rfl (fun h2 => ?_) (fun h2 => ?_)
    · rw [h2] at a3
      have : b = true := a3.symm
      subst this
      refine run 400 rfl ?_
      exact at_ret rfl rfl [] ⟨rfl, rfl, rfl⟩ trivial
    · rw [h2] at a3
      refine run 400 rfl ?_
      exact at_again (i + 1) ⟨by omega, by omega, by rw [← a3, Bool.false_or]; congr 2; omega⟩ (by omega) ⟨SVle.refl _, SVle.refl _, SVle.refl _, trivial⟩ ⟨rfl, trivial⟩
  cases hm : amongF O t with
  | false => exact (key false hm).le (SVle.ff rfl)
  | true => exact (key true hm).le (SVle.tt rfl)

mutual
def madeT (O : List Tm) : Tm → Bool
  | .mk k n s l => k == 1 || (amongF O (.mk k n s l) || (!(k == 2) && madeL O l))
def madeL (O : List Tm) : List Tm → Bool
  | [] => true
  | t :: l => madeT O t && madeL O l
end

set_option maxRecDepth 100000 in
theorem made_fn (O : List Tm) (hO : ∀ x ∈ O, Sm x) (hl : O.length ≤ 10000000) (t : Tm) (ht : Sm t) : Gives Try.prog 59 [.lst 4 (rowsT O), t.sv] (.bl (madeT O t)) := by
  induction t using Tm.ind with
  | h k n s l ih =>
    obtain ⟨hsm, hsl⟩ := ht
    have key : ∀ b : Bool, madeT O (.mk k n s l) = b → Gives Try.prog 59 [.lst 4 (rowsT O), (Tm.mk k n s l).sv] (cond b .tt .ff) := by
      intro b hb
      rw [madeT] at hb
      have hlen : ((rowsT l).length : Int) = l.length := by rw [rowsT_len]
      refine contract_of ty_ok [0, 1, 2, 3, 4, 5, 6, 7] Try.func59 rfl (by decide) Try.ntmps59 rfl fun z => ?_
      refine run 400 rfl ?_
      refine at_split 9 rfl (fun h1 => ?_) (fun h1 => ?_)
      · rw [h1, Bool.true_or] at hb
        subst hb
        refine run 400 rfl ?_
        exact at_ret rfl rfl [] ⟨rfl, rfl, rfl⟩ trivial
      rw [h1, Bool.false_or] at hb
      refine run 400 rfl ?_
      refine at_fn (among_fn O (.mk k n s l) hO hl) rfl ?_
      refine run 400 rfl ?_
      refine at_if rfl (fun h2 => ?_) (fun h2 => ?_)
      · rw [h2, Bool.true_or] at hb
        subst hb
        refine run 400 rfl ?_
        exact at_ret rfl rfl [] ⟨rfl, rfl, rfl⟩ trivial
      rw [h2, Bool.false_or] at hb
      refine run 400 rfl ?_
      refine at_if rfl (fun h3 => ?_) (fun h3 => ?_)
      · rw [h3] at hb
        have : b = false := hb.symm
        subst this
        refine run 400 rfl ?_
        exact at_ret rfl rfl [] ⟨rfl, rfl, rfl⟩ trivial
      rw [h3] at hb
      refine run 400 rfl ?_
      refine at_loop (fun i : Int => 0 ≤ i ∧ i ≤ l.length ∧ madeL O (l.drop i.toNat) = b) (fun i => [(0, .lst 4 (rowsT O)), (3, .ptr 0 0), (5, I i)]) (fun _ => [(0, .cells 33 [I k, I n, .str s, .lst 4 (rowsT l)])]) (fun i => (l.length - i).toNat) [1, 2, 3, 4, 5]
        0 ⟨by omega, by omega, by simpa using hb⟩ ⟨SVle.refl _, SVle.refl _, SVle.refl _, trivial⟩ ⟨rfl, trivial⟩ ?_
      rintro i ⟨a1, a2, a3⟩
      refine run 400 rfl ?_
      refine at_ifd rfl (fun h => ?_) (fun h => ?_)
      rotate_left
      · rw [hlen] at h
        rw [List.drop_eq_nil_of_le (by omega), madeL] at a3
        subst a3
        refine run 400 rfl ?_
        exact at_ret rfl rfl [] ⟨rfl, rfl, rfl⟩ trivial
      rw [hlen] at h
      have hlt : i.toNat < l.length := by omega
      have hget := rowsT_get hlt
      have hmem := getD_mem hlt
      rw [drop_getD hlt] at a3
      generalize l.getD i.toNat .zero = u at hget hmem a3
      rw [madeL] at a3
      refine run 400 rfl ?_
      refine at_val (.rp (tr u) 0) (does_index ty_ok _ rfl rfl rfl a1 hget rfl) ?_
      refine run 400 rfl ?_
      refine at_fn (ih u hmem (hsl u hmem)) rfl ?_
      refine run 400 rfl ?_
      refine at_if rfl (fun h4 => ?_) (fun h4 => ?_)
      · have h4 : madeT O u = false := by simpa using h4
        rw [h4] at a3
        have : b = false := a3.symm
        subst this
        refine run 400 rfl ?_
        exact at_ret rfl rfl [] ⟨rfl, rfl, rfl⟩ trivial
      · have h4 : madeT O u = true := by simpa using h4
        rw [h4, Bool.true_and] at a3
        refine run 400 rfl ?_
        exact at_again (i + 1) ⟨by omega, by omega, by rw [← a3]; congr 2; omega⟩ (by omega) ⟨SVle.refl _, SVle.refl _, SVle.refl _, trivial⟩ ⟨rfl, trivial⟩
    cases hm : madeT O (.mk k n s l) with
    | false => exact (key false hm).le (SVle.ff rfl)
    | true => exact (key true hm).le (SVle.tt rfl)
end Go.Proofs.Ytmnmhehddbemkaa
