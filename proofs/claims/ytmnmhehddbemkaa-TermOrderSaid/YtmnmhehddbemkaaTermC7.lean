/- The texts Q1, Q2, Own3, Stage, Slc, CallG, Cut, W6a, Swap, one behind the other: an executor over the translated code, contracts of functions, and their laws. -/

import Derived.Test.YtmnmhehddbemkaaTermC6
namespace Go.Proofs.Ytmnmhehddbemkaa
open Go Go.Eng
set_option maxRecDepth 100000

abbrev own33 (t : Tm) : SO := .cells 33 [I t.k, I t.n, .str t.s, .lst 4 (rowsT t.kids)]

theorem size_fn (t : Tm) (h : Sm t) (hs : szT t ≤ 1000000) : Gives Try.prog 43 [t.sv] (I (szT t)) := by
  refine contract_of ty_ok [0, 1, 2, 3, 4, 5, 6, 7] Try.func43 rfl (by decide) Try.ntmps43 rfl fun z => ?_
  refine run 400 rfl ?_
  refine at_metF 1 (eachZ_fn t 0 h (by omega)) rfl rfl rfl ?_
  refine run 400 rfl ?_
  exact at_ret rfl rfl [] ⟨by rw [Nat.zero_add], rfl, rfl⟩ trivial
theorem has_fn (t x : Tm) (h : Sm t) : Gives Try.prog 49 [t.sv, x.sv] (.bl (hasT x t)) := by
  cases hb : hasT x t with
  | true =>
    refine Gives.le (a := .tt) ?_ (SVle.tt rfl)
    refine contract_of ty_ok [0, 1, 2, 3, 4, 5, 6, 7] Try.func49 rfl (by decide) Try.ntmps49 rfl fun z => ?_
    refine run 400 rfl ?_
    refine at_met 1 (eachH_fn t x h) rfl rfl (fun _ => rfl) ?_
    intro b hb2
    rw [hb] at hb2
    subst hb2
    refine run 400 rfl ?_
    exact at_ret rfl rfl [] ⟨rfl, rfl, rfl⟩ trivial
  | false =>
    refine Gives.le (a := .ff) ?_ (SVle.ff rfl)
    refine contract_of ty_ok [0, 1, 2, 3, 4, 5, 6, 7] Try.func49 rfl (by decide) Try.ntmps49 rfl fun z => ?_
    refine run 400 rfl ?_
    refine at_met 1 (eachH_fn t x h) rfl rfl (fun _ => rfl) ?_
    intro b hb2
    rw [hb] at hb2
    subst hb2
    refine run 400 rfl ?_
    exact at_ret rfl rfl [] ⟨rfl, rfl, rfl⟩ trivial

theorem rsize_fn : ∀ (t : Tm), Sm t → szT t ≤ 1000000 → Gives Try.prog 44 [t.sv] (I (szT t)) := by
  intro t
  induction t using Tm.ind with
  | h k n s l ih =>
    intro hsm hc
    have hL := hsm.ks
    have hlen0 : ((rowsT l).length : Int) = l.length := by rw [rowsT_len]
    refine contract_of ty_ok [0, 1, 2, 3, 4, 5, 6, 7] Try.func44 rfl (by decide) Try.ntmps44 rfl fun z => ?_
    refine run 400 rfl ?_
    rw [szT] at hc ⊢
    refine at_loop (fun p : Nat × Nat => p.1 ≤ l.length ∧ p.2 + szL (l.drop p.1) = 1 + szL l) (fun p => [(1, .ptr 0 0), (3, I p.2), (4, I p.1)]) (fun _ => [(0, own33 (.mk k n s l))]) (fun p => l.length - p.1) [1, 2, 3, 4, 5, 6, 7]
      (0, 1) ⟨by dsimp only; omega, by dsimp only; rw [List.drop_zero]⟩ ⟨SVle.refl _, SVle.refl _, SVle.refl _, trivial⟩ ⟨rfl, trivial⟩ ?_
    rintro ⟨i, q⟩ ⟨a1, a2⟩
    dsimp only at a1 a2
    refine run 400 rfl ?_
    refine at_ifd rfl (fun g => ?_) (fun g => ?_)
    rotate_left
    · dsimp only at g
      rw [hlen0] at g
      have e : i = l.length := by omega
      subst e
      rw [List.drop_length, szL] at a2
      refine run 400 rfl ?_
      exact at_ret rfl rfl [] ⟨by rw [show q = 1 + szL l by omega], rfl, rfl⟩ trivial
    dsimp only at g
    rw [hlen0] at g
    have hlt : i < l.length := by omega
    have hget := rowsT_get hlt
    have hmem := getD_mem hlt
    rw [drop_getD hlt, szL] at a2
    generalize l.getD i .zero = u at hget hmem a2
    refine run 400 rfl ?_
    refine at_val (.rp (tr u) 0) (does_index ty_ok _ rfl rfl rfl (by omega) (show (rowsT l)[(i : Int).toNat]? = some (tr u) from hget) rfl) ?_
    refine run 400 rfl ?_
    refine at_fn (ih u hmem (hL.2 u hmem) (by omega)) rfl ?_
    refine run 400 rfl ?_
    exact at_again (i + 1, q + szT u) ⟨by dsimp only; omega, by dsimp only; omega⟩ (by dsimp only; omega) ⟨SVle.refl _, SVle.of_eq (by show I ((q : Int) + (szT u : Int)) = I ((q + szT u : Nat) : Int); rw [Int.natCast_add]), SVle.of_eq (by show I ((i : Int) + 1) = I ((i + 1 : Nat) : Int); rw [Int.natCast_add]; rfl), trivial⟩ ⟨rfl, trivial⟩

theorem rhas_fn (x : Tm) : ∀ (t : Tm), Sm t → Gives Try.prog 34 [t.sv, x.sv] (.bl (hasT x t)) := by
  intro t
  induction t using Tm.ind with
  | h k n s l ih =>
    intro hsm
    have hL := hsm.ks
    have hlen0 : ((rowsT l).length : Int) = l.length := by rw [rowsT_len]
    have hS := same_fn (.mk k n s l) x hsm
    rw [hasT]
    cases hb : same (.mk k n s l) x with
    | true =>
      rw [hb] at hS
      rw [Bool.true_or]
      refine Gives.le (a := .tt) ?_ (SVle.tt rfl)
      refine contract_of ty_ok [0, 1, 2, 3, 4, 5, 6, 7] Try.func34 rfl (by decide) Try.ntmps34 rfl fun z => ?_
      refine run 400 rfl ?_
      refine at_fn hS rfl ?_
      refine run 400 rfl ?_
      refine at_if rfl (fun _ => ?_) (fun q => by cases q)
      refine run 400 rfl ?_
      exact at_ret rfl rfl [] ⟨rfl, rfl, rfl⟩ trivial
    | false =>
      rw [hb] at hS
      rw [Bool.false_or]
      have key : ∀ b : Bool, hasL x l = b → Gives Try.prog 34 [(Tm.mk k n s l).sv, x.sv] (cond b .tt .ff) := by
        intro b hbb
        refine contract_of ty_ok [0, 1, 2, 3, 4, 5, 6, 7] Try.func34 rfl (by decide) Try.ntmps34 rfl fun z => ?_
        refine run 400 rfl ?_
        refine at_fn hS rfl ?_
        refine run 400 rfl ?_
        refine at_if rfl (fun q => by cases q) (fun _ => ?_)
        refine run 400 rfl ?_
        refine at_loop (fun i : Nat => i ≤ l.length ∧ hasL x (l.drop i) = b) (fun i => [(2, .ptr 0 0), (3, .ptr 1 0), (5, I i)]) (fun _ => [(0, own33 (.mk k n s l)), (1, own33 x)]) (fun i => l.length - i) [2, 3, 4, 5, 6, 7]
          0 ⟨by omega, by rw [List.drop_zero]; exact hbb⟩ ⟨SVle.refl _, SVle.refl _, SVle.refl _, trivial⟩ ⟨rfl, rfl, trivial⟩ ?_
        rintro i ⟨a1, a2⟩
        refine run 400 rfl ?_
        refine at_ifd rfl (fun g => ?_) (fun g => ?_)
        rotate_left
        · rw [hlen0] at g
          have e : i = l.length := by omega
          subst e
          rw [List.drop_length, hasL] at a2
          subst a2
          refine run 400 rfl ?_
          exact at_ret rfl rfl [] ⟨rfl, rfl, rfl⟩ trivial
        rw [hlen0] at g
        have hlt : i < l.length := by omega
        have hget := rowsT_get hlt
        have hmem := getD_mem hlt
        rw [drop_getD hlt, hasL] at a2
        generalize l.getD i .zero = u at hget hmem a2
        refine run 400 rfl ?_
        refine at_drawn 7 rfl rfl [(3, .val (.rp (tr u) 0)), (6, .sv (.bl (hasT x u)))] [20, 21, 22] rfl ⟨ih u hmem (hL.2 u hmem), does_index ty_ok _ rfl rfl rfl (by omega) (show (rowsT l)[(i : Int).toNat]? = some (tr u) from hget) rfl⟩ ?_
        refine run 400 rfl ?_
        refine at_if rfl (fun q => ?_) (fun q => ?_)
        · rw [q, Bool.true_or] at a2
          subst a2
          refine run 400 rfl ?_
          exact at_ret rfl rfl [] ⟨rfl, rfl, rfl⟩ trivial
        · rw [q, Bool.false_or] at a2
          refine run 400 rfl ?_
          exact at_again (i + 1) ⟨by omega, a2⟩ (by omega) ⟨SVle.refl _, SVle.refl _, SVle.of_eq (by show I ((i : Int) + 1) = I ((i + 1 : Nat) : Int); rw [Int.natCast_add]; rfl), trivial⟩ ⟨rfl, rfl, trivial⟩
      cases hbb : hasL x l with
      | true => exact (key true hbb).le (SVle.tt rfl)
      | false => exact (key false hbb).le (SVle.ff rfl)

/-- Terms in order, by the document. -/
def rsortF (l : List Tm) : List Tm := l.foldl addF []
theorem addF_len (L : List Tm) (t : Tm) : (addF L t).length ≤ L.length + 1 := by
  rcases (addF_P L t).2 with ⟨e, _⟩ | e
  · rw [e]; omega
  · omega
theorem addF_mem {L : List Tm} {t x : Tm} : x ∈ addF L t ↔ x ∈ L ∨ x = t := (addF_P L t).1 x
theorem rsort_fn (l : List Tm) (h : ∀ x ∈ l, Sm x) (hl : l.length ≤ 1000000) : Gives Try.prog 51 [.lst 4 (rowsT l)] (.lst 4 (rowsT (rsortF l))) := by
  have hlen : ((rowsT l).length : Int) = l.length := by rw [rowsT_len]
  refine contract_of ty_ok [0, 1, 2, 3, 4, 5, 6, 7] Try.func51 rfl (by decide) Try.ntmps51 rfl fun z => ?_
  refine run 400 rfl ?_
  refine at_loop (fun p : Nat × List Tm => p.1 ≤ l.length ∧ p.2.length ≤ p.1 ∧ (∀ x ∈ p.2, x ∈ l) ∧ (l.drop p.1).foldl addF p.2 = rsortF l) (fun p => [(0, .lst 4 (rowsT l)), (3, .lst 4 (rowsT p.2)), (4, I p.1)]) (fun _ => []) (fun p => l.length - p.1) [0, 1, 2, 3, 4, 5, 6, 7]
    (0, []) ⟨by dsimp only; omega, by simp, by simp, by rfl⟩ ⟨SVle.refl _, SVle.nils, SVle.refl _, trivial⟩ trivial ?_
  rintro ⟨i, q⟩ ⟨a1, a2, a3, a4⟩
  dsimp only at a1 a2 a3 a4
  refine run 400 rfl ?_
  refine at_ifd rfl (fun g => ?_) (fun g => ?_)
  rotate_left
  · dsimp only at g
    rw [hlen] at g
    have e : i = l.length := by omega
    subst e
    rw [List.drop_length] at a4
    have a4 : q = rsortF l := a4
    refine run 400 rfl ?_
    exact at_ret rfl rfl [] ⟨by rw [a4], rfl, rfl⟩ trivial
  dsimp only at g
  rw [hlen] at g
  have hlt : i < l.length := by omega
  have hget := rowsT_get hlt
  have hmem := getD_mem hlt
  rw [drop_getD hlt, List.foldl_cons] at a4
  generalize l.getD i .zero = u at hget hmem a4
  refine run 400 rfl ?_
  refine at_val (.rp (tr u) 0) (does_index ty_ok _ rfl rfl rfl (by omega) (show (rowsT l)[(i : Int).toNat]? = some (tr u) from hget) rfl) ?_
  refine run 400 rfl ?_
  refine at_fn (add_fn q u (fun x hx => h x (a3 x hx)) (by omega)) rfl ?_
  refine run 400 rfl ?_
  have hal := addF_len q u
  exact at_again (i + 1, addF q u) ⟨by dsimp only; omega, by dsimp only; omega, by
    intro x hx
    rcases addF_mem.1 hx with hx | hx
    · exact a3 x hx
    · subst hx; exact hmem, a4⟩ (by dsimp only; omega) ⟨SVle.refl _, SVle.refl _, SVle.of_eq (by show I ((i : Int) + 1) = I ((i + 1 : Nat) : Int); rw [Int.natCast_add]; rfl), trivial⟩ trivial
end Go.Proofs.Ytmnmhehddbemkaa
namespace Go.Proofs.Ytmnmhehddbemkaa
open Go Go.Eng
set_option maxRecDepth 100000

def insF : List Int → Int → List Int
  | [], n => [n]
  | m :: L, n => if m < n then m :: insF L n else if m = n then m :: L else n :: m :: L
theorem insF_split {L : List Int} {t : Int} : ∀ (i : Nat), (∀ x ∈ L.take i, x < t) → insF L t = L.take i ++ insF (L.drop i) t := by
  induction L with
  | nil => intro i _; simp
  | cons u L ih =>
    intro i h
    cases i with
    | zero => simp
    | succ i =>
      simp only [List.take_succ_cons, List.drop_succ_cons, List.cons_append]
      have hu := h u (by simp)
      rw [insF, if_pos hu, ih i fun x hx => h x (by simp [hx])]
theorem insF_mem {L : List Int} {t x : Int} : x ∈ insF L t ↔ x ∈ L ∨ x = t := by
  induction L with
  | nil => simp [insF]
  | cons u L ih =>
    rw [insF]
    split
    · rw [List.mem_cons, ih, List.mem_cons, or_assoc]
    · split
      · rename_i h; subst h; simp; intro h; exact .inl h
      · simp only [List.mem_cons]; constructor
        · rintro (h | h | h)
          · exact .inr h
          · exact .inl (.inl h)
          · exact .inl (.inr h)
        · rintro ((h | h) | h)
          · exact .inr (.inl h)
          · exact .inr (.inr h)
          · exact .inl h
theorem insF_len (L : List Int) (t : Int) : (insF L t).length ≤ L.length + 1 := by
  induction L with
  | nil => simp [insF]
  | cons u L ih =>
    rw [insF]
    split
    · simp; omega
    · split <;> simp

theorem ints_len (l : List Int) : (ints l).length = l.length := by simp
theorem ints_at {l : List Int} {n : Nat} (h : n < l.length) : (ints l)[n]? = some [.int .i64 (l.getD n 0)] := by
  simp [List.getElem?_map, List.getElem?_eq_getElem h, List.getD_eq_getElem?_getD]
theorem dropI {l : List Int} {n : Nat} (h : n < l.length) : l.drop n = l.getD n 0 :: l.drop (n + 1) := by
  rw [List.drop_eq_getElem_cons h, List.getD_eq_getElem?_getD, List.getElem?_eq_getElem h]
  rfl

theorem ins_fn (L : List Int) (t : Int) (hl : L.length ≤ 10000000) : Gives Try.prog 75 [.lst 1 (ints L), I t] (.lst 1 (ints (insF L t))) := by
  have hlen : ((ints L).length : Int) = L.length := by rw [ints_len]
  have hlen2 : (ints L).length = L.length := ints_len L
  refine contract_of ty_ok [0, 1, 2, 3, 4, 5, 6, 7] Try.func75 rfl (by decide) Try.ntmps75 rfl fun z => ?_
  refine run 400 rfl ?_
  refine at_loop (fun i : Int => 0 ≤ i ∧ i ≤ L.length ∧ ∀ x ∈ L.take i.toNat, x < t) (fun i => [(0, .lst 1 (ints L)), (1, I t), (5, I i)]) (fun _ => []) (fun i => (L.length - i).toNat) [1, 2, 3, 4, 5]
    0 ⟨by omega, by omega, by simp⟩ ⟨SVle.refl _, SVle.refl _, SVle.refl _, trivial⟩ trivial ?_
  rintro i ⟨a1, a2, a3⟩
  refine run 400 rfl ?_
  by_cases hlt : i.toNat < L.length
  · have hget := ints_at hlt
    have hgetD : L[i.toNat]? = some (L.getD i.toNat 0) := by rw [List.getD_eq_getElem?_getD, List.getElem?_eq_getElem hlt]; rfl
    have hdrop := dropI hlt
    generalize L.getD i.toNat 0 = u at hget hgetD hdrop
    refine at_true 11 rfl (decide_eq_true (by rw [hlen]; omega)) ?_
    refine run 400 rfl ?_
    refine at_val (.rp [.int .i64 u] 0) (does_index ty_ok _ rfl rfl rfl a1 hget rfl) ?_
    refine run 400 rfl ?_
    refine at_ifd rfl (fun h => ?_) (fun h => ?_)
    · refine run 400 rfl ?_
      exact at_again (i + 1) ⟨by omega, by omega, by
        intro x hx
        rw [show (i + 1).toNat = i.toNat + 1 by omega, List.take_add_one, hgetD] at hx
        rcases List.mem_append.1 hx with hx | hx
        · exact a3 x hx
        · simp at hx
          rw [hx]
          exact h⟩ (by omega) ⟨SVle.refl _, SVle.refl _, SVle.refl _, trivial⟩ trivial
    · refine run 400 rfl ?_
      refine at_true 25 rfl (decide_eq_true (by rw [hlen]; omega)) ?_
      refine run 400 rfl ?_
      refine at_val (.rp [.int .i64 u] 0) (does_index ty_ok _ rfl rfl rfl a1 hget rfl) ?_
      refine run 400 rfl ?_
      refine at_if rfl (fun h2 => ?_) (fun h2 => ?_)
      · have e : u = t := by simpa using h2
        subst e
        refine run 400 rfl ?_
        have e : insF L u = L := by
          rw [insF_split i.toNat a3, hdrop, insF, if_neg h, if_pos rfl, ← hdrop, List.take_append_drop]
        exact at_ret rfl rfl [] ⟨by rw [e], rfl, rfl⟩ trivial
      · refine run 400 rfl ?_
        refine at_gro (.tl 1 []) (doesG_build ty_ok _ rfl trivial rfl rfl (by decide)) ?_
        refine run 400 rfl ?_
        refine at_val (.lst 1 ((ints L).take i.toNat)) (does_slice_h ty_ok rfl rfl rfl (by omega) rfl) ?_
        refine at_new 5 1 ([] ++ (ints L).take i.toNat) (doesT_append ty_ok rfl rfl rfl rfl rfl rfl rfl (by simp; omega) (by show _ * 8 ≤ _; simp; omega)) ?_
        refine run 400 rfl ?_
        refine at_drawn_st 8 [5] rfl rfl [(2, .gro (.tl 1 [[.int .i64 t]])), (3, .eat 5 1 ([] ++ (ints L).take i.toNat ++ [[.int .i64 t]]) (some 7)), (6, .val (.lst 1 ((ints L).drop i.toNat))), (7, .use 20 1 ([] ++ (ints L).take i.toNat ++ [[.int .i64 t]] ++ (ints L).drop i.toNat))] [20, 21, 22] rfl
          ⟨doesU_append ty_ok rfl rfl rfl rfl rfl rfl rfl (by simp; omega) (by show _ * 8 ≤ _; simp; omega), does_slice_l ty_ok rfl rfl rfl (by omega) rfl, doesU_append ty_ok rfl rfl rfl rfl rfl rfl rfl (by simp; omega) (by show _ * 8 ≤ _; simp; omega), doesG_build ty_ok _ rfl ⟨⟨rfl, rfl, _, rfl, SVles.refl _⟩, trivial⟩ rfl rfl (by decide)⟩ ?_
        refine run 400 rfl ?_
        have e : insF L t = L.take i.toNat ++ t :: L.drop i.toNat := by
          rw [insF_split i.toNat a3, hdrop, insF, if_neg h, if_neg (by simpa using h2)]
        exact at_ret rfl rfl [] ⟨by rw [e]; simp [List.map_take, List.map_drop], rfl, rfl⟩ trivial
  · refine at_false 11 rfl (decide_eq_false (by rw [hlen]; omega)) ?_
    refine run 400 rfl ?_
    refine at_false 25 rfl (decide_eq_false (by rw [hlen]; omega)) ?_
    refine run 400 rfl ?_
    refine at_gro (.tl 1 []) (doesG_build ty_ok _ rfl trivial rfl rfl (by decide)) ?_
    refine run 400 rfl ?_
    refine at_val (.lst 1 ((ints L).take i.toNat)) (does_slice_h ty_ok rfl rfl rfl (by omega) rfl) ?_
    refine at_new 5 1 ([] ++ (ints L).take i.toNat) (doesT_append ty_ok rfl rfl rfl rfl rfl rfl rfl (by simp; omega) (by show _ * 8 ≤ _; simp; omega)) ?_
    refine run 400 rfl ?_
    refine at_drawn_st 8 [5] rfl rfl [(2, .gro (.tl 1 [[.int .i64 t]])), (3, .eat 5 1 ([] ++ (ints L).take i.toNat ++ [[.int .i64 t]]) (some 7)), (6, .val (.lst 1 ((ints L).drop i.toNat))), (7, .use 20 1 ([] ++ (ints L).take i.toNat ++ [[.int .i64 t]] ++ (ints L).drop i.toNat))] [20, 21, 22] rfl
      ⟨doesU_append ty_ok rfl rfl rfl rfl rfl rfl rfl (by simp; omega) (by show _ * 8 ≤ _; simp; omega), does_slice_l ty_ok rfl rfl rfl (by omega) rfl, doesU_append ty_ok rfl rfl rfl rfl rfl rfl rfl (by simp; omega) (by show _ * 8 ≤ _; simp; omega), doesG_build ty_ok _ rfl ⟨⟨rfl, rfl, _, rfl, SVles.refl _⟩, trivial⟩ rfl rfl (by decide)⟩ ?_
    refine run 400 rfl ?_
    have e : insF L t = L.take i.toNat ++ t :: L.drop i.toNat := by
      rw [insF_split i.toNat a3, List.drop_eq_nil_of_le (by omega), insF]
    exact at_ret rfl rfl [] ⟨by rw [e]; simp [List.map_take, List.map_drop], rfl, rfl⟩ trivial

mutual
/-- The nonces, by the document. -/
def rnonT : Tm → List Int
  | .mk k n _ l => rnonL l (if k = 2 then [n] else [])
def rnonL : List Tm → List Int → List Int
  | [], acc => acc
  | t :: l, acc => rnonL l ((rnonT t).foldl insF acc)
end
theorem foldI_len (l : List Int) : ∀ acc : List Int, (l.foldl insF acc).length ≤ acc.length + l.length := by
  induction l with
  | nil => intro acc; simp
  | cons n l ih =>
    intro acc
    have := ih (insF acc n)
    have := insF_len acc n
    simp only [List.foldl_cons, List.length_cons]
    omega
mutual
theorem rnonT_len : ∀ t : Tm, (rnonT t).length ≤ szT t
  | .mk k n s l => by
    have h1 := rnonL_len l (if k = 2 then [n] else [])
    have h2 : (if k = 2 then [n] else []).length ≤ 1 := by split <;> simp
    rw [rnonT, szT]
    omega
theorem rnonL_len : ∀ (l : List Tm) (acc : List Int), (rnonL l acc).length ≤ acc.length + szL l
  | [], acc => by simp [rnonL, szL]
  | t :: l, acc => by
    have := rnonL_len l ((rnonT t).foldl insF acc)
    have := foldI_len (rnonT t) acc
    have := rnonT_len t
    rw [rnonL, szL]
    omega
end

theorem szL_mem {l : List Tm} {t : Tm} (h : t ∈ l) : szT t ≤ szL l := by
  induction l with
  | nil => cases h
  | cons u l ih =>
    rw [szL]
    rcases List.mem_cons.1 h with rfl | h
    · omega
    · have := ih h; omega
theorem SVle.nilI : SVle (.tl 0 []) (.lst 1 (ints [])) := fun g H x h => SVle.tl 1 [] g H x (SVle.nil 1 g H x h)

theorem rnon_fn : ∀ (t : Tm), Sm t → szT t ≤ 1000000 → Gives Try.prog 42 [t.sv] (.lst 1 (ints (rnonT t))) := by
  intro t
  induction t using Tm.ind with
  | h k n s l ih =>
    intro hsm hc
    have hL := hsm.ks
    have hlen0 : ((rowsT l).length : Int) = l.length := by rw [rowsT_len]
    rw [szT] at hc
    rw [rnonT]
    refine contract_of ty_ok [0, 1, 2, 3, 4, 5, 6, 7] Try.func42 rfl (by decide) Try.ntmps42 rfl fun z => ?_
    refine run 400 rfl ?_
    refine at_join (fun _ : Unit => True) (fun _ => [(1, .ptr 0 0), (3, .lst 1 (ints (if k = 2 then [n] else [])))]) (fun _ => [(0, own33 (.mk k n s l))]) [1, 2, 3, 4, 5, 6, 7] ?_ ?_
    · refine at_if rfl (fun q => ?_) (fun q => ?_)
      · have q : k = 2 := by simpa using q
        refine run 400 rfl ?_
        refine at_gro (.tl 1 (ints [n])) (doesG_build ty_ok _ rfl ⟨⟨rfl, rfl, _, rfl, SVles.refl _⟩, trivial⟩ rfl rfl (by decide)) ?_
        refine run 400 rfl ?_
        exact at_joined () trivial ⟨SVle.refl _, by rw [if_pos q]; exact SVle.tl _ _, trivial⟩ ⟨rfl, trivial⟩
      · have q : ¬ k = 2 := by simpa using q
        refine run 400 rfl ?_
        exact at_joined () trivial ⟨SVle.refl _, by rw [if_neg q]; exact SVle.nilI, trivial⟩ ⟨rfl, trivial⟩
    intro _ _
    have hacc0 : (if k = 2 then [n] else []).length ≤ 1 := by split <;> simp
    generalize (if k = 2 then [n] else []) = acc0 at hacc0
    refine run 400 rfl ?_
    refine at_loop (fun p : Nat × List Int => p.1 ≤ l.length ∧ rnonL (l.drop p.1) p.2 = rnonL l acc0 ∧ p.2.length + szL (l.drop p.1) ≤ 1000001) (fun p => [(1, .ptr 0 0), (3, .lst 1 (ints p.2)), (4, I p.1)]) (fun _ => [(0, own33 (.mk k n s l))]) (fun p => l.length - p.1) [1, 2, 3, 4, 5, 6, 7]
      (0, acc0) ⟨by dsimp only; omega, rfl, by dsimp only; rw [List.drop_zero]; omega⟩ ⟨SVle.refl _, SVle.refl _, SVle.refl _, trivial⟩ ⟨rfl, trivial⟩ ?_
    rintro ⟨i, q⟩ ⟨a1, a2, a3⟩
    dsimp only at a1 a2 a3
    refine run 400 rfl ?_
    refine at_ifd rfl (fun g => ?_) (fun g => ?_)
    rotate_left
    · dsimp only at g
      rw [hlen0] at g
      have e : i = l.length := by omega
      subst e
      rw [List.drop_length, rnonL] at a2
      refine run 400 rfl ?_
      exact at_ret rfl rfl [] ⟨by rw [a2], rfl, rfl⟩ trivial
    dsimp only at g
    rw [hlen0] at g
    have hlt : i < l.length := by omega
    have hget := rowsT_get hlt
    have hmem := getD_mem hlt
    rw [drop_getD hlt] at a2 a3
    generalize l.getD i .zero = u at hget hmem a2 a3
    rw [rnonL] at a2
    rw [szL] at a3
    have hu := ih u hmem (hL.2 u hmem)
    have hsz := szL_mem hmem
    have hul := rnonT_len u
    have hui := hu (by omega)
    generalize rnonT u = w at a2 hul hui
    have hwl : ((ints w).length : Int) = w.length := by rw [ints_len]
    refine run 400 rfl ?_
    refine at_val (.rp (tr u) 0) (does_index ty_ok _ rfl rfl rfl (by omega) (show (rowsT l)[(i : Int).toNat]? = some (tr u) from hget) rfl) ?_
    refine run 400 rfl ?_
    refine at_fn hui rfl ?_
    refine run 400 rfl ?_
    refine at_loop (fun p : Nat × List Int => p.1 ≤ w.length ∧ (w.drop p.1).foldl insF p.2 = w.foldl insF q ∧ p.2.length ≤ q.length + p.1) (fun p => [(1, .ptr 0 0), (3, .lst 1 (ints p.2)), (4, I i), (5, .lst 1 (ints w)), (6, I p.1)]) (fun _ => [(0, own33 (.mk k n s l))]) (fun p => w.length - p.1) [1, 2, 3, 4, 5, 6, 7]
      (0, q) ⟨by dsimp only; omega, rfl, by dsimp only; omega⟩ ⟨SVle.refl _, SVle.refl _, SVle.refl _, SVle.refl _, SVle.refl _, trivial⟩ ⟨rfl, trivial⟩ ?_
    rintro ⟨j, r⟩ ⟨b1, b2, b3⟩
    dsimp only at b1 b2 b3
    refine run 400 rfl ?_
    refine at_ifd rfl (fun g2 => ?_) (fun g2 => ?_)
    rotate_left
    · dsimp only at g2
      rw [hwl] at g2
      have e : j = w.length := by omega
      subst e
      rw [List.drop_length] at b2
      have b2 : r = w.foldl insF q := b2
      refine run 400 rfl ?_
      exact at_again (i + 1, r) ⟨by dsimp only; omega, by dsimp only; rw [b2]; exact a2, by dsimp only; omega⟩ (by dsimp only; omega) ⟨SVle.refl _, SVle.refl _, SVle.of_eq (by show I ((i : Int) + 1) = I ((i + 1 : Nat) : Int); rw [Int.natCast_add]; rfl), trivial⟩ ⟨rfl, trivial⟩
    dsimp only at g2
    rw [hwl] at g2
    have hlt2 : j < w.length := by omega
    have hget2 := ints_at hlt2
    rw [dropI hlt2, List.foldl_cons] at b2
    generalize w.getD j 0 = v at hget2 b2
    have hil := insF_len r v
    refine run 400 rfl ?_
    refine at_val (.rp [.int .i64 v] 0) (does_index ty_ok _ rfl rfl rfl (by omega) (show (ints w)[(j : Int).toNat]? = some [.int .i64 v] from hget2) rfl) ?_
    refine run 400 rfl ?_
    refine at_fn (ins_fn r v (by omega)) rfl ?_
    refine run 400 rfl ?_
    exact at_again (j + 1, insF r v) ⟨by dsimp only; omega, b2, by dsimp only; omega⟩ (by dsimp only; omega) ⟨SVle.refl _, SVle.refl _, SVle.refl _, SVle.refl _, SVle.of_eq (by show I ((j : Int) + 1) = I ((j + 1 : Nat) : Int); rw [Int.natCast_add]; rfl), trivial⟩ ⟨rfl, trivial⟩
end Go.Proofs.Ytmnmhehddbemkaa
/- The proof engine: lists in own blocks of more than one cell; owned slices. -/
namespace Go.Eng
open Go.RowKit

theorem Dens.set {g : Nat → Value} {H : Hp} {x : Value} {s : SV} (hs : Den g H s x) : ∀ (ds : List SV) (ws : List Value) (i : Nat), Dens g H ds ws → ws[i]? = some x → Dens g H (ds.set i s) ws
  | [], [], _, h, _ => h
  | [], _ :: _, _, h, _ => h.elim
  | _ :: _, [], _, h, _ => h.elim
  | d :: ds, v :: ws, 0, h, hx => by
    simp only [List.getElem?_cons_zero, Option.some.injEq] at hx
    subst hx
    exact ⟨hs, h.2⟩
  | d :: ds, v :: ws, i + 1, h, hx => ⟨h.1, Dens.set hs ds ws i h.2 (by simpa using hx)⟩

section
variable {E : Stc} {s : List Fr} {env : List (Nat × SV)} {own own2 : List (Nat × SO)} {nx : List Nat}
/-- A list in an own block gets a name. -/
theorem at_nameI {m : Md} (c k sz i : Nat) {ty sz0 : Nat} {cs : List SV} {rows : List (List DV)} (hc : ownq own c = some (.cells ty cs)) (hi : cs[i]? = some (.tl sz0 rows)) (hs : sz0 = sz ∨ rows = []) (hso : setOwnK c (.cells ty (cs.set i (.gl k sz rows))) own some = some own2)
    (kk : Sat E m s env ((k, .tok sz) :: own2) nx) (hm : Nat.ble E.cx.m0 k = true := by rfl) (hE : freshE k env = true := by rfl) (hO : freshO k own = true := by rfl) (hne : Nat.beq k c = false := by rfl) (hcs : SV.noKs k cs = true := by rfl) : Sat E m s env own nx := by
  rw [setOwnK_eq] at hso
  simp only [Option.some.injEq] at hso
  subst hso
  have hkc : ¬ k = c := fun e => by rw [e, Nat.beq_refl] at hne; cases hne
  refine sat_mono (fun a w hat => ?_) kk
  obtain ⟨hdf, g, H, hdn⟩ := hat
  obtain ⟨b, vs, g1, g2, g3, g4, g5, g6⟩ := hdn.ok c _ hc
  obtain ⟨x, hxi, hxd⟩ := Dens.get g2 hi
  obtain ⟨⟨ad, cp, e, h1, h2, h3⟩, ad', e'⟩ := hxd
  have hx : DenD H (.lst sz rows) x := by
    refine ⟨ad, cp, e, h1, h2, fun p hp => ?_⟩
    rcases hs with rfl | rfl
    · exact h3 p hp
    · exact ⟨.inl rfl, trivial⟩
  have hcp : cp = rows.length := by
    rw [e] at e'
    simp only [Value.slice.injEq, true_and] at e'
    exact e'.2
  obtain ⟨hd3, hp⟩ := hdn.tok (k := k) (sz := sz) (rows := rows) (Nat.le_of_ble_eq_true hm) hE hO hx ⟨ad, rows.length, cp, e, fun h => ⟨by rw [(h2 h).1]; rfl, (h2 h).2⟩, h1, fun p hp hlt => absurd hlt (by omega)⟩
  have hiff : ∀ j, (ownq ((k, SO.tok sz) :: setOwn c (.cells ty (cs.set i (.gl k sz rows))) own) j).isSome = true → (ownq ((k, SO.tok sz) :: own) j).isSome = true := by
    intro j hi
    simp only [ownq] at hi ⊢
    cases hb : Nat.beq k j with
    | true => rfl
    | false =>
      rw [hb, cond_false] at hi
      rw [cond_false]
      rw [ownq_setOwn] at hi
      split at hi
      · rename_i e
        subst e
        rw [hc]; rfl
      · exact hi
  refine ⟨hdf, _, H, { hd3 with ok := fun j o' hj => ?_, inj := fun i j hi hj => hd3.inj i j (hiff i hi) (hiff j hj) }⟩
  simp only [ownq] at hj
  cases hb : Nat.beq k j with
  | true =>
    have hj' : ownq ((k, SO.tok sz) :: own) j = some o' := by simp only [ownq, hb, cond_true]; rw [hb, cond_true] at hj; exact hj
    exact hd3.ok j o' hj'
  | false =>
    rw [hb, cond_false, ownq_setOwn] at hj
    have hjk : j ≠ k := fun e => by rw [e, Nat.beq_refl] at hb; cases hb
    by_cases hjc : j = c
    · subst hjc
      rw [if_pos rfl, hc] at hj
      simp only [Option.map_some, Option.some.injEq] at hj
      subst hj
      exact ⟨b, vs, by rw [upd_ne _ _ _ j hjk]; exact g1, Dens.set hp _ _ i (Dens.upd (k := k) (fun j hj => upd_ne _ _ _ j hj) cs vs hcs g2) hxi, g3, g4, g5, g6⟩
    · rw [if_neg hjc] at hj
      exact hd3.ok j o' (by simp only [ownq, hb, cond_false]; exact hj)
end
end Go.Eng
/- The proof engine, part 17s: regions whose order is drawn, gone through in stages. -/
namespace Go.Eng

/-- The first m operations are done, the others are not. -/
def SatA (E : Stc) (ops : Array Oper) (m : Nat) (s : List Fr) (env : List (Nat × SV)) (own : List (Nat × SO)) : Prop :=
  ∀ (fuel : Nat) (listed : Array Bool) (a : Act) (w : World), listed.size = ops.size → (∀ i, i < m → listed.getD i false = true) → (∀ i, m ≤ i → listed.getD i false = false) → ops.size - m ≤ fuel → At E env own a w → wpAny E.P .any ops (KK E s) fuel listed a w

/-- Each operation from n on stands behind all ahead of n. -/
def barGo (n : Nat) : Nat → List Nat → List Oper → Bool
  | _, _, [] => true
  | i, ms, o :: os => bif (bif Nat.ble n i then Nat.beq (Nat.land (maskOf ms o.after.toList) (Nat.sub (Nat.pow 2 n) 1)) (Nat.sub (Nat.pow 2 n) 1) else true) then barGo n (i + 1) (ms ++ [maskOf ms o.after.toList]) os else false

theorem barGo_spec {all : List Oper} {n : Nat} : ∀ (os : List Oper) (i : Nat) (ms : List Nat), barGo n i ms os = true → ms.length = i → (∀ k, os[k]? = all[i + k]?) → (∀ (k x : Nat), ms[k]? = some x → ∀ j, x.testBit j = true → Reach (fun i => all[i]?) k j) →
    ∀ k o, os[k]? = some o → n ≤ i + k → ∀ j, j < n → Reach (fun i => all[i]?) (i + k) j
  | [], _, _, _, _, _, _, k, o, h => by simp at h
  | x :: xs, i, ms, hs, hl, hall, hm, k, o, h => by
    simp only [barGo] at hs
    cases hc : (bif Nat.ble n i then Nat.beq (Nat.land (maskOf ms x.after.toList) (Nat.sub (Nat.pow 2 n) 1)) (Nat.sub (Nat.pow 2 n) 1) else true) with
    | false => rw [hc] at hs; cases hs
    | true =>
      rw [hc, cond_true] at hs
      have hx : all[i]? = some x := by have := hall 0; simpa using this.symm
      have hmask := maskOf_spec (get := fun i => all[i]?) hm hx x.after.toList (fun _ h => h)
      cases k with
      | zero =>
        intro hn j hj
        rw [Nat.add_zero] at hn ⊢
        rw [Nat.ble_eq_true_of_le hn, cond_true] at hc
        have e : (maskOf ms x.after.toList) &&& (2 ^ n - 1) = 2 ^ n - 1 := beq_true hc
        refine hmask j ?_
        have h2 : (2 ^ n - 1).testBit j = true := by rw [Nat.testBit_two_pow_sub_one]; simpa using hj
        rw [← e, Nat.testBit_and, Bool.and_eq_true] at h2
        exact h2.1
      | succ k =>
        intro hn j hj
        have := barGo_spec xs (i + 1) (ms ++ [maskOf ms x.after.toList]) hs (by simp [hl]) (fun k => by have := hall (k + 1); rw [show i + 1 + k = i + (k + 1) from by omega]; simpa using this) (fun q y hq => by
          by_cases hlt : q < ms.length
          · rw [List.getElem?_append_left hlt] at hq
            exact hm q y hq
          · rw [List.getElem?_append_right (by omega)] at hq
            have : q - ms.length = 0 := by
              cases hz : q - ms.length with
              | zero => rfl
              | succ z => rw [hz] at hq; simp at hq
            rw [this] at hq
            simp only [List.getElem?_cons_zero, Option.some.injEq] at hq
            subst hq
            obtain rfl : q = i := by omega
            exact hmask) k o (by simpa using h) (by omega) j (by omega)
        rw [show i + (k + 1) = i + 1 + k from by omega]
        exact this
def barOk (n : Nat) (all : List Oper) : Bool := barGo n 0 [] all
theorem barOk_spec {n : Nat} {all : List Oper} (h : barOk n all = true) {i : Nat} {o : Oper} (ho : all[i]? = some o) (hn : n ≤ i) {j : Nat} (hj : j < n) : Reach (fun i => all[i]?) i j := by
  have := barGo_spec (all := all) all 0 [] h rfl (fun k => by simp) (fun k x hx => by simp at hx) i o ho (by omega) j (by omega)
  simpa using this

/-- A stage of a region, in whatever order. -/
theorem wpAny_stage (E : Stc) (ops : Array Oper) (pre suf : List Oper) (plan : List PE) (env0 : List (Nat × SV)) (own0 : List (Nat × SO)) (s : List Fr) (m0 : Nat)
    (hops : ops.toList = pre ++ suf) (hlen : plan.length = pre.length) (hdst : dstsOk pre = true) (htil : tilsLt pre.length plan) (hsuf : barOk pre.length (pre ++ suf) = true) (hah : aheadOk 0 (pre ++ suf) = true)
    (cert : ∀ i o p, m0 ≤ i → pre[i]? = some o → plan[i]? = some p → Cert E ops pre plan env0 own0 s i o p)
    (hK : SatA E ops pre.length s (envOf (fun _ => true) 0 pre plan env0) (ownOf (fun _ => true) 0 plan own0)) :
    ∀ (fuel : Nat) (listed : Array Bool) (a : Act) (w : World), listed.size = ops.size →
      (∃ i, i < pre.length ∧ listed.getD i false = false) → (∀ i, i < m0 → listed.getD i false = true) → (∀ i, pre.length ≤ i → listed.getD i false = false) →
          (∀ j oj k, pre[j]? = some oj → listed.getD j false = true → behind oj k = true → listed.getD k false = true) →
          (listed.toList.filter (!·)).length ≤ fuel → At E (envOf (fun i => listed.getD i false) 0 pre plan env0) (ownOf (fun i => listed.getD i false) 0 plan own0) a w →
      wpAny E.P .any ops (KK E s) fuel listed a w := by
  have hget : ∀ i : Nat, ops[i]? = (pre ++ suf)[i]? := fun i => by rw [← hops]; simp
  have hsize : ops.size = pre.length + suf.length := by rw [← Array.length_toList, hops, List.length_append]
  have hd : ∀ (listed : Array Bool) (i : Nat), listed.size = ops.size → i < ops.size → listed.getD i true = listed.getD i false := by
    intro listed i h1 h2
    simp [h1, h2]
  intro fuel
  induction fuel with
  | zero =>
    intro listed a w hls ⟨i, hi, hli⟩ _ _ _ hf _
    · exfalso
      have hil : i < listed.size := by omega
      have : false ∈ listed.toList := by
        have e : listed.getD i false = listed[i] := by simp [hil]
        rw [e] at hli
        rw [← hli]
        exact Array.mem_toList_iff.2 (Array.getElem_mem hil)
      have hm : false ∈ listed.toList.filter (!·) := List.mem_filter.2 ⟨this, rfl⟩
      have := List.length_pos_of_mem hm
      omega
  | succ fuel ih =>
    intro listed a w hls ⟨i, hi, hli⟩ hm0 hsf hcl hf hat
    · -- the first phase
      -- the least that is left may come
      have hleast : ∃ m, m < pre.length ∧ listed.getD m false = false ∧ ∀ j, j < m → listed.getD j false = true := by
        have : ∀ n, n ≤ pre.length → (∀ j, j < n → listed.getD j false = true) ∨ ∃ m, m < n ∧ listed.getD m false = false ∧ ∀ j, j < m → listed.getD j false = true := by
          intro n
          induction n with
          | zero => intro _; exact .inl fun j hj => absurd hj (Nat.not_lt_zero j)
          | succ n ihn =>
            intro hn
            rcases ihn (by omega) with h | ⟨m, hm, h1, h2⟩
            · cases hc : listed.getD n false with
              | true =>
                refine .inl fun j hj => ?_
                rcases Nat.lt_or_ge j n with h' | h'
                · exact h j h'
                · have : j = n := by omega
                  subst this
                  exact hc
              | false => exact .inr ⟨n, by omega, hc, h⟩
            · exact .inr ⟨m, by omega, h1, h2⟩
        rcases this pre.length (Nat.le_refl _) with h | ⟨m, hm, h1, h2⟩
        · rw [h i hi] at hli; cases hli
        · exact ⟨m, hm, h1, h2⟩
      obtain ⟨m, hm, hlm, hbm⟩ := hleast
      have hom : ops[m]? = some pre[m] := by
        rw [hget, List.getElem?_append_left hm]
        exact List.getElem?_eq_getElem hm
      have hmr : m ∈ Region.ready .any ops listed := by
        refine ready_iff.2 ⟨by rw [hd listed m hls (by omega)]; exact hlm, pre[m], hom, fun j hj => hbm j ?_⟩
        have := aheadOk_spec (pre ++ suf) 0 m pre[m] hah (by rw [← hget]; exact hom) j hj
        omega
      refine ⟨fun h0 => (by rw [h0] at hmr; cases hmr), fun j hj => ?_⟩
      obtain ⟨hj1, o, ho, hb⟩ := ready_iff.1 hj
      have hjl : j < ops.size := (Array.getElem?_eq_some_iff.1 ho).1
      rw [hd listed j hls hjl] at hj1
      have hjp : j < pre.length := by
        rcases Nat.lt_or_ge j pre.length with h | h
        · exact h
        · exfalso
          have hoj0 : (pre ++ suf)[j]? = some o := by rw [← hget]; exact ho
          have := reach_listed (get := fun i => (pre ++ suf)[i]?) (L := fun i => listed.getD i false) (fun i o k' hi hL hb' => by
            rcases Nat.lt_or_ge i pre.length with h' | h'
            · rw [List.getElem?_append_left h'] at hi
              exact hcl i o k' hi hL hb'
            · simp only [hsf i h'] at hL
              cases hL) (barOk_spec hsuf hoj0 h hm) (fun o' ho' k' hk' => by
            rw [hoj0] at ho'
            cases ho'
            exact hb k' hk')
          simp only [hlm] at this
          cases this
      have hoj : pre[j]? = some o := by
        rw [hget, List.getElem?_append_left hjp] at ho
        exact ho
      have hpj : plan[j]? = some plan[j] := List.getElem?_eq_getElem (by omega)
      have hjm : m0 ≤ j := by
        rcases Nat.lt_or_ge j m0 with h | h
        · rw [hm0 j h] at hj1; cases hj1
        · exact h
      have hc := cert j o plan[j] hjm hoj hpj (fun i => listed.getD i false) hj1 hb hcl a w hat
      refine wpOp_mono (fun a' w' hat' => ?_) hc
      have hsel : ∀ i, i < pre.length → (listed.setIfInBounds j true).getD i false = add (fun i => listed.getD i false) j i := by
        intro i hip
        by_cases e : i = j
        · subst e
          have : i < listed.size := by omega
          simp [this, add]
        · rw [getD_set_ne false (Ne.symm e)]
          have : Nat.beq i j = false := by
            cases hb : Nat.beq i j with
            | false => rfl
            | true => exact absurd (beq_true hb) e
          simp [add, this]
      have hat2 : At E (envOf (fun i => (listed.setIfInBounds j true).getD i false) 0 pre plan env0) (ownOf (fun i => (listed.setIfInBounds j true).getD i false) 0 plan own0) a' w' := by
        rw [envOf_congr (sel' := add (fun i => listed.getD i false) j) pre plan 0 env0 (fun i _ hi => hsel i (by omega)), ownOf_congr (sel' := add (fun i => listed.getD i false) j) hsel plan 0 own0 htil (by omega)]
        refine at_le hat' ?_ fun _ _ h => h
        have := envOf_add (sel := fun i => listed.getD i false) pre plan 0 j env0 o plan[j] hdst hoj hpj
        rw [Nat.zero_add] at this
        exact this
      have hcount : ((listed.setIfInBounds j true).toList.filter (!·)).length ≤ fuel := by
        have hjls : j < listed.toList.length := by simpa using (by omega : j < listed.size)
        have e1 : (listed.setIfInBounds j true).toList = listed.toList.set j true := by simp
        have e2 : listed.toList = listed.toList.take j ++ listed.toList[j] :: listed.toList.drop (j + 1) := by
          rw [← List.drop_eq_getElem_cons hjls, List.take_append_drop]
        have e3 : listed.toList.set j true = listed.toList.take j ++ true :: listed.toList.drop (j + 1) := List.set_eq_take_append_cons_drop.trans (if_pos hjls)
        have e4 : listed.toList[j] = false := by
          have : listed.getD j false = listed[j]'(by omega) := by simp [show j < listed.size by omega]
          rw [this] at hj1
          simpa using hj1
        rw [e1, e3]
        rw [e2, e4] at hf
        simp only [List.filter_append, List.filter_cons, List.length_append] at hf ⊢
        simp at hf ⊢
        omega
      by_cases hall : ∃ i, i < pre.length ∧ (listed.setIfInBounds j true).getD i false = false
      · refine ih _ a' w' (by simpa using hls) hall (fun i hi => getD_set_true (hm0 i hi)) (fun i hi => by rw [getD_set_ne false (by omega)]; exact hsf i hi) (fun i oi k hoi hli hk => ?_) hcount hat2
        by_cases e : i = j
        · subst e
          rw [hoj] at hoi
          cases hoi
          exact getD_set_true (hb k hk)
        · rw [getD_set_ne false (Ne.symm e)] at hli
          exact getD_set_true (hcl i oi k hoi hli hk)
      · have hle : ops.size - pre.length ≤ fuel := by
          have hle : suf.length ≤ ((listed.setIfInBounds j true).toList.filter (!·)).length := by
            have e5 : (listed.setIfInBounds j true).toList.drop pre.length = List.replicate suf.length false := by
              apply List.ext_getElem?
              intro i
              rw [List.getElem?_drop, List.getElem?_replicate]
              by_cases hi : i < suf.length
              · rw [if_pos hi]
                have hlt : pre.length + i < (listed.setIfInBounds j true).size := by simp; omega
                have : (listed.setIfInBounds j true).getD (pre.length + i) false = false := by
                  rw [getD_set_ne false (by omega)]; exact hsf _ (by omega)
                rw [Array.getElem?_toList, Array.getElem?_eq_getElem hlt]
                have e6 : (listed.setIfInBounds j true).getD (pre.length + i) false = (listed.setIfInBounds j true)[pre.length + i] := by
                  rw [Array.getD_eq_getD_getElem?, Array.getElem?_eq_getElem hlt]; rfl
                rw [← e6, this]
              · rw [if_neg hi]
                apply List.getElem?_eq_none
                simp
                omega
            have e7 : ((listed.setIfInBounds j true).toList.filter (!·)).length = (((listed.setIfInBounds j true).toList.take pre.length).filter (!·)).length + (((listed.setIfInBounds j true).toList.drop pre.length).filter (!·)).length := by
              rw [← List.length_append, ← List.filter_append, List.take_append_drop]
            rw [e7, e5]
            simp
          omega
        have htrue : ∀ i, i < pre.length → (listed.setIfInBounds j true).getD i false = true := fun i hi => by
          cases hc : (listed.setIfInBounds j true).getD i false with
          | true => rfl
          | false => exact absurd ⟨i, hi, hc⟩ hall
        refine hK fuel _ a' w' (by simpa using hls) htrue (fun i hi => by rw [getD_set_ne false (by omega)]; exact hsf i hi) hle ?_
        rw [envOf_congr (sel' := fun i => (listed.setIfInBounds j true).getD i false) pre plan 0 env0 (fun i _ hi => (htrue i (by omega)).symm), ownOf_congr (sel' := fun i => (listed.setIfInBounds j true).getD i false) (N := pre.length) (fun i hi => (htrue i hi).symm) plan 0 own0 htil (by omega)]
        exact hat2

/-- What is done already, as a part of a plan. -/
def dums (env0 : List (Nat × SV)) : List Oper → List PE
  | [] => []
  | o :: os => ⟨match o.dst with | some d => nth env0 d | none => .any, [], none, none, false⟩ :: dums env0 os
theorem dums_len (env0 : List (Nat × SV)) : ∀ l, (dums env0 l).length = l.length
  | [] => rfl
  | _ :: l => by simp [dums, dums_len env0 l]

def dumsK {α : Type} (env0 : List (Nat × SV)) : List Oper → (List PE → α) → α
  | [], k => k []
  | o :: os, k => dumsK env0 os fun r => match o.dst with
    | some d => nthK d (fun s => k (⟨s, [], none, none, false⟩ :: r)) env0
    | none => k (⟨.any, [], none, none, false⟩ :: r)
theorem dumsK_eq {α : Type} (env0 : List (Nat × SV)) : ∀ (l : List Oper) (k : List PE → α), dumsK env0 l k = k (dums env0 l)
  | [], _ => rfl
  | o :: os, k => by
    simp only [dumsK, dums, dumsK_eq env0 os]
    cases o.dst with
    | some d => simp only [nthK_eq]
    | none => rfl

/-- A stage: from m0 done to m1 done. -/
def planS (P : Program) (T : Nat → TI) (mm n : Nat) (all : List Oper) (m0 : Nat) (pre0 pre1 pre : List Oper) (ans : List (Nat × Ans)) (env0 : List (Nat × SV)) (own0 : List (Nat × SO)) (nx st : List Nat) : PlanR :=
  bif dstsOk pre then
    bif barOk pre.length all then
      bif aheadOk 0 all then
        rmOK st own0 fun ownR => dumsK env0 pre0 fun ds => planK P T mm n all pre ans env0 ownR own0 m0 pre1 ds nx [] fun ps ob =>
          bif newOk own0 ps && (disO ownR ps && (eatOk own0 ps && eatU ps)) then
            bif freshP mm pre ps env0 own0 0 ps then
              bif tilsB pre ps 0 ps then
                envOfK (fun _ => true) 0 pre ps env0 fun env => ownOfK ps own0 fun own => .ok ps env own ob
              else .stuck 105
            else .stuck 104
          else .stuck 103
      else .stuck 102
    else .stuck 101
  else .stuck 100

theorem satA_mono {E : Stc} {ops : Array Oper} {m : Nat} {s : List Fr} {env env' : List (Nat × SV)} {own own' : List (Nat × SO)} (h : ∀ a w, At E env own a w → At E env' own' a w) (k : SatA E ops m s env' own') : SatA E ops m s env own :=
  fun fuel listed a w h1 h2 h3 h4 hat => k fuel listed a w h1 h2 h3 h4 (h a w hat)

/-- At the front of a region. -/
theorem at_stages {E : Stc} {id : Nat} {ops : Array Oper} {s : List Fr} {env : List (Nat × SV)} {own : List (Nat × SO)} {nx : List Nat} (h : SatA E ops 0 s env own) (hm : E.P.follows .mixedOrders = true := by rfl) : Sat E (.code (.region id ops true)) s env own nx := by
  intro a w hat
  refine wp_region_any hm ?_
  refine h ops.size _ a w.drew (by simp) (fun i hi => absurd hi (Nat.not_lt_zero i)) (fun i _ => ?_) (by omega) ?_
  · rw [Array.getD_eq_getD_getElem?, Array.getElem?_replicate]
    split <;> rfl
  · obtain ⟨hdf, g, H, hd⟩ := hat
    exact ⟨hdf, g, H, hd.drew⟩

/-- At the end of a region. -/
theorem at_stage_end {E : Stc} {ops : Array Oper} {m : Nat} {s : List Fr} {env : List (Nat × SV)} {own : List (Nat × SO)} (nx : List Nat) (hm : m = ops.size) (h : Sat E .norm s env own nx) : SatA E ops m s env own := by
  subst hm
  intro fuel listed a w hls h1 _ _ hat
  have hr : Region.ready .any ops listed = [] := by
    apply List.eq_nil_iff_forall_not_mem.2
    intro j hj
    obtain ⟨hj1, o, ho, _⟩ := ready_iff.1 hj
    have hlt : j < ops.size := (Array.getElem?_eq_some_iff.1 ho).1
    have := h1 j hlt
    have e : listed.getD j true = listed.getD j false := by simp [hls, hlt]
    rw [e, this] at hj1
    cases hj1
  cases fuel with
  | zero => exact ⟨hr, h a w hat⟩
  | succ fuel => exact ⟨fun _ => h a w hat, by rw [hr]; simp⟩

theorem envOf_dums {E : List (Nat × SV)} : ∀ (l : List Oper) (ps : List PE) (i0 _m : Nat) (sel : Nat → Bool) (env : List (Nat × SV)), (∀ i p, ps[i]? = some p → sel (i0 + i) = true → ∀ o d, l[i]? = some o → o.dst = some d → SVle (nth E d) p.sv) → leE E env → leE E (envOf sel i0 l ps env)
  | [], _, _, _, _, env, _, h => by simpa [envOf] using h
  | o :: os, [], i0, m, sel, env, hp, h => by
    intro t
    simp only [envOf, nth_put]
    split
    · exact SVle.any _
    · exact envOf_dums os [] (i0 + 1) m sel env (fun i p hq => by simp at hq) h t
  | o :: os, p :: ps, i0, m, sel, env, hp, h => by
    intro t
    simp only [envOf, nth_put]
    split
    · rename_i hd
      cases hs : sel i0 with
      | false => exact SVle.any _
      | true => exact hp 0 p rfl (by simpa using hs) o t rfl hd
    · exact envOf_dums os ps (i0 + 1) m sel env (fun i q hq hsel o' d ho' hd' => hp (i + 1) q (by simpa using hq) (by rw [show i0 + (i + 1) = i0 + 1 + i from by omega]; exact hsel) o' d (by simpa using ho') hd') h t

theorem ownOf_none {sel : Nat → Bool} : ∀ (ps : List PE) (i0 : Nat) (own : List (Nat × SO)), (∀ i p, ps[i]? = some p → sel (i0 + i) = true → p.new = [] ∧ p.eats = none) → ownOf sel i0 ps own = own
  | [], _, _, _ => rfl
  | p :: ps, i0, own, h => by
    simp only [ownOf]
    have h1 := h 0 p rfl
    have ih := fun own => ownOf_none (sel := sel) ps (i0 + 1) own (fun i q hq hs => h (i + 1) q (by simpa using hq) (by rw [show i0 + (i + 1) = i0 + 1 + i from by omega]; exact hs))
    cases hs : sel i0 with
    | false => simp [ih]
    | true =>
      obtain ⟨h2, h3⟩ := h1 (by simpa using hs)
      rw [h2, h3]
      cases tilOk sel p.til <;> simp [eatO, ih]

theorem dums_get (env0 : List (Nat × SV)) : ∀ (l : List Oper) (i : Nat) (o : Oper), l[i]? = some o → (dums env0 l)[i]? = some ⟨match o.dst with | some d => nth env0 d | none => .any, [], none, none, false⟩
  | [], _, _, h => by simp at h
  | x :: xs, 0, o, h => by
    simp only [List.getElem?_cons_zero, Option.some.injEq] at h
    subst h
    rfl
  | x :: xs, i + 1, o, h => by
    simp only [dums, List.getElem?_cons_succ]
    exact dums_get env0 xs i o (by simpa using h)

theorem at_stageG {E : Stc} {ops : Array Oper} {s : List Fr} {env : List (Nat × SV)} {own : List (Nat × SO)} {all pre0 pre1 suf : List Oper} {ps : List PE} {env' : List (Nat × SV)} {own' : List (Nat × SO)} {ob : List Prop} {m0 m1 : Nat}
    (st : List Nat) (hall : ops.toList = all) (hsplit : all = (pre0 ++ pre1) ++ suf) (h0 : pre0.length = m0) (h01 : (pre0 ++ pre1).length = m1) (ans : List (Nat × Ans)) (nx0 : List Nat) (h : planS E.P E.T E.cx.m0 E.n all m0 pre0 pre1 (pre0 ++ pre1) ans env own nx0 st = .ok ps env' own' ob) (ho : All ob)
    (hS : SatA E ops m1 s env' own') : SatA E ops m0 s env own := by
  subst hall
  generalize hpre : pre0 ++ pre1 = pre at h hsplit h01
  unfold planS at h
  cases h1 : dstsOk pre with
  | false => simp [h1] at h
  | true =>
    cases h2 : barOk pre.length ops.toList with
    | false => simp [h1, h2] at h
    | true =>
      cases h3 : aheadOk 0 ops.toList with
      | false => simp [h1, h2, h3] at h
      | true =>
        simp only [h1, h2, h3, cond_true, envOfK_eq, ownOfK_eq 0, rmOK_eq, dumsK_eq] at h
        have key := planK_sound E ops.toList pre ans env (rmO st own) own _ ps env' own' ob ((newOk own ps && (disO (rmO st own) ps && (eatOk own ps && eatU ps))) = true ∧ freshP E.cx.m0 pre ps env own 0 ps = true ∧ tilsB pre ps 0 ps = true ∧ env' = envOf (fun _ => true) 0 pre ps env ∧ own' = ownOf (fun _ => true) 0 ps own) (fun qs ob1 hq ha => by
          cases h4 : (newOk own qs && (disO (rmO st own) qs && (eatOk own qs && eatU qs))) with
          | false => simp [h4] at hq
          | true =>
            cases h5 : freshP E.cx.m0 pre qs env own 0 qs with
            | false => simp [h4, h5] at hq
            | true =>
              cases h6 : tilsB pre qs 0 qs with
              | false => simp [h4, h5, h6] at hq
              | true =>
                simp only [h4, h5, h6, cond_true, PlanR.ok.injEq] at hq
                obtain ⟨e1, e2, e3, e4⟩ := hq
                subst e1; subst e4
                exact ⟨rfl, ha, h4, h5, h6, e2.symm, e3.symm⟩) pre1 m0 (dums env pre0) nx0 [] (by rw [dums_len, h0]) h ho
        obtain ⟨_, ⟨q, hq⟩, hlen0, hlocs, hn, hf, htl, e1, e2⟩ := key
        have hlp : pre.length = m0 + pre1.length := by rw [← hpre, List.length_append, h0]
        have hlen : ps.length = pre.length := by rw [hlen0, hlp]
        rw [Bool.and_eq_true, Bool.and_eq_true, Bool.and_eq_true] at hn
        obtain ⟨hn, hdis, heat, hu⟩ := hn
        subst e1; subst e2
        have hget : ∀ i, m0 ≤ i → pre[i]? = pre1[i - m0]? := fun i hi => by rw [← hpre, List.getElem?_append_right (by omega), h0]
        have cert : ∀ i o p, m0 ≤ i → pre[i]? = some o → ps[i]? = some p → Cert E ops pre ps env own s i o p := by
          intro i o p hi hio hip
          obtain ⟨hd, p', hp', hl⟩ := locs_get pre1 m0 (i - m0) o hlocs (by rw [← hget i hi]; exact hio)
          rw [show m0 + (i - m0) = i from by omega] at hp' hl
          rw [hip] at hp'
          cases hp'
          exact cert_of_loc hsplit hlen (fun k o h => rmO_own h) hdis hn heat hu (by rw [← hsplit]; exact h3) hf (fun i p j hp hj => by have := (tilsB_spec ps 0 i p j htl hp hj).2; rwa [Nat.zero_add] at this) hio hip hd hl
        have htl' : tilsLt pre.length ps := fun p hp j hj => by
          obtain ⟨i, hi⟩ := List.getElem?_of_mem hp
          exact (tilsB_spec ps 0 i p j htl hi hj).1
        have hsz : ops.size = pre.length + suf.length := by rw [← Array.length_toList, hsplit, List.length_append]
        intro fuel listed a w hls hl1 hl2 hfu hat
        have hat' : At E (envOf (fun i => listed.getD i false) 0 pre ps env) (ownOf (fun i => listed.getD i false) 0 ps own) a w := by
          have hdum : ∀ i p, ps[i]? = some p → listed.getD i false = true → i < m0 ∧ ∃ o, pre0[i]? = some o ∧ p = ⟨match o.dst with | some d => nth env d | none => .any, [], none, none, false⟩ := by
            intro i p hp hs
            have hi : i < m0 := by
              rcases Nat.lt_or_ge i m0 with h | h
              · exact h
              · rw [hl2 i h] at hs; cases hs
            refine ⟨hi, pre0[i]'(by omega), List.getElem?_eq_getElem _, ?_⟩
            rw [hq, List.getElem?_append_left (by rw [dums_len]; omega), dums_get env pre0 i _ (List.getElem?_eq_getElem (by omega))] at hp
            exact (Option.some.inj hp).symm
          refine at_le hat ?_ ?_
          · refine envOf_dums pre ps 0 m0 _ env (fun i p hp hs o d hio hd => ?_) (fun _ => SVle.refl _)
            rw [Nat.zero_add] at hs
            obtain ⟨hi, o', ho', rfl⟩ := hdum i p hp hs
            have : pre[i]? = some o' := by rw [← hpre, List.getElem?_append_left (by omega)]; exact ho'
            rw [this] at hio
            cases hio
            rw [hd]
            exact SVle.refl _
          · rw [ownOf_none ps 0 own (fun i p hp hs => by
              rw [Nat.zero_add] at hs
              obtain ⟨_, o', _, rfl⟩ := hdum i p hp hs
              exact ⟨rfl, rfl⟩)]
            exact fun _ _ h => h
        have hS' : SatA E ops pre.length s (envOf (fun _ => true) 0 pre ps env) (ownOf (fun _ => true) 0 ps own) := by rw [h01]; exact hS
        by_cases hp1 : pre1.length = 0
        · -- nothing is to be done
          have e : pre.length = m0 := by omega
          refine hS' fuel listed a w hls (fun i hi => hl1 i (by omega)) (fun i hi => hl2 i (by omega)) (by omega) ?_
          rw [envOf_congr (sel' := fun i => listed.getD i false) pre ps 0 env (fun i _ hi => (hl1 i (by omega)).symm), ownOf_congr (sel' := fun i => listed.getD i false) (N := pre.length) (fun i hi => (hl1 i (by omega)).symm) ps 0 own htl' (by omega)]
          exact hat'
        · refine wpAny_stage E ops pre suf ps env own s m0 hsplit hlen h1 htl' (by rw [← hsplit]; exact h2) (by rw [← hsplit]; exact h3) cert hS' fuel listed a w hls ⟨m0, by omega, hl2 m0 (Nat.le_refl _)⟩ hl1 (fun i hi => hl2 i (by omega)) (fun j oj k hoj hj hb => ?_) ?_ hat'
          · have hjm : j < m0 := by
              rcases Nat.lt_or_ge j m0 with h | h
              · exact h
              · rw [hl2 j h] at hj; cases hj
            have hjl : j < pre.length := by omega
            have := aheadOk_spec ops.toList 0 j oj h3 (by rw [hsplit, List.getElem?_append_left hjl]; exact hoj) k hb
            exact hl1 k (by omega)
          · have e5 : listed.toList = List.replicate m0 true ++ List.replicate (ops.size - m0) false := by
              apply List.ext_getElem?
              intro i
              rw [Array.getElem?_toList, List.getElem?_append, List.length_replicate, List.getElem?_replicate, List.getElem?_replicate]
              by_cases hi : i < ops.size
              · have e6 : listed.getD i false = listed[i]'(by omega) := by rw [Array.getD_eq_getD_getElem?, Array.getElem?_eq_getElem (by omega)]; rfl
                rw [Array.getElem?_eq_getElem (by omega), ← e6]
                by_cases hm : i < m0
                · rw [if_pos hm, if_pos hm, hl1 i hm]
                · rw [if_neg hm, if_pos (by omega), hl2 i (by omega)]
              · rw [Array.getElem?_eq_none (by omega)]
                by_cases hm : i < m0
                · omega
                · rw [if_neg hm, if_neg (by omega)]
            rw [e5]
            simpa using hfu

/-- A stage whose operations come in whatever order: from m0 on up to m1; st: which own blocks are written. -/
theorem at_stage {E : Stc} {ops : Array Oper} {s : List Fr} {env : List (Nat × SV)} {own : List (Nat × SO)} {all pre0 pre1 rest suf : List Oper} {ps : List PE} {env' : List (Nat × SV)} {own' : List (Nat × SO)} {ob : List Prop} {m0 m1 : Nat}
    (d : Nat) (st : List Nat) (hall : ops.toList = all) (hs0 : splitK m0 all Prod.mk = (pre0, rest)) (hs1 : splitK d rest Prod.mk = (pre1, suf)) (h0 : pre0.length = m0) (h01 : (pre0 ++ pre1).length = m1) (ans : List (Nat × Ans)) (nx0 : List Nat)
    (h : planS E.P E.T E.cx.m0 E.n all m0 pre0 pre1 (pre0 ++ pre1) ans env own nx0 st = .ok ps env' own' ob) (ho : All ob) (hS : SatA E ops m1 s env' own') : SatA E ops m0 s env own :=
  at_stageG st hall (by rw [splitK_pair hs0, splitK_pair hs1, List.append_assoc]) h0 h01 ans nx0 h ho hS

theorem letsOut_then {Q : Exit → Act → World → Prop} {A : Act → World → Prop} (h : LetsOut (Exit.then A Q)) : LetsOut Q := h

theorem wp_then {P : Program} {o : Oper} {a : Act} {w : World} {A : Act → World → Prop} {K K' : Act → World → Prop} {Q : Exit → Act → World → Prop} (h : ∀ a w, K a w → K' a w) (hh : o.wp P a w K (Exit.then A Q)) : o.wp P a w K' Q := by
  have h2 := Oper.wp_mono h hh
  unfold Oper.wp at *
  generalize (execOp a.eval o).run P w = r at *
  cases r with
  | ok n w' =>
    cases n <;> simp only [Oper.upon] at h2 ⊢ <;>
      first
        | exact h2
        | exact Calls.mono h2 (fun e w'' he => by cases e <;> exact he)
  | halt x w' => cases x <;> simp only [Oper.upon] at h2 ⊢ <;> exact h2

/-- One operation that all others wait for. -/
theorem at_forced {E : Stc} {ops : Array Oper} {s : List Fr} {env : List (Nat × SV)} {own : List (Nat × SO)} (nx : List Nat) {all pre0 suf : List Oper} {o : Oper} {m0 : Nat} {α : Type} (φ : α → Prop) (σ : α → List (Nat × SV)) (τ : α → List (Nat × SO))
    (hall : ops.toList = all) (hs0 : splitK m0 all Prod.mk = (pre0, o :: suf)) (h0 : pre0.length = m0) (hbar : barOk (m0 + 1) all = true) (hah : aheadOk 0 all = true)
    (h : Sat E (.ops all [o]) (.lp (Joined φ σ τ) :: s) env own nx) (k : ∀ y, φ y → SatA E ops (m0 + 1) s (σ y) (τ y)) : SatA E ops m0 s env own := by
  subst hall
  have hsp := splitK_pair hs0
  have hget : ∀ i : Nat, ops[i]? = ops.toList[i]? := fun i => by simp
  have hop : ops[m0]? = some o := by
    rw [hget, hsp, List.getElem?_append_right (by omega), h0, Nat.sub_self]
    rfl
  have hm : m0 < ops.size := (Array.getElem?_eq_some_iff.1 hop).1
  intro fuel listed a w hls hl1 hl2 hfu hat
  have hd : ∀ i, i < ops.size → listed.getD i true = listed.getD i false := fun i hi => by simp [hls, hi]
  have hready : ∀ j, j ∈ Region.ready .any ops listed ↔ j = m0 := by
    intro j
    rw [ready_iff]
    constructor
    · rintro ⟨hj1, o', ho, hb⟩
      have hjl : j < ops.size := (Array.getElem?_eq_some_iff.1 ho).1
      rw [hd j hjl] at hj1
      have hge : m0 ≤ j := by
        rcases Nat.lt_or_ge j m0 with h | h
        · rw [hl1 j h] at hj1; cases hj1
        · exact h
      rcases Nat.lt_or_ge m0 j with h | h
      · exfalso
        have hoj0 : ops.toList[j]? = some o' := by rw [← hget]; exact ho
        have := reach_listed (get := fun i => ops.toList[i]?) (L := fun i => listed.getD i false) (fun i oi k' hi hL hb' => hl1 k' (by
          have hlt' := aheadOk_spec ops.toList 0 i oi hah hi k' hb'
          rcases Nat.lt_or_ge i m0 with h' | h'
          · omega
          · simp only [hl2 i h'] at hL
            cases hL)) (barOk_spec hbar hoj0 (by omega) (Nat.lt_succ_self m0)) (fun o'' ho' k' hk' => by
          rw [hoj0] at ho'
          cases ho'
          exact hb k' hk')
        simp only [hl2 _ (Nat.le_refl _)] at this
        cases this
      · omega
    · rintro rfl
      refine ⟨by rw [hd _ hm]; exact hl2 _ (Nat.le_refl _), o, hop, fun j hj => hl1 j ?_⟩
      have := aheadOk_spec ops.toList 0 j.succ.pred
      have := aheadOk_spec ops.toList 0 _ o hah (by rw [← hget]; exact hop) j hj
      omega
  cases fuel with
  | zero => omega
  | succ fuel =>
    refine ⟨fun e => ?_, fun j hj => ?_⟩
    · have := (hready m0).2 rfl
      rw [e] at this
      cases this
    · obtain rfl := (hready j).1 hj
      have hw := h a w hat
      have key : ∀ a w, KK E (.lp (Joined φ σ τ) :: s) .normal a w → wpAny E.P .any ops (KK E s) fuel (listed.setIfInBounds j true) a w := by
        rintro a w ⟨env1, own1, ⟨y, hy, he, ho⟩, hat1⟩
        refine k y hy fuel _ a w (by simpa using hls) (fun i hi => ?_) (fun i hi => ?_) (by omega) (at_sub hat1 he ho)
        · by_cases e : i = j
          · subst e
            have : i < listed.size := by omega
            simp [this]
          · rw [getD_set_ne false (Ne.symm e)]; exact hl1 i (by omega)
        · rw [getD_set_ne false (by omega)]; exact hl2 i (by omega)
      unfold wpOp
      rw [hop]
      simp only
      unfold wpList at hw
      rw [Array.toArray_toList] at hw
      split
      · rename_i hwant
        rw [if_pos hwant] at hw
        exact hw.imp (wp_then key) (fun h => ⟨h.1, letsOut_then h.2⟩)
      · rename_i hwant
        rw [if_neg hwant] at hw
        exact key _ _ hw

/-- Between stages the state may be looked at in other words. -/
theorem at_between {E : Stc} {ops : Array Oper} {m : Nat} {s : List Fr} {env : List (Nat × SV)} {own : List (Nat × SO)} (nx : List Nat) {α : Type} (φ : α → Prop) (σ : α → List (Nat × SV)) (τ : α → List (Nat × SO))
    (h : Sat E .norm (.lp (Joined φ σ τ) :: s) env own nx) (k : ∀ y, φ y → SatA E ops m s (σ y) (τ y)) : SatA E ops m s env own := by
  intro fuel listed a w h1 h2 h3 h4 hat
  obtain ⟨env1, own1, ⟨y, hy, he, ho⟩, hat1⟩ := h a w hat
  exact k y hy fuel listed a w h1 h2 h3 h4 (at_sub hat1 he ho)

end Go.Eng
/- The proof engine: slices whose cells are owned. -/
namespace Go.Eng
open Go.RowKit

variable {E : Stc} {all rest : List Oper} {o : Oper} {s : List Fr} {env : List (Nat × SV)} {own own2 : List (Nat × SO)} {nx : List Nat}

theorem SVle.arr (k n : Nat) : SVle (.arr k n) (.sl k 0 n n) := fun _ _ _ h => .inl h

/-- A list that has nothing may be owned. -/
theorem at_nilS {m : Md} (t k : Nat) {sz : Nat} (ht : nth env t = .tl sz []) (kk : Sat E m s ((t, .sl k 0 0 0) :: env) ((k, .buf [] 0) :: own) nx)
    (hm : Nat.ble E.cx.m0 k = true := by rfl) (hE : freshE k env = true := by rfl) (hO : freshO k own = true := by rfl) : Sat E m s env own nx := by
  refine sat_mono (fun a w hat => ?_) kk
  obtain ⟨hdf, g, H, hdn⟩ := hat
  have hd2 := hdn.bind (k := k) (x := .pointer none) (so := .buf [] 0) (Nat.le_of_ble_eq_true hm) hE hO (.inr ⟨upd_same _ _ _, rfl⟩) (fun b hb => by cases hb)
  refine ⟨hdf, _, H, { hd2 with den := fun i => ?_ }⟩
  simp only [nth]
  cases hb : Nat.beq t i with
  | true =>
    rw [← beq_true hb]
    have := hdn.den t
    rw [ht] at this
    obtain ⟨_, ad, e⟩ := this
    exact .inr ⟨rfl, rfl, rfl, upd_same _ _ _, ad, e⟩
  | false => exact hd2.den i

/-- The same, in an own block. -/
theorem at_nilSI {m : Md} (c k i : Nat) {ty sz : Nat} {cs : List SV} (hc : ownq own c = some (.cells ty cs)) (hi : cs[i]? = some (.tl sz [])) (hso : setOwnK c (.cells ty (cs.set i (.sl k 0 0 0))) own some = some own2)
    (kk : Sat E m s env ((k, .buf [] 0) :: own2) nx) (hm : Nat.ble E.cx.m0 k = true := by rfl) (hE : freshE k env = true := by rfl) (hO : freshO k own = true := by rfl) (hne : Nat.beq k c = false := by rfl) (hcs : SV.noKs k cs = true := by rfl) : Sat E m s env own nx := by
  rw [setOwnK_eq] at hso
  simp only [Option.some.injEq] at hso
  subst hso
  have hkc : ¬ k = c := fun e => by rw [e, Nat.beq_refl] at hne; cases hne
  refine sat_mono (fun a w hat => ?_) kk
  obtain ⟨hdf, g, H, hdn⟩ := hat
  obtain ⟨b, vs, g1, g2, g3, g4, g5, g6⟩ := hdn.ok c _ hc
  obtain ⟨x, hxi, hxd⟩ := Dens.get g2 hi
  obtain ⟨_, ad, e⟩ := hxd
  have hd3 := hdn.bind (k := k) (x := .pointer none) (so := .buf [] 0) (Nat.le_of_ble_eq_true hm) hE hO (.inr ⟨upd_same _ _ _, rfl⟩) (fun b hb => by cases hb)
  have hp : Den (Eng.upd g k (.pointer none)) H (.sl k 0 0 0) x := .inr ⟨rfl, rfl, rfl, upd_same _ _ _, ad, e⟩
  have hiff : ∀ j, (ownq ((k, SO.buf [] 0) :: setOwn c (.cells ty (cs.set i (.sl k 0 0 0))) own) j).isSome = true → (ownq ((k, SO.buf [] 0) :: own) j).isSome = true := by
    intro j hi
    simp only [ownq] at hi ⊢
    cases hb : Nat.beq k j with
    | true => rfl
    | false =>
      rw [hb, cond_false] at hi
      rw [cond_false]
      rw [ownq_setOwn] at hi
      split at hi
      · rename_i e
        subst e
        rw [hc]; rfl
      · exact hi
  refine ⟨hdf, _, H, { hd3 with ok := fun j o' hj => ?_, inj := fun i j hi hj => hd3.inj i j (hiff i hi) (hiff j hj) }⟩
  simp only [ownq] at hj
  cases hb : Nat.beq k j with
  | true =>
    have hj' : ownq ((k, SO.buf [] 0) :: own) j = some o' := by simp only [ownq, hb, cond_true]; rw [hb, cond_true] at hj; exact hj
    exact hd3.ok j o' hj'
  | false =>
    rw [hb, cond_false, ownq_setOwn] at hj
    have hjk : j ≠ k := fun e => by rw [e, Nat.beq_refl] at hb; cases hb
    by_cases hjc : j = c
    · subst hjc
      rw [if_pos rfl, hc] at hj
      simp only [Option.map_some, Option.some.injEq] at hj
      subst hj
      exact ⟨b, vs, by rw [upd_ne _ _ _ j hjk]; exact g1, Dens.set hp _ _ i (Dens.upd (k := k) (fun j hj => upd_ne _ _ _ j hj) cs vs hcs g2) hxi, g3, g4, g5, g6⟩
    · rw [if_neg hjc] at hj
      exact hd3.ok j o' (by simp only [ownq, hb, cond_false]; exact hj)

/-- A place of an owned slice. -/
theorem does_indexS {P : Program} {T : Nat → TI} (hT : ∀ t, T t = tiOf P t) {o : Oper} {t sz k off m c : Nat} {x i : Operand} {kk : IntKind} {n : Int} (ho : o.op = .indexAddr t x i) (hx : ev env x = .sl k off m c) (hi : ev env i = .int kk n)
    (h0 : 0 ≤ n ∧ n < m) (hkT : lstT T t sz = true) : DoesV P o env own (.ptr k (off + n.toNat * sz)) := by
  obtain ⟨hk, hz, hk2, _⟩ := lstT_spec hT hkT
  obtain ⟨i1, h1⟩ := slice_ti hk
  obtain ⟨i2, d2, h2⟩ := ti_spec hk2
  refine does_val fun cx g H q a w hd => ?_
  have e1 := hd.ev x
  rw [hx] at e1
  rcases e1 with ⟨b, hg, e1⟩ | ⟨_, hm, _⟩
  · have e2 := hd.ev i
    rw [hi] at e2
    have e2 : a.eval i = .int kk n := e2
    refine ⟨.pointer (some ⟨b, off + n.toNat * sz, none⟩), ?_, b, hg, rfl⟩
    have : 0 ≤ n ∧ n < (m : Int) := h0
    simp [execOp, ho, e1, e2, Instr.indexAt, asIntOf, run_underlying h1.und, this, run_sizeOf' h2.info, ← h2.size, hz, Addr.add]
  · subst hm
    omega

theorem flatU_len {sz : Nat} {rows : List (List DV)} (h : ∀ r ∈ rows, r.length = sz) : (flatU rows).length = rows.length * sz := by
  unfold flatU
  rw [List.length_map]
  induction rows with
  | nil => simp
  | cons r l ih =>
    rw [List.flatten_cons, List.length_append, h r (by simp), ih fun q hq => h q (by simp [hq]), List.length_cons, Nat.add_mul]
    omega
theorem flatU_app (a b : List (List DV)) : flatU (a ++ b) = flatU a ++ flatU b := by simp [flatU]

theorem Dens.anys' {g : Nat → Value} {H : Hp} {n : Nat} {vs : List Value} (h : vs.length = n) : Dens g H (Eng.anys n) vs := by
  subst h
  exact Dens.anys vs

theorem zeroCells_one {z : Array Value} (hz : ∀ v ∈ z.toList, v.oneCell' = true) (m : Nat) : ∀ v ∈ (Builtin.zeroCells z m).toList, v.oneCell' = true := by
  intro v hv
  exact made_one hz m v hv

/-- An owned slice grows. -/
theorem at_appendS {T : Nat → TI} (k k' sz : Nat) {t n c r : Nat} {x y : Operand} {rows ys : List (List DV)} {cl : Call} (hT : ∀ t, T t = tiOf E.P t) (ho : o.op = .call cl) (hcl : cl.callee = .builtin .append) (ha : cl.args = #[x, y]) (hat : cl.argTypes = #[t, t])
    (hx : ev env x = .sl k 0 n c) (hy : lstv (ev env y) = some (sz, ys)) (hk : ownq own k = some (.buf rows r)) (hn : n = rows.length) (hr : ∀ q ∈ rows, q.length = sz) (hcs : n * sz + r = c * sz) (hnc : n ≤ c) (hy0 : 0 < ys.length) (hkT : lstT T t sz = true) (hl : ((n + ys.length : Nat) : Int) ≤ 9223372036854775807) (hb : (n + ys.length) * (T (T t).elem).bytes ≤ 140737488355328)
    (hless : lessK k own some = some own2)
    (kk : ∀ c' r', n + ys.length ≤ c' → (n + ys.length) * sz + r' = c' * sz → Sat E (.ops all rest) s (put o.dst (.sl k' 0 (n + ys.length) c') env) ((k', .buf (rows ++ ys) r') :: own2) nx)
    (hm : Nat.ble E.cx.m0 k' = true := by rfl) (hE : freshE k' env = true := by rfl) (hO : freshO k' own2 = true := by rfl) (hones : SV.ones (constsS (T (T t).elem).zero) = true := by rfl)
    (hg : guardK all o.guard env true false false = true := by rfl) (hd : dstLt o.dst E.n = true := by rfl) : Sat E (.ops all (o :: rest)) s env own nx := by
  intro a w hat0
  have hwant := wanted_of (E := E) (own := own) hg a w hat0
  rw [lessK_eq] at hless
  simp only [Option.some.injEq] at hless
  subst hless
  subst hn
  unfold wpList
  rw [if_pos hwant]
  refine .inl ?_
  obtain ⟨hdf, g, H, hdn⟩ := hat0
  obtain ⟨hk1, hz, hk2, hz2, hz0⟩ := lstT_spec hT hkT
  rw [hT (T t).elem, hT t] at hb hones
  obtain ⟨i1, h1⟩ := slice_ti hk1
  obtain ⟨i2, d2, h2⟩ := ti_spec hk2
  obtain ⟨z, hz3, hz4⟩ := zero_spec h2 hz2
  have hzs : z.cells.size = sz := by rw [← hz0, hz4, Array.length_toList]
  have hsz : sz = i2.size := by rw [← hz, h2.size]
  rw [h2.bytes] at hb
  have hrun : ∀ v w', (Builtin.append_ #[t, t] o.type #[a.eval x, a.eval y]).run E.P w = .ok v w' → (execOp a.eval o).run E.P w = .ok (.value v) w' := by
    intro v w' h
    simp only [execOp, ho, resolve, hcl, ha, hat]
    simp [invoke, builtin, h]
  obtain ⟨bd, c2, e2, hc2, hn2, hp2⟩ := lstv_den hy (hdn.ev y)
  cases hbd : bd with
  | none => rw [(hn2 hbd).1] at hy0; simp at hy0
  | some q =>
  subst hbd
  obtain ⟨hq1, hq2⟩ := hp2 q rfl
  obtain ⟨nv, hf2, hc3⟩ := hq2.flat
  have hnl := hf2.length
  have hq1 : q.spot = none := hq1.resolve_left fun e => by rw [e] at hy0; simp at hy0
  have hnews : ∀ (j : Nat) (v : Value), nv[j]? = some v → w.cell? (q.add j) = some v := by
    intro j v hj
    obtain ⟨b, off, spot⟩ := q
    simp only at hq1
    subst hq1
    rw [addr_add]
    exact hdn.hp _ _ _ (hc3 j v hj)
  have hdl : Dn E.cx g H env (rm1 k own) E.n a.tmps w := hdn.lessO (rm1_less k own)
  have hmul : (rows.length + ys.length) * sz = rows.length * sz + ys.length * sz := Nat.add_mul _ _ _
  -- a new block
  have fresh : ∀ (ov : List Value) (cap : Nat), Dens g H (flatU rows) ov → (∀ v ∈ ov, v.oneCell' = true) → rows.length + ys.length ≤ cap →
      (execOp a.eval o).run E.P w = .ok (.value (.slice (some ⟨w.heap.size, 0, none⟩) (rows.length + ys.length) cap)) (w.drew.alloc (.cells (ov.toArray ++ nv.toArray ++ Builtin.zeroCells z.cells (cap - (rows.length + ys.length))) (tiOf E.P t).elem)) →
      o.wp E.P a w (wpList E.P all.toArray (KK E s) rest) (KK E s) := by
    intro ov cap hod ho1 hcap hr'
    have hd1 := hdl.drew.grown (w' := w.drew.alloc (.cells (ov.toArray ++ nv.toArray ++ Builtin.zeroCells z.cells (cap - (rows.length + ys.length))) (tiOf E.P t).elem)) rfl rfl rfl (by simp) (fun b hb => heap_alloc_lt w.drew _ hb)
    have hzl : ((Builtin.zeroCells z.cells (cap - (rows.length + ys.length))).toList).length = (cap - (rows.length + ys.length)) * sz := by rw [Array.length_toList, size_zeroCells, hzs]
    have hone : ∀ v ∈ ov ++ nv ++ (Builtin.zeroCells z.cells (cap - (rows.length + ys.length))).toList, v.oneCell' = true := by
      intro v hv
      rcases List.mem_append.1 hv with hv | hv
      · rcases List.mem_append.1 hv with hv | hv
        · exact ho1 v hv
        · exact hf2.one v hv
      · have hz1 : ∀ v ∈ z.cells.toList, v.oneCell' = true := by
          rw [← hz4]
          exact (constsS_den g H _).oneCells hones
        exact zeroCells_one hz1 _ v hv
    have hden : Dens g H (bufC (rows ++ ys) ((cap - (rows.length + ys.length)) * sz)) (ov ++ nv ++ (Builtin.zeroCells z.cells (cap - (rows.length + ys.length))).toList) := by
      rw [bufC, flatU_app]
      exact Dens.append (Dens.append hod hf2.toFlat) (Dens.anys' hzl)
    have hd2 := hd1.bind (k := k') (x := .pointer (some ⟨w.heap.size, 0, none⟩)) (so := .buf (rows ++ ys) ((cap - (rows.length + ys.length)) * sz)) (Nat.le_of_ble_eq_true hm) hE hO (.inl ⟨(tiOf E.P t).elem, w.heap.size, ov ++ nv ++ (Builtin.zeroCells z.cells (cap - (rows.length + ys.length))).toList, upd_same _ _ _,
      Dens.plain g _ H _ _ _ hden, hone, by
        rw [show (w.drew.alloc (.cells (ov.toArray ++ nv.toArray ++ Builtin.zeroCells z.cells (cap - (rows.length + ys.length))) (tiOf E.P t).elem)).heap[w.heap.size]? = _ from heap_alloc_new w.drew _]
        congr 2
        apply Array.ext'
        simp, fun j => Hp.on_new hdl.hp j, .inl hdl.base.size⟩) (fun b hb j o' hj e => by
        simp only [blkOf, Option.some.injEq] at hb
        subst hb
        have := (hdl.ok j o' hj).blk_lt e
        omega)
    unfold Oper.wp
    rw [hr']
    refine kk cap _ hcap ?_ _ _ (At.put hdf hd2 (.inl ⟨w.heap.size, upd_same _ _ _, rfl⟩) fun d e => by rw [e] at hd; exact Nat.blt_eq.mp hd)
    rw [← Nat.add_mul, Nat.add_sub_cancel' hcap]
  have ex := hdn.ev x
  rw [hx] at ex
  rcases ex with ⟨b, hgk, ex⟩ | ⟨_, hn0, hc0, hgk, ad, ex⟩
  · -- cells of its own
    rcases hdn.ok k _ hk with ⟨ty, b', vs, e0, hv, hv1, hw, hH, hmine⟩ | ⟨e0, _⟩
    rotate_left
    · rw [e0] at hgk; cases hgk
    have hbb : b' = b := by rw [e0] at hgk; simpa using hgk
    subst hbb
    obtain ⟨v1, v2, rfl, hva, hvb⟩ := Dens.append_inv hv
    have hl1 : v1.length = rows.length * sz := by rw [hva.length, flatU_len hr]
    have hl2 : v2.length = r := by rw [hvb.length]; simp [anys]
    have hvl : (v1 ++ v2).length = c * sz := by rw [List.length_append, hl1, hl2, hcs]
    by_cases hroom : rows.length + ys.length ≤ c
    · have hfit : rows.length * sz + nv.length ≤ (v1 ++ v2).length := by
        rw [hnl, hvl, ← Nat.add_mul]
        exact Nat.mul_le_mul_right _ hroom
      have hr' := run_append_room_off (P := E.P) w t o.type _ i2 h1.und h2.info ty b' 0 rows.length c (v1 ++ v2).toArray hw q ys.length c2 nv (by rw [hnl, hsz]) hnews hf2.one hroom (by rw [← hsz]; simpa using hfit)
      rw [← hsz] at hr'
      obtain ⟨ty', hd1⟩ := hdn.openB hk hgk
      have hk' : ownq (setOwn k (.cells ty' (bufC rows r)) own) k = some (.cells ty' (bufC rows r)) := by rw [ownq_setOwn, if_pos rfl, hk]; rfl
      have hone : ∀ v ∈ splice nv (rows.length * sz) (v1 ++ v2), v.oneCell' = true := by
        intro v hv'
        unfold Eng.splice at hv'
        rcases List.mem_append.1 hv' with hv' | hv'
        · rcases List.mem_append.1 hv' with hv' | hv'
          · exact hv1 v (List.mem_of_mem_take hv')
          · exact hf2.one v hv'
        · exact hv1 v (List.mem_of_mem_drop hv')
      have hden : Dens g H (bufC (rows ++ ys) (c * sz - (rows.length + ys.length) * sz)) (splice nv (rows.length * sz) (v1 ++ v2)) := by
        unfold Eng.splice
        rw [bufC, flatU_app, ← hl1, List.take_left']
        · refine Dens.append (Dens.append hva hf2.toFlat) (Dens.anys' ?_)
          rw [List.length_drop, hvl, hl1, hnl, hmul]
        · rfl
      have hd2 := hd1.write (new := bufC (rows ++ ys) (c * sz - (rows.length + ys.length) * sz)) hk' hgk hden hone
      have hd3 := hd2.lessO (own2 := rm1 k own) (k := k) (fun j o' hj => by
        have := rm1_less k own j o' hj
        refine ⟨this.1, ?_⟩
        rw [ownq_setOwn, if_neg this.1, ownq_setOwn, if_neg this.1]
        exact this.2)
      have hd4 := hd3.bind (k := k') (x := .pointer (some ⟨b', 0, none⟩)) (so := .buf (rows ++ ys) (c * sz - (rows.length + ys.length) * sz)) (Nat.le_of_ble_eq_true hm) hE hO
        (.inl ⟨ty, b', splice nv (rows.length * sz) (v1 ++ v2), upd_same _ _ _, Dens.plain g _ H _ _ _ hden, hone, setRow_heap w b' _ _ ty (0, 0) hw, hH, hmine⟩) (fun b2 hb2 j o' hj e => by
          simp only [blkOf, Option.some.injEq] at hb2
          subst hb2
          have hl := rm1_less k own j o' hj
          exact hl.1 (hdn.inj j k (by rw [hl.2]; rfl) (by rw [hk]; rfl) b' e (by rw [hgk]; rfl)))
      unfold Oper.wp
      rw [hrun _ _ (by rw [ex, e2]; exact hr')]
      have e9 : (splice nv (0 + rows.length * sz) (v1 ++ v2).toArray.toList).toArray = (splice nv (rows.length * sz) (v1 ++ v2)).toArray := by rw [Nat.zero_add]
      rw [e9]
      have hle : (rows.length + ys.length) * sz ≤ c * sz := Nat.mul_le_mul_right _ hroom
      exact kk c _ hroom (by omega) _ _ (At.put hdf hd4 (.inl ⟨b', upd_same _ _ _, rfl⟩) fun d e => by rw [e] at hd; exact Nat.blt_eq.mp hd)
    · have holds : ∀ (j : Nat) (v : Value), v1[j]? = some v → w.cell? ((⟨b', 0, none⟩ : Addr).add j) = some v := by
        intro j v hj
        rw [addr_add, ok_cell hw, Nat.zero_add, List.getElem?_append_left (List.getElem?_eq_some_iff.1 hj).1]
        exact hj
      have hr' := run_append_grow (P := E.P) w t o.type _ i2 z h1.und h2.info hz3 ⟨b', 0, none⟩ rows.length c v1 (by rw [hl1, hsz]) holds q ys.length c2 nv (by rw [hnl, hsz]) hnews (by omega) hl (growslice_fits (by omega) hb)
      exact fresh v1 _ hva (fun v hv' => hv1 v (by simp [hv'])) (grownCap_ge _ _ _ _) (hrun _ _ (by rw [ex, e2]; exact hr'))
  · -- there was nothing
    subst hc0
    have hrows : rows = [] := List.eq_nil_of_length_eq_zero hn0
    subst hrows
    simp only [List.length_nil, Nat.zero_add] at hl hb
    cases ad with
    | none =>
      have hr' := run_append_nil (P := E.P) w t o.type _ i2 z h1.und h2.info hz3 q ys.length c2 nv (by rw [hnl, hsz]) hnews hy0 hl (by omega)
      exact fresh [] (grownCap w ys.length 0 (tiOf E.P t).elem) trivial (by simp) (by rw [List.length_nil, Nat.zero_add]; exact grownCap_ge _ _ _ _) (hrun _ _ (by rw [ex, e2, List.length_nil, Nat.zero_add]; simpa using hr'))
    | some p =>
      have hr' := run_append_grow (P := E.P) w t o.type _ i2 z h1.und h2.info hz3 p 0 0 [] (by simp) (by simp) q ys.length c2 nv (by rw [hnl, hsz]) hnews (by omega) (by simpa using hl) (growslice_fits (by omega) (by simpa using hb))
      exact fresh [] _ trivial (by simp) (grownCap_ge _ _ _ _) (hrun _ _ (by rw [ex, e2]; exact hr'))

/-- What was owned is let be read, and written no more: a slice of it, from the front. -/
theorem at_pubG {m : Md} (t k sz : Nat) {n c r : Nat} {rows : List (List DV)} (rows1 rows2 : List (List DV)) (sv : SV) (ht : nth env t = .sl k 0 n c) (hk : ownq own k = some (.buf rows r)) (hcs : rows = rows1 ++ rows2) (hn : n = rows1.length) (hnc : n ≤ c) (hr : ∀ r ∈ rows1, r.length = sz)
    (hsv : ∀ g H x a, DenD H (.lst sz rows1) x → x = .slice a n c → Den g H sv x) (hless : lessK k own some = some own2) (kk : Sat E m s ((t, sv) :: env) own2 nx) : Sat E m s env own nx := by
  refine sat_mono (fun a w h => ?_) kk
  obtain ⟨hdf, g, H, hd⟩ := h
  rw [lessK_eq] at hless
  simp only [Option.some.injEq] at hless
  subst hless
  have hl := rm1_less k own
  subst hcs; subst hn
  have ht' := hd.den t
  rw [ht] at ht'
  rcases ht' with ⟨b0, hg0, ex⟩ | ⟨_, hn0, hc0, hgk, ad, ex⟩
  · rcases hd.ok k _ hk with ⟨ty, b, vs, hg, hv, hone, hw, hH, hm⟩ | ⟨hg, _⟩
    rotate_left
    · rw [hg] at hg0; cases hg0
    have hbb : b0 = b := by rw [hg] at hg0; simpa using hg0.symm
    subst hbb
    rw [bufC, flatU_app, List.append_assoc] at hv
    obtain ⟨v1, v2, rfl, hv1, hv2⟩ := Dens.append_inv hv
    have hf := DenF.of_flatU hr hv1
    have hd2 := hd.fill (v1 ++ v2) hl (fun j o hj hne e => hne (hd.inj j k (by rw [hj]; rfl) (by rw [hk]; rfl) b0 e (by rw [hg]; rfl))) hm hw (fun j _ => hH j) (q := 0) (by simp)
    have e : (splice (v1 ++ v2) 0 (v1 ++ v2).toArray.toList).toArray = (v1 ++ v2).toArray := by simp [splice]
    rw [e, setRow_self w b0 (v1 ++ v2).toArray ty (0, 0) hw] at hd2
    have hle := Hp.add_le (H := H) (b := b0) (q := 0) (fun j _ => hH j) (v1 ++ v2)
    refine ⟨hdf, g, _, { hd2 with den := fun i => ?_ }⟩
    simp only [nth]
    cases hb : Nat.beq t i with
    | false => exact hd2.den i
    | true =>
      rw [← beq_true hb]
      refine hsv g _ _ _ ⟨some ⟨b0, 0, none⟩, c, ex, hnc, fun e => (by cases e), fun p hp => ?_⟩ ex
      simp only [Option.some.injEq] at hp
      subst hp
      refine ⟨.inr rfl, (hf.mono hle).rs fun j v hj => ?_⟩
      have := Hp.add_at H b0 0 (v1 ++ v2) (j := j) (v := v) (by rw [List.getElem?_append_left (List.getElem?_eq_some_iff.1 hj).1]; exact hj)
      simpa using this
  · have hd2 := hd.lessO hl
    refine ⟨hdf, g, H, { hd2 with den := fun i => ?_ }⟩
    simp only [nth]
    cases hb : Nat.beq t i with
    | false => exact hd2.den i
    | true =>
      rw [← beq_true hb]
      have hrows : rows1 = [] := List.eq_nil_of_length_eq_zero hn0
      subst hrows
      subst hc0
      exact hsv g H _ _ ⟨ad, 0, ex, Nat.le_refl _, fun _ => ⟨rfl, rfl⟩, fun p _ => ⟨.inl rfl, trivial⟩⟩ ex

theorem at_pubS {m : Md} (t k sz : Nat) {n c r : Nat} {rows : List (List DV)} (ht : nth env t = .sl k 0 n c) (hk : ownq own k = some (.buf rows r)) (hn : n = rows.length) (hnc : n ≤ c) (hr : ∀ r ∈ rows, r.length = sz)
    (hless : lessK k own some = some own2) (kk : Sat E m s ((t, .lst sz rows) :: env) own2 nx) : Sat E m s env own nx :=
  at_pubG t k sz rows [] (.lst sz rows) ht hk (by simp) hn hnc hr (fun _ _ _ _ h _ => h) hless kk
theorem at_pubT {m : Md} (t k sz : Nat) {n r : Nat} {rows : List (List DV)} (rows1 rows2 : List (List DV)) (ht : nth env t = .sl k 0 n n) (hk : ownq own k = some (.buf rows r)) (hcs : rows = rows1 ++ rows2) (hn : n = rows1.length) (hr : ∀ r ∈ rows1, r.length = sz)
    (hless : lessK k own some = some own2) (kk : Sat E m s ((t, .tl sz rows1) :: env) own2 nx) : Sat E m s env own nx :=
  at_pubG t k sz rows1 rows2 (.tl sz rows1) ht hk hcs hn (Nat.le_refl _) hr (fun _ _ _ a h e => ⟨h, a, by rw [e, hn]⟩) hless kk

end Go.Eng
/- The proof engine: calls that are handed own things, and hand back own things. -/
namespace Go.Eng

/-- Names by a list. -/
def rl (l : List Nat) : Nat → Nat := fun k => l.getD k 0

def updl (g : Nat → Value) : List (Nat × Value) → Nat → Value
  | [] => g
  | (n, v) :: r => upd (updl g r) n v
theorem updl_ne (g : Nat → Value) : ∀ (ps : List (Nat × Value)) (j : Nat), (∀ p ∈ ps, p.1 ≠ j) → updl g ps j = g j
  | [], _, _ => rfl
  | (n, v) :: r, j, h => by
    rw [updl, upd_ne _ _ _ _ (fun e => h (n, v) (by simp) e.symm), updl_ne g r j fun p hp => h p (by simp [hp])]
theorem updl_at (g : Nat → Value) : ∀ (ps : List (Nat × Value)) (i : Nat) (p : Nat × Value), ps[i]? = some p → (ps.map (·.1)).Nodup → updl g ps p.1 = p.2
  | [], _, _, h, _ => by simp at h
  | (n, v) :: r, 0, p, h, _ => by
    simp only [List.getElem?_cons_zero, Option.some.injEq] at h
    subst h
    rw [updl, upd_same]
  | (n, v) :: r, i + 1, p, h, hn => by
    simp only [List.getElem?_cons_succ] at h
    simp only [List.map_cons, List.nodup_cons] at hn
    rw [updl, upd_ne, updl_at g r i p h hn.2]
    intro e
    exact hn.1 (by rw [← e]; exact List.mem_map_of_mem (List.mem_of_getElem? h))

theorem Den.updl {g : Nat → Value} {H : Hp} {s : SV} {x : Value} : ∀ (ps : List (Nat × Value)), (∀ p ∈ ps, s.noK p.1 = true) → Den g H s x → Den (Eng.updl g ps) H s x
  | [], _, h => h
  | (n, v) :: r, hn, h => by
    have ih := Den.updl r (fun p hp => hn p (by simp [hp])) h
    exact Den.upd (k := n) (fun j hj => upd_ne _ _ _ j hj) s x (hn (n, v) (by simp)) ih
theorem OwnOk.updl {mine : Nat → Prop} {g : Nat → Value} {H : Hp} {w : World} {j : Nat} {o : SO} : ∀ (ps : List (Nat × Value)), (∀ p ∈ ps, j ≠ p.1 ∧ o.noK p.1) → OwnOk mine g H w j o → OwnOk mine (Eng.updl g ps) H w j o
  | [], _, h => h
  | (n, v) :: r, hn, h => (OwnOk.updl r (fun p hp => hn p (by simp [hp])) h).upd (hn (n, v) (by simp))

def mapO (r : Nat → Nat) : List (Nat × SO) → List (Nat × SO)
  | [] => []
  | (k, o) :: l => (r k, renO r o) :: mapO r l

def postLt (M : Nat) : List (Nat × SO) → Bool
  | [] => true
  | (k, .cells _ cs) :: l => bif Nat.blt k M then (bif SV.lts M cs then postLt M l else false) else false
  | (k, .buf _ _) :: l => bif Nat.blt k M then postLt M l else false
  | (k, .tok _) :: l => bif Nat.blt k M then postLt M l else false
  | (k, .obj _) :: l => bif Nat.blt k M then postLt M l else false

def SO.ltM (M : Nat) : SO → Prop
  | .cells _ cs => SV.lts M cs = true
  | _ => True

theorem postLt_spec {M : Nat} : ∀ {l : List (Nat × SO)}, postLt M l = true → ∀ p ∈ l, p.1 < M ∧ p.2.ltM M
  | [], _, p, hp => by cases hp
  | (k, .cells t cs) :: l, h, p, hp => by
    simp only [postLt] at h
    cases h1 : Nat.blt k M with
    | false => simp [h1] at h
    | true =>
      cases h2 : SV.lts M cs with
      | false => simp [h1, h2] at h
      | true =>
        simp only [h1, h2, cond_true] at h
        rcases List.mem_cons.1 hp with rfl | hp
        · exact ⟨Nat.blt_eq.mp h1, h2⟩
        · exact postLt_spec h p hp
  | (k, .buf c nn) :: l, h, p, hp => by
    simp only [postLt] at h
    cases h1 : Nat.blt k M with
    | false => simp [h1] at h
    | true =>
      simp only [h1, cond_true] at h
      rcases List.mem_cons.1 hp with rfl | hp
      · exact ⟨Nat.blt_eq.mp h1, trivial⟩
      · exact postLt_spec h p hp
  | (k, .tok c) :: l, h, p, hp => by
    simp only [postLt] at h
    cases h1 : Nat.blt k M with
    | false => simp [h1] at h
    | true =>
      simp only [h1, cond_true] at h
      rcases List.mem_cons.1 hp with rfl | hp
      · exact ⟨Nat.blt_eq.mp h1, trivial⟩
      · exact postLt_spec h p hp
  | (k, .obj f) :: l, h, p, hp => by
    simp only [postLt] at h
    cases h1 : Nat.blt k M with
    | false => simp [h1] at h
    | true =>
      simp only [h1, cond_true] at h
      rcases List.mem_cons.1 hp with rfl | hp
      · exact ⟨Nat.blt_eq.mp h1, trivial⟩
      · exact postLt_spec h p hp

theorem ownq_mem' {l : List (Nat × SO)} {k : Nat} {o : SO} (h : ownq l k = some o) : (k, o) ∈ l := by
  induction l with
  | nil => simp [ownq] at h
  | cons y l ih =>
    obtain ⟨i, x⟩ := y
    simp only [ownq] at h
    cases hb : Nat.beq i k with
    | true =>
      simp only [hb, cond_true, Option.some.injEq] at h
      rw [← beq_true hb, h]
      simp
    | false =>
      simp only [hb, cond_false] at h
      exact List.mem_cons_of_mem _ (ih h)

theorem ownq_mapO {r : Nat → Nat} {M : Nat} (hr : ∀ i j, i < M → j < M → r i = r j → i = j) : ∀ {l : List (Nat × SO)}, (∀ p ∈ l, p.1 < M) → ∀ {j : Nat} {o' : SO}, ownq (mapO r l) j = some o' → ∃ k o, ownq l k = some o ∧ k < M ∧ r k = j ∧ o' = renO r o
  | [], _, j, o', h => by simp [mapO, ownq] at h
  | (k, o) :: l, hl, j, o', h => by
    simp only [mapO, ownq] at h
    cases hb : Nat.beq (r k) j with
    | true =>
      simp only [hb, cond_true, Option.some.injEq] at h
      exact ⟨k, o, by simp [ownq], hl (k, o) (by simp), beq_true hb, h.symm⟩
    | false =>
      simp only [hb, cond_false] at h
      obtain ⟨k', o2, h1, h2, h3, h4⟩ := ownq_mapO hr (fun p hp => hl p (by simp [hp])) h
      refine ⟨k', o2, ?_, h2, h3, h4⟩
      have : Nat.beq k k' = false := by
        cases hk : Nat.beq k k' with
        | false => rfl
        | true =>
          rw [beq_true hk, h3] at hb
          simp at hb
      simp only [ownq, this, cond_false]
      exact h1
theorem ownq_mapO_none {r : Nat → Nat} : ∀ {l : List (Nat × SO)} {j : Nat}, ownq (mapO r l) j = none → ∀ k o, ownq l k = some o → r k ≠ j
  | [], _, _, k, o, h => by simp [ownq] at h
  | (i, x) :: l, j, hn, k, o, h => by
    simp only [mapO, ownq] at hn
    cases hb : Nat.beq (r i) j with
    | true => rw [hb] at hn; cases hn
    | false =>
      rw [hb, cond_false] at hn
      simp only [ownq] at h
      cases hk : Nat.beq i k with
      | true =>
        rw [← beq_true hk]
        exact beq_false hb
      | false =>
        rw [hk, cond_false] at h
        exact ownq_mapO_none hn k o h

/-- Names left out. -/
def outK {α : Type} : List Nat → List (Nat × SO) → (List (Nat × SO) → α) → α
  | [], own, c => c own
  | k :: l, own, c => lessK k own fun r => outK l r c
def outO : List Nat → List (Nat × SO) → List (Nat × SO)
  | [], own => own
  | k :: l, own => outO l (rm1 k own)
theorem outK_eq {α : Type} : ∀ (l : List Nat) (own : List (Nat × SO)) (c : List (Nat × SO) → α), outK l own c = c (outO l own)
  | [], _, _ => rfl
  | k :: l, own, c => by simp only [outK, outO, lessK_eq, outK_eq l]
theorem outO_spec : ∀ (l : List Nat) (own : List (Nat × SO)) (j : Nat) (o : SO), ownq (outO l own) j = some o → j ∉ l ∧ ownq own j = some o
  | [], _, _, _, h => ⟨by simp, h⟩
  | k :: l, own, j, o, h => by
    have h1 := outO_spec l (rm1 k own) j o h
    have h2 := rm1_less k own j o h1.2
    exact ⟨by simp [h1.1, h2.1], h2.2⟩

def nodB : List Nat → Bool
  | [] => true
  | x :: l => bif hasB x l then false else nodB l
  where
  hasB (x : Nat) : List Nat → Bool
  | [] => false
  | y :: l => bif Nat.beq x y then true else hasB x l
theorem hasB_spec {x : Nat} : ∀ {l : List Nat}, nodB.hasB x l = false → x ∉ l
  | [], _, h => by cases h
  | y :: l, h, hm => by
    simp only [nodB.hasB] at h
    cases hb : Nat.beq x y with
    | true => simp [hb] at h
    | false =>
      simp only [hb, cond_false] at h
      rcases List.mem_cons.1 hm with e | hm
      · exact beq_false hb e
      · exact hasB_spec h hm
theorem nodB_spec : ∀ {l : List Nat}, nodB l = true → l.Nodup
  | [], _ => List.nodup_nil
  | x :: l, h => by
    simp only [nodB] at h
    cases hb : nodB.hasB x l with
    | true => simp [hb] at h
    | false =>
      simp only [hb, cond_false] at h
      exact List.nodup_cons.2 ⟨hasB_spec hb, nodB_spec h⟩

def freshL (m0 : Nat) (env : List (Nat × SV)) (own : List (Nat × SO)) : List Nat → Bool
  | [] => true
  | k :: l => bif Nat.ble m0 k then (bif freshE k env then (bif freshO k own then freshL m0 env own l else false) else false) else false
theorem freshL_spec {m0 : Nat} {env : List (Nat × SV)} {own : List (Nat × SO)} : ∀ {l : List Nat}, freshL m0 env own l = true → ∀ k ∈ l, m0 ≤ k ∧ freshE k env = true ∧ freshO k own = true
  | [], _, k, hk => by cases hk
  | x :: l, h, k, hk => by
    simp only [freshL] at h
    cases h1 : Nat.ble m0 x with
    | false => simp [h1] at h
    | true =>
      cases h2 : freshE x env with
      | false => simp [h1, h2] at h
      | true =>
        cases h3 : freshO x own with
        | false => simp [h1, h2, h3] at h
        | true =>
          simp only [h1, h2, h3, cond_true] at h
          rcases List.mem_cons.1 hk with rfl | hk
          · exact ⟨Nat.le_of_ble_eq_true h1, h2, h3⟩
          · exact freshL_spec h k hk

def keysLt (pre : List (Nat × SO)) : Nat → Bool
  | 0 => true
  | n + 1 => (ownq pre n).isSome && keysLt pre n
theorem keysLt_spec {pre : List (Nat × SO)} : ∀ {m : Nat}, keysLt pre m = true → ∀ k, k < m → (ownq pre k).isSome = true
  | 0, _, k, hk => absurd hk (Nat.not_lt_zero k)
  | n + 1, h, k, hk => by
    simp only [keysLt, Bool.and_eq_true] at h
    rcases Nat.lt_or_ge k n with h' | h'
    · exact keysLt_spec h.2 k h'
    · rw [show k = n by omega]; exact h.1
def preLt (m : Nat) : List (Nat × SO) → Bool
  | [] => true
  | (k, _) :: l => bif Nat.blt k m then preLt m l else false
theorem preLt_spec {m : Nat} : ∀ {pre : List (Nat × SO)}, preLt m pre = true → ∀ k, (ownq pre k).isSome = true → k < m
  | [], _, k, hk => by simp [ownq] at hk
  | (i, x) :: l, h, k, hk => by
    simp only [preLt] at h
    cases h1 : Nat.blt i m with
    | false => simp [h1] at h
    | true =>
      simp only [h1, cond_true] at h
      simp only [ownq] at hk
      cases hb : Nat.beq i k with
      | true => rw [← beq_true hb]; exact Nat.blt_eq.mp h1
      | false =>
        rw [hb, cond_false] at hk
        exact preLt_spec h k hk

variable {E : Stc} {all rest : List Oper} {o : Oper} {s : List Fr} {env : List (Nat × SV)} {own own2 : List (Nat × SO)} {nx : List Nat}

/-- A call: l are the caller's names of the callee's names, first those that it is handed, then those of what it hands back. -/
theorem at_callG (l : List Nat) {m f : Nat} {pre : List (Nat × SO)} {args : List SV} {Post : SV → List (Nat × SO) → Prop} (hC : Contract E.P f m pre args Post) (hc : callK o.op env (fun f l => some (f, l)) none = some (f, rens (rl l) args))
    (hpre : pres (rl l) own pre) (ho : outK (l.take m) own some = some own2)
    (k : ∀ sv post, Post sv post → sv.lt l.length = true ∧ postLt l.length post = true ∧ Sat E (.ops all rest) s (put o.dst (ren (rl l) sv) env) (mapO (rl l) post ++ own2) nx)
    (hml : Nat.ble m l.length = true := by rfl) (hnd : nodB l = true := by rfl) (hfr : freshL E.cx.m0 env own2 (l.drop m) = true := by rfl) (hk1 : keysLt pre m = true := by rfl) (hk2 : preLt m pre = true := by rfl)
    (hg : guardK all o.guard env true false false = true := by rfl) (hd : dstLt o.dst E.n = true := by rfl) : Sat E (.ops all (o :: rest)) s env own nx := by
  intro a w hat
  have hwant := wanted_of (E := E) (own := own) hg a w hat
  rw [outK_eq] at ho
  simp only [Option.some.injEq] at ho
  subst ho
  have hml := Nat.le_of_ble_eq_true hml
  have hnd := nodB_spec hnd
  have hfr := freshL_spec hfr
  have hk1 := keysLt_spec hk1
  have hk2 := preLt_spec hk2
  have hrl : ∀ i (hi : i < l.length), rl l i = l[i] := fun i hi => by simp [rl, List.getD_eq_getElem?_getD, hi]
  have hinjr : ∀ i j, i < l.length → j < l.length → rl l i = rl l j → i = j := fun i j hi hj e => by
    rw [hrl i hi, hrl j hj] at e
    exact (List.getElem_inj hnd).1 e
  unfold wpList
  rw [if_pos hwant]
  refine .inl ?_
  obtain ⟨hdf, g, H, hdn⟩ := hat
  obtain ⟨vs, hv, hr⟩ := run_call (P := E.P) hdn hC.1 hc
  have hv' : Dens (fun k => g (rl l k)) H args vs := Dens.unren (g' := g) (r := rl l) (fun _ => rfl) args vs hv
  have hok : ∀ k o, ownq pre k = some o → OwnOk (fun _ => True) (fun k => g (rl l k)) H w k o := by
    intro k o hk
    have := hdn.ok (rl l k) _ (pres_spec hpre k o hk)
    cases o with
    | cells ty cs =>
      obtain ⟨b, ws, e, h1, h2, h3, h4, h5⟩ := this
      exact ⟨b, ws, e, Dens.unren (g' := g) (r := rl l) (fun _ => rfl) cs ws h1, h2, h3, h4, trivial⟩
    | tok sz =>
      obtain ⟨ad, q, c, e, h1, hle, h2⟩ := this
      refine ⟨ad, q, c, e, h1, hle, fun p hpa hlt => ?_⟩
      obtain ⟨h3, _, h5⟩ := h2 p hpa hlt
      exact ⟨h3, trivial, h5⟩
    | obj q =>
      obtain ⟨r, o, e, h1, h2, h3, _⟩ := this
      exact ⟨r, o, e, h1, h2, h3, trivial⟩
    | buf rw nn =>
      rcases this with ⟨ty, b, ws, e, h1, h2, h3, h4, h5⟩ | ⟨e, h1⟩
      · exact .inl ⟨ty, b, ws, e, Dens.plain g _ H rw nn ws h1, h2, h3, h4, trivial⟩
      · exact .inr ⟨e, h1⟩
  have hsome : ∀ i, (ownq pre i).isSome = true → (ownq own (rl l i)).isSome = true := fun i hi => by
    cases ho : ownq pre i with
    | none => rw [ho] at hi; cases hi
    | some x => rw [pres_spec hpre i x ho]; rfl
  have hinj' : InjOn (fun k => g (rl l k)) pre := by
    intro i j hi hj b hbi hbj
    have h1 := hk2 i hi
    have h2 := hk2 j hj
    exact hinjr i j (by omega) (by omega) (hdn.inj (rl l i) (rl l j) (hsome i hi) (hsome j hj) b hbi hbj)
  have hcall := hC.2 (fun k => g (rl l k)) H w vs hdn.hp hok hinj' hv'
  unfold Oper.wp
  rw [hr]
  refine hcall.mono fun e w' he => ?_
  cases e with
  | panicked c => exact he.elim
  | outgrown => exact he.elim
  | returned x =>
    obtain ⟨g', H', sv, post, hP, hx, hok', hinjp, hon, hb⟩ := he
    obtain ⟨hlt, hpl, hS⟩ := k sv post hP
    have hpl := postLt_spec hpl
    have hout := outO_spec (l.take m) own
    have htake : ∀ i, i < m → rl l i ∈ l.take m := fun i hi => by
      rw [hrl i (by omega)]
      exact List.mem_take_iff_getElem.2 ⟨i, by omega, rfl⟩
    obtain ⟨hd2, hother⟩ := hdn.left (r := rl l) (own2 := outO (l.take m) own) hpre hb hon (fun j o hj => ⟨(hout j o hj).2, fun i hi e => (hout j o hj).1 (by rw [e]; exact htake i (hk2 i hi))⟩)
    -- the new names
    let ps : List (Nat × Value) := (List.range' m (l.length - m)).map fun i => (rl l i, g' i)
    have hps : ∀ p ∈ ps, ∃ i, m ≤ i ∧ i < l.length ∧ p = (rl l i, g' i) := fun p hp => by
      obtain ⟨i, hi, rfl⟩ := List.mem_map.1 hp
      rw [List.mem_range'_1] at hi
      exact ⟨i, hi.1, by omega, rfl⟩
    have hpd : ∀ p ∈ ps, p.1 ∈ l.drop m := fun p hp => by
      obtain ⟨i, h1, h2, rfl⟩ := hps p hp
      rw [hrl i h2]
      exact List.mem_drop_iff_getElem.2 ⟨i - m, by omega, by simp [show m + (i - m) = i by omega]⟩
    have hpsn : (ps.map (·.1)).Nodup := by
      rw [List.map_map]
      have key : ∀ q : List Nat, q.Nodup → (∀ i ∈ q, i < l.length) → (q.map ((fun p : Nat × Value => p.1) ∘ fun i => (rl l i, g' i))).Nodup := by
        intro q
        induction q with
        | nil => intro _ _; exact List.nodup_nil
        | cons i q ih =>
          intro h1 h2
          rw [List.nodup_cons] at h1
          rw [List.map_cons, List.nodup_cons]
          refine ⟨fun hm => ?_, ih h1.2 fun i hi => h2 i (by simp [hi])⟩
          obtain ⟨j, hj, e⟩ := List.mem_map.1 hm
          have := hinjr j i (h2 j (by simp [hj])) (h2 i (by simp)) e
          exact h1.1 (this ▸ hj)
      exact key _ (List.nodup_range' ..) fun i hi => by rw [List.mem_range'_1] at hi; omega
    have hgk : ∀ i, i < l.length → updl g ps (rl l i) = g' i := fun i hi => by
      rcases Nat.lt_or_ge i m with h | h
      · rw [updl_ne, hb.fix i h]
        intro p hp e
        obtain ⟨j, h1, h2, rfl⟩ := hps p hp
        have := hinjr j i h2 hi e
        omega
      · have hidx : ps[i - m]? = some (rl l i, g' i) := by
          simp only [ps, List.getElem?_map]
          rw [List.getElem?_range' (by omega)]
          simp [show m + (i - m) = i by omega]
        exact updl_at g ps (i - m) (rl l i, g' i) hidx hpsn
    have hold : ∀ j, (∀ q ∈ l.drop m, q ≠ j) → updl g ps j = g j := fun j hj => updl_ne g ps j fun p hp e => hj p.1 (hpd p hp) e
    have hren : ∀ i, i < l.length → updl g ps (rl l i) = g' i := hgk
    have hfix : ∀ j, j < E.cx.m0 → updl g ps j = g j := fun j hj => hold j fun q hq e => by have := (hfr q hq).1; omega
    have hpost : ∀ k o, ownq post k = some o → OwnOk E.cx.mine (updl g ps) H' w' (rl l k) (renO (rl l) o) := by
      intro k o hk
      have hkl := hpl (k, o) (ownq_mem' hk)
      have h0 := hok' k o hk
      have hge := hgk k hkl.1
      cases o with
      | cells ty cs =>
        obtain ⟨b, ws, e, q1, q2, q3, q4, q5⟩ := h0
        exact ⟨b, ws, by rw [hge]; exact e, Dens.ren (g := g') (g' := updl g ps) (r := rl l) (m := l.length) hren cs ws hkl.2 q1, q2, q3, q4, (hother b q5).1⟩
      | tok sz =>
        obtain ⟨ad, q, c, e, q1, hle, q2⟩ := h0
        refine ⟨ad, q, c, by rw [hge]; exact e, q1, hle, fun p hpa hlt => ?_⟩
        obtain ⟨q3, q4, q5⟩ := q2 p hpa hlt
        exact ⟨q3, (hother _ q4).1, q5⟩
      | obj q =>
        obtain ⟨r, o, e, q1, q2, q3, q4⟩ := h0
        exact ⟨r, o, by rw [hge]; exact e, q1, q2, q3, (hother r q4).1⟩
      | buf rw nn =>
        rcases h0 with ⟨ty, b, ws, e, q1, q2, q3, q4, q5⟩ | ⟨e, q1⟩
        · exact .inl ⟨ty, b, ws, by rw [hge]; exact e, Dens.plain g' _ H' rw nn ws q1, q2, q3, q4, (hother b q5).1⟩
        · exact .inr ⟨by rw [hge]; exact e, q1⟩
    have hown2 : ∀ j o, ownq (outO (l.take m) own) j = some o → (∀ q ∈ l.drop m, j ≠ q ∧ o.noK q) := fun j o hj q hq => freshO_own (hfr q hq).2.2 hj
    have hd3 : Dn E.cx (updl g ps) H' env (mapO (rl l) post ++ outO (l.take m) own) E.n a.tmps w' := by
      refine { size := hd2.size, den := fun t => Den.updl ps (fun p hp => freshE_nth t (hfr p.1 (hpd p hp)).2.1) (hd2.den t), ok := fun j o hj => ?_, inj := fun i j hi hj b hbi hbj => ?_, hp := hd2.hp, base := { hd2.base with fix := fun j hj => by rw [hfix j hj]; exact hd2.base.fix j hj } }
      · rw [ownq_append] at hj
        cases hq : ownq (mapO (rl l) post) j with
        | some o' =>
          rw [hq] at hj
          simp only [Option.some_or, Option.some.injEq] at hj
          subst hj
          obtain ⟨k, o2, q1, _, rfl, rfl⟩ := ownq_mapO hinjr (fun p hp => (hpl p hp).1) hq
          exact hpost k o2 q1
        | none =>
          rw [hq, Option.none_or] at hj
          exact (hd2.ok j o hj).updl ps fun p hp => hown2 j o hj p.1 (hpd p hp)
      · have cls : ∀ j b, (ownq (mapO (rl l) post ++ outO (l.take m) own) j).isSome = true → blkOf (updl g ps j) = some b →
            (∃ k o, ownq post k = some o ∧ rl l k = j ∧ blkOf (g' k) = some b ∧ (w.heap.size ≤ b ∨ preX (fun k => g (rl l k)) pre b)) ∨ (∃ o, ownq (outO (l.take m) own) j = some o ∧ blkOf (g j) = some b) := by
          intro j b hj hbj
          rw [ownq_append] at hj
          cases hq : ownq (mapO (rl l) post) j with
          | some o' =>
            obtain ⟨k, o2, q1, q2, rfl, rfl⟩ := ownq_mapO hinjr (fun p hp => (hpl p hp).1) hq
            rw [hgk k q2] at hbj
            exact .inl ⟨k, o2, q1, rfl, hbj, (hok' k o2 q1).blk_mine hbj⟩
          | none =>
            rw [hq, Option.none_or] at hj
            cases ho : ownq (outO (l.take m) own) j with
            | none => rw [ho] at hj; cases hj
            | some o => exact .inr ⟨o, rfl, by rw [← hold j fun q hq e => (hown2 j o ho q hq).1 e.symm]; exact hbj⟩
        rcases cls i b hi hbi with ⟨k, o1, p1, rfl, p2, p3⟩ | ⟨o1, p1, p2⟩ <;> rcases cls j b hj hbj with ⟨k', o2, q1, rfl, q2, q3⟩ | ⟨o2, q1, q2⟩
        · rw [hinjp k k' (by rw [p1]; rfl) (by rw [q1]; rfl) b p2 q2]
        · exact absurd q2 ((hother b p3).2 j o2 q1)
        · exact absurd p2 ((hother b q3).2 i o1 p1)
        · exact hd2.inj i j (by rw [p1]; rfl) (by rw [q1]; rfl) b p2 q2
    exact hS _ _ (At.put hdf hd3 (Den.ren (g := g') (g' := updl g ps) (r := rl l) (m := l.length) hren sv x hlt hx) fun d e => by rw [e] at hd; exact Nat.blt_eq.mp hd)

/-- The same, where the answer is told. -/
theorem at_callF (l : List Nat) {m f : Nat} {pre q q' : List (Nat × SO)} {args : List SV} {sv : SV} (hC : Contract E.P f m pre args fun s post => s = sv ∧ post = q) (hc : callK o.op env (fun f l => some (f, l)) none = some (f, rens (rl l) args))
    (hpre : pres (rl l) own pre) (ho : outK (l.take m) own some = some own2) (hq : mapO (rl l) q = q') (hpl : postLt l.length q = true)
    (k : Sat E (.ops all rest) s (put o.dst (ren (rl l) sv) env) (q' ++ own2) nx) (hlt : sv.lt l.length = true := by rfl)
    (hml : Nat.ble m l.length = true := by rfl) (hnd : nodB l = true := by rfl) (hfr : freshL E.cx.m0 env own2 (l.drop m) = true := by rfl) (hk1 : keysLt pre m = true := by rfl) (hk2 : preLt m pre = true := by rfl)
    (hg : guardK all o.guard env true false false = true := by rfl) (hd : dstLt o.dst E.n = true := by rfl) : Sat E (.ops all (o :: rest)) s env own nx :=
  at_callG l hC hc hpre ho (fun sv' post hP => by
    obtain ⟨rfl, rfl⟩ := hP
    rw [hq]
    exact ⟨hlt, hpl, k⟩) hml hnd hfr hk1 hk2 hg hd

theorem flat_drop {sz : Nat} : ∀ {rows : List (List DV)} (i : Nat) (q : List SV), (∀ r ∈ rows, r.length = sz) → i ≤ rows.length → (flatU rows ++ q).drop (i * sz) = flatU (rows.drop i) ++ q
  | rows, 0, q, _, _ => by simp
  | [], i + 1, q, _, h => by simp at h
  | r :: rows, i + 1, q, hr, h => by
    have h1 : r.length = sz := hr r (by simp)
    have ih := flat_drop (rows := rows) i q (fun x hx => hr x (by simp [hx])) (by simpa using h)
    have e : flatU (r :: rows) = r.map up ++ flatU rows := by simp [flatU]
    rw [e, Nat.add_mul, Nat.one_mul, List.append_assoc, show i * sz + sz = (r.map up).length + i * sz by rw [List.length_map, h1]; omega, List.drop_append, Nat.add_sub_cancel_left, ih, List.drop_eq_nil_of_le (by omega)]
    rfl
theorem flat_get {sz i : Nat} {rows : List (List DV)} {r : List DV} (q : List SV) (hr : ∀ r ∈ rows, r.length = sz) (hi : rows[i]? = some r) : ((flatU rows ++ q).drop (i * sz)).take sz = r.map up := by
  have hlt := (List.getElem?_eq_some_iff.1 hi).1
  rw [flat_drop i q hr (by omega), List.drop_eq_getElem_cons hlt]
  have e : rows[i] = r := (List.getElem?_eq_some_iff.1 hi).2
  rw [e]
  have h1 : (r.map up).length = sz := by rw [List.length_map]; exact hr r (List.mem_of_getElem? hi)
  have e2 : flatU (r :: rows.drop (i + 1)) = r.map up ++ flatU (rows.drop (i + 1)) := by simp [flatU]
  rw [e2, List.append_assoc, ← h1, List.take_left']
  rfl

/-- A row of an owned slice is read. -/
theorem does_loadB {P : Program} {T : Nat → TI} (hT : ∀ t, T t = tiOf P t) {o : Oper} {t k off sz i : Nat} {x : Operand} {rows : List (List DV)} {n : Nat} {row : List DV} (ho : o.op = .load t x) (hx : ev env x = .ptr k off) (hk : ownq own k = some (.buf rows n)) (hs : (T t).kd = .struct) (hsz : (T t).size = sz) (hoff : off = i * sz) (hr : ∀ r ∈ rows, r.length = sz) (hi : rows[i]? = some row) :
    DoesV P o env own (.agg (row.map up)) := by
  subst hoff
  have h1 := flat_get (anys n) hr hi
  have h2 : sz ≤ ((bufC rows n).drop (i * sz)).length := by
    have := congrArg List.length h1
    rw [List.length_take, List.length_map, hr row (List.mem_of_getElem? hi)] at this
    rw [bufC]
    omega
  rw [hT t] at hs hsz
  rw [← hsz] at h1 h2
  have e : row.map up = ((bufC rows n).drop (i * (tiOf P t).size)).take (tiOf P t).size := h1.symm
  rw [e]
  refine does_load_buf (by rw [hx]) hk fun own' ty hk' => ?_
  rw [← hsz] at hx
  exact does_load_own ho hx hk' hs h2
/-- A plain cell of one. -/
theorem does_loadB1 {P : Program} {T : Nat → TI} (hT : ∀ t, T t = tiOf P t) {o : Oper} {t k off sz i j : Nat} {x : Operand} {rows : List (List DV)} {n : Nat} {row : List DV} {d : DV} (ho : o.op = .load t x) (hx : ev env x = .ptr k off) (hk : ownq own k = some (.buf rows n)) (hs : (T t).kd ≠ .struct) (hs' : (T t).kd ≠ .other) (hoff : off = i * sz + j) (hr : ∀ r ∈ rows, r.length = sz) (hi : rows[i]? = some row) (hj : row[j]? = some d) :
    DoesV P o env own (up d) := by
  subst hoff
  have h1 := flat_get (anys n) hr hi
  have hjl := (List.getElem?_eq_some_iff.1 hj).1
  have h2 : (bufC rows n)[i * sz + j]? = some (up d) := by
    have h3 := congrArg (fun l => l[j]?) h1
    simp only [List.getElem?_map, hj, Option.map_some] at h3
    rw [List.getElem?_take, if_pos (by rw [hr row (List.mem_of_getElem? hi)] at hjl; exact hjl), List.getElem?_drop] at h3
    exact h3
  rw [hT t] at hs hs'
  exact does_load_buf hx hk fun own' ty hk' => does_load_own1 ho hx hk' hs hs' h2

theorem flatU_cons (r : List DV) (l : List (List DV)) : flatU (r :: l) = r.map up ++ flatU l := by simp [flatU]
theorem splice_row {sz i n : Nat} {rows : List (List DV)} {r : List DV} (hr : ∀ r ∈ rows, r.length = sz) (hi : i < rows.length) (h : r.length = sz) : splice (r.map up) (i * sz) (bufC rows n) = bufC (rows.set i r) n := by
  have e1 : rows = rows.take i ++ rows[i] :: rows.drop (i + 1) := by rw [← List.drop_eq_getElem_cons hi, List.take_append_drop]
  have h1 : (flatU (rows.take i)).length = i * sz := by
    rw [flatU_len fun q hq => hr q (List.mem_of_mem_take hq), List.length_take, Nat.min_eq_left (by omega)]
  have h2 : (rows[i].map up).length = sz := by rw [List.length_map]; exact hr _ (List.getElem_mem hi)
  have e2 : bufC rows n = flatU (rows.take i) ++ (rows[i].map up ++ (flatU (rows.drop (i + 1)) ++ anys n)) := by
    have e4 := congrArg flatU e1
    rw [flatU_app] at e4
    have e5 := flatU_cons rows[i] (rows.drop (i + 1))
    rw [bufC, e4, e5, List.append_assoc, List.append_assoc]
  have e3 : bufC (rows.set i r) n = flatU (rows.take i) ++ (r.map up ++ (flatU (rows.drop (i + 1)) ++ anys n)) := by
    rw [bufC, List.set_eq_take_append_cons_drop, if_pos hi, flatU_app, List.append_assoc]
    have e5 := flatU_cons r (rows.drop (i + 1))
    rw [e5, List.append_assoc]
  rw [e2, e3]
  unfold splice
  rw [← h1, List.take_left, List.length_map, h, ← h2, List.append_assoc]
  congr 1
  congr 1
  rw [List.drop_append, Nat.add_sub_cancel_left, List.drop_eq_nil_of_le (by omega), List.nil_append, List.drop_left]

/-- A row of an owned slice is written. -/
theorem doesWS_row {P : Program} {T : Nat → TI} (hT : ∀ t, T t = tiOf P t) {o : Oper} {t k off sz i n : Nat} {x y : Operand} {rows : List (List DV)} (row : List DV) (ho : o.op = .store t x y) (hx : ev env x = .ptr k off) (hy : cellsOf (ev env y) = some (row.map up)) (hs : (T t).kd ≠ .other) (hsz : (T t).size = sz) (hoff : off = i * sz)
    (hr : ∀ r ∈ rows, r.length = sz) (hi : i < rows.length) (hl : row.length = sz) : DoesWS P o env own k (.buf rows n) (.buf (rows.set i row) n) := by
  subst hoff
  rw [hT t] at hs hsz
  refine doesWS_buf hx fun ty => ?_
  rw [← splice_row hr hi hl]
  refine doesW_store ho hx hy hs (by rw [List.length_map, hl, hsz]) ?_
  rw [List.length_map, hl, bufC, List.length_append, flatU_len hr]
  have : (i + 1) * sz ≤ rows.length * sz := Nat.mul_le_mul_right _ hi
  rw [Nat.add_mul, Nat.one_mul] at this
  omega

/-- The same, in the text's order. -/
theorem at_storeB {T : Nat → TI} (hT : ∀ t, T t = tiOf E.P t) {t k off sz i n : Nat} {x y : Operand} {rows : List (List DV)} (row : List DV) (ho : o.op = .store t x y) (hdst : o.dst = none) (hx : ev env x = .ptr k off) (hk : ownq own k = some (.buf rows n)) (hy : cellsOf (ev env y) = some (row.map up)) (hs : (T t).kd ≠ .other) (hsz : (T t).size = sz) (hoff : off = i * sz)
    (hr : ∀ r ∈ rows, r.length = sz) (hi : i < rows.length) (hl : row.length = sz) (hso : setOwnK k (.buf (rows.set i row) n) own some = some own2) (kk : Sat E (.ops all rest) s env own2 nx)
    (hg : guardK all o.guard env true false false = true := by rfl) : Sat E (.ops all (o :: rest)) s env own nx := by
  intro a w hat
  have hwant := wanted_of (E := E) (own := own) hg a w hat
  rw [setOwnK_eq] at hso
  simp only [Option.some.injEq] at hso
  subst hso
  unfold wpList
  rw [if_pos hwant]
  refine .inl ?_
  obtain ⟨hdf, g, H, hdn⟩ := hat
  obtain ⟨w', h1, h2⟩ := doesWS_row (own := own) hT row ho hx hy hs hsz hoff hr hi hl E.cx g H E.n own env a w hdn hdn hk
  unfold Oper.wp
  rw [h1]
  show wpList E.P all.toArray (KK E s) rest (a.put o.dst undef) w'
  rw [hdst]
  exact kk _ _ ⟨hdf, g, H, h2⟩
end Go.Eng
/- The proof engine: owned slices are cut, and cleared. -/
namespace Go.Eng
open Go.RowKit

variable {E : Stc} {all rest : List Oper} {o : Oper} {s : List Fr} {env : List (Nat × SV)} {own own2 : List (Nat × SO)} {nx : List Nat} {P : Program}

theorem does_sliceS_l {T : Nat → TI} (hT : ∀ t, T t = tiOf P t) {o : Oper} {t sz k off m c : Nat} {x lo : Operand} {kk : IntKind} {n : Int} (ho : o.op = .slice t x (some lo) none none) (hx : ev env x = .sl k off m c) (hh : ev env lo = .int kk n)
    (h0 : 0 ≤ n ∧ n < m) (hmc : m ≤ c) (hkT : lstT T t sz = true) : DoesV P o env own (.sl k (off + n.toNat * sz) (m - n.toNat) (c - n.toNat)) := by
  obtain ⟨hk, hz, hk2, _⟩ := lstT_spec hT hkT
  obtain ⟨i1, h1⟩ := slice_ti hk
  obtain ⟨i2, d2, h2⟩ := ti_spec hk2
  have he := prog_elem h1.und
  refine does_val fun cx g H q a w hd => ?_
  have e1 := hd.ev x
  rw [hx] at e1
  have e2 := hd.ev lo
  rw [hh] at e2
  have e2 : a.eval lo = .int kk n := e2
  have hu : P.underlying t = some (.slice (P.elem t)) := by rw [he]; exact h1.und
  have hs := h2.size
  rw [hz] at hs
  rcases e1 with ⟨b, hg, e1⟩ | ⟨_, hm, _⟩
  · refine ⟨sliced (some ⟨b, off, none⟩) n.toNat m c sz, ?_, .inl ⟨b, hg, ?_⟩⟩
    · simp [execOp, ho, e1, e2, run_sliceAt_slice w t _ _ _ _ hu, run_slice_l w t (some ⟨b, off, none⟩) m c hu kk n h0.1 (by omega), he, run_sizeOf' h2.info, ← hs]
    · simp [sliced, show c ≠ n.toNat by omega, Addr.add]
  · omega

theorem does_sliceS_h {T : Nat → TI} (hT : ∀ t, T t = tiOf P t) {o : Oper} {t sz k off m c : Nat} {x hi : Operand} {kk : IntKind} {n : Int} (ho : o.op = .slice t x none (some hi) none) (hx : ev env x = .sl k off m c) (hh : ev env hi = .int kk n)
    (h0 : 0 ≤ n ∧ n ≤ c) (hkT : lstT T t sz = true) : DoesV P o env own (.sl k off n.toNat c) := by
  obtain ⟨hk, hz, hk2, _⟩ := lstT_spec hT hkT
  obtain ⟨i1, h1⟩ := slice_ti hk
  obtain ⟨i2, d2, h2⟩ := ti_spec hk2
  have he := prog_elem h1.und
  refine does_val fun cx g H q a w hd => ?_
  have e1 := hd.ev x
  rw [hx] at e1
  have e2 := hd.ev hi
  rw [hh] at e2
  have e2 : a.eval hi = .int kk n := e2
  have hu : P.underlying t = some (.slice (P.elem t)) := by rw [he]; exact h1.und
  have hs := h2.size
  rw [hz] at hs
  rcases e1 with ⟨b, hg, e1⟩ | ⟨h3, hm, hc, hg, ad, e1⟩
  · refine ⟨sliced (some ⟨b, off, none⟩) 0 n.toNat c sz, ?_, .inl ⟨b, hg, ?_⟩⟩
    · simp [execOp, ho, e1, e2, run_sliceAt_slice w t _ _ _ _ hu, run_slice_h w t (some ⟨b, off, none⟩) m c hu kk n h0.1 (by omega), he, run_sizeOf' h2.info, ← hs]
    · simp [sliced, Addr.add]
  · subst hm hc
    refine ⟨sliced ad 0 n.toNat 0 sz, ?_, .inr ⟨h3, by omega, rfl, hg, ad, ?_⟩⟩
    · simp [execOp, ho, e1, e2, run_sliceAt_slice w t _ _ _ _ hu, run_slice_h w t ad 0 0 hu kk n h0.1 (by omega), he, run_sizeOf' h2.info, ← hs]
    · simp [sliced]
      omega

theorem does_sliceS_hm {T : Nat → TI} (hT : ∀ t, T t = tiOf P t) {o : Oper} {t sz k off m c : Nat} {x hi mx : Operand} {kk k2 : IntKind} {n : Int} (ho : o.op = .slice t x none (some hi) (some mx)) (hx : ev env x = .sl k off m c) (hh : ev env hi = .int kk n) (hm : ev env mx = .int k2 n)
    (h0 : 0 ≤ n ∧ n ≤ c) (hkT : lstT T t sz = true) : DoesV P o env own (.sl k off n.toNat n.toNat) := by
  obtain ⟨hk, hz, hk2, _⟩ := lstT_spec hT hkT
  obtain ⟨i1, h1⟩ := slice_ti hk
  obtain ⟨i2, d2, h2⟩ := ti_spec hk2
  have he := prog_elem h1.und
  refine does_val fun cx g H q a w hd => ?_
  have e1 := hd.ev x
  rw [hx] at e1
  have e2 := hd.ev hi
  rw [hh] at e2
  have e2 : a.eval hi = .int kk n := e2
  have e3 := hd.ev mx
  rw [hm] at e3
  have e3 : a.eval mx = .int k2 n := e3
  have hu : P.underlying t = some (.slice (P.elem t)) := by rw [he]; exact h1.und
  have hs := h2.size
  rw [hz] at hs
  rcases e1 with ⟨b, hg, e1⟩ | ⟨h3, hm, hc, hg, ad, e1⟩
  · refine ⟨sliced (some ⟨b, off, none⟩) 0 n.toNat n.toNat sz, ?_, .inl ⟨b, hg, ?_⟩⟩
    · simp [execOp, ho, e1, e2, e3, run_sliceAt_slice w t _ _ _ _ hu, run_slice_hm w t (some ⟨b, off, none⟩) m c hu kk k2 n n h0.1 (Int.le_refl _) (by omega), he, run_sizeOf' h2.info, ← hs]
    · simp [sliced, Addr.add]
  · subst hm hc
    refine ⟨sliced ad 0 n.toNat n.toNat sz, ?_, .inr ⟨h3, by omega, by omega, hg, ad, ?_⟩⟩
    · simp [execOp, ho, e1, e2, e3, run_sliceAt_slice w t _ _ _ _ hu, run_slice_hm w t ad 0 0 hu kk k2 n n h0.1 (Int.le_refl _) (by omega), he, run_sizeOf' h2.info, ← hs]
    · simp [sliced]
      omega

/-- The rest of an owned slice is cleared. -/
theorem at_clearS {T : Nat → TI} {t k off m c sz r : Nat} {x : Operand} {rows : List (List DV)} (rows1 rows2 : List (List DV)) {cl : Call} (hT : ∀ t, T t = tiOf E.P t) (ho : o.op = .call cl) (hcl : cl.callee = .builtin .clear) (ha : cl.args = #[x]) (hat : cl.argTypes = #[t])
    (hx : ev env x = .sl k off m c) (hk : ownq own k = some (.buf rows r)) (hrows : rows = rows1 ++ rows2) (hr : ∀ q ∈ rows, q.length = sz) (hoff : off = rows1.length * sz) (hm : m = rows2.length) (h0 : 0 < m) (hso : setOwnK k (.buf rows1 (m * sz + r)) own some = some own2)
    (kk : Sat E (.ops all rest) s (put o.dst (.tup []) env) own2 nx)
    (hkT : lstT T t sz = true := by rfl) (hones : SV.ones (constsS (T (T t).elem).zero) = true := by rfl)
    (hg : guardK all o.guard env true false false = true := by rfl) (hd : dstLt o.dst E.n = true := by rfl) : Sat E (.ops all (o :: rest)) s env own nx := by
  subst hrows hoff hm
  rw [setOwnK_eq] at hso
  simp only [Option.some.injEq] at hso
  subst hso
  intro a w hat0
  have hwant := wanted_of (E := E) (own := own) hg a w hat0
  unfold wpList
  rw [if_pos hwant]
  refine .inl ?_
  obtain ⟨hdf, g, H, hdn⟩ := hat0
  obtain ⟨hk1, hz, hk2, hz2, hz0⟩ := lstT_spec hT hkT
  rw [hT (T t).elem, hT t] at hones
  obtain ⟨i1, h1⟩ := slice_ti hk1
  obtain ⟨i2, d2, h2⟩ := ti_spec hk2
  obtain ⟨z, hz3, hz4⟩ := zero_spec h2 hz2
  have hzs : z.cells.size = sz := by rw [← hz0, hz4, Array.length_toList]
  have ex := hdn.ev x
  rw [hx] at ex
  rcases ex with ⟨b, hgk, ex⟩ | ⟨_, hn0, _⟩
  rotate_left
  · omega
  rcases hdn.ok k _ hk with ⟨ty, b', vs, e0, hv, hv1, hw, hH, hmine⟩ | ⟨e0, _⟩
  rotate_left
  · rw [e0] at hgk; cases hgk
  have hbb : b' = b := by rw [e0] at hgk; simpa using hgk
  subst hbb
  have hv0 : Dens g H (flatU rows1 ++ (flatU rows2 ++ anys r)) vs := by rw [bufC, flatU_app, List.append_assoc] at hv; exact hv
  obtain ⟨v1, v2, rfl, hva, hvb⟩ := Dens.append_inv hv0
  obtain ⟨v3, v4, rfl, hvc, hvd⟩ := Dens.append_inv hvb
  have hl1 : v1.length = rows1.length * sz := by rw [hva.length, flatU_len fun q hq => hr q (by simp [hq])]
  have hl3 : v3.length = rows2.length * sz := by rw [hvc.length, flatU_len fun q hq => hr q (by simp [hq])]
  have hl4 : v4.length = r := by rw [hvd.length]; simp [anys]
  have hz1 : ∀ v ∈ z.cells.toList, v.oneCell' = true := by
    rw [← hz4]
    exact (constsS_den g H _).oneCells hones
  have hone := zeroCells_one hz1 rows2.length
  have hzl : ((Builtin.zeroCells z.cells rows2.length).toList).length = rows2.length * sz := by rw [Array.length_toList, size_zeroCells, hzs]
  generalize hzv : (Builtin.zeroCells z.cells rows2.length).toList = zv at hone hzl
  have hst := run_storeCells_at E.P b' v1.length ty zv 0 (v1 ++ (v3 ++ v4)).toArray w hw (by simp [hzl, hl3]) hone
  have hsp : ((v1 ++ (v3 ++ v4)).toArray.toList.take (v1.length + 0) ++ zv ++ (v1 ++ (v3 ++ v4)).toArray.toList.drop (v1.length + 0 + zv.length)).toArray = (v1 ++ zv ++ v4).toArray := by
    congr 1
    simp only [Nat.add_zero]
    rw [List.take_left, List.drop_append, Nat.add_sub_cancel_left, List.drop_eq_nil_of_le (by omega), List.nil_append, List.drop_append, hzl, hl3, Nat.sub_self, List.drop_eq_nil_of_le (by omega)]
    rfl
  rw [hsp, hl1] at hst
  obtain ⟨ty', hd1⟩ := hdn.openB hk e0
  have hk' : ownq (setOwn k (.cells ty' (bufC (rows1 ++ rows2) r)) own) k = some (.cells ty' (bufC (rows1 ++ rows2) r)) := by rw [ownq_setOwn, if_pos rfl, hk]; rfl
  have hden : Dens g H (bufC rows1 (rows2.length * sz + r)) (v1 ++ zv ++ v4) := by
    rw [bufC, List.append_assoc]
    exact Dens.append hva (Dens.anys' (by rw [List.length_append, hzl, hl4]))
  have hone2 : ∀ v ∈ v1 ++ zv ++ v4, v.oneCell' = true := by
    intro v hv'
    rcases List.mem_append.1 hv' with hv' | hv'
    · rcases List.mem_append.1 hv' with hv' | hv'
      · exact hv1 v (by simp [hv'])
      · exact hone v hv'
    · exact hv1 v (by simp [hv'])
  have hd2 := hd1.write (new := bufC rows1 (rows2.length * sz + r)) hk' e0 hden hone2
  have hd3 := hd2.closeB (k := k) (ty := ty') (rw' := rows1) (nn := rows2.length * sz + r) (by rw [ownq_setOwn, if_pos rfl, hk']; rfl)
  rw [setOwn_setOwn, setOwn_setOwn] at hd3
  have hrun : (execOp a.eval o).run E.P w = .ok (.value (.tuple #[])) (w.setRow b' (v1 ++ zv ++ v4).toArray) := by
    have : (Builtin.clear_ #[t] o.type #[a.eval x]).run E.P w = .ok (.tuple #[]) (w.setRow b' (v1 ++ zv ++ v4).toArray) := by
      rw [ex]
      obtain ⟨q, hq⟩ : ∃ q, rows2.length = q + 1 := ⟨rows2.length - 1, by omega⟩
      rw [hq] at hzv ⊢
      unfold Builtin.clear_
      simp [run_underlying h1.und, zeroValue, typeInfo, h2.info, hz3, hzv, hst]
    simp only [execOp, ho, resolve, hcl, ha, hat]
    simp [invoke, builtin, this]
  unfold Oper.wp
  rw [hrun]
  exact kk _ _ (At.put hdf hd3 (show Den g H (.tup []) (.tuple #[]) from ⟨[], rfl, trivial⟩) fun d e => by rw [e] at hd; exact Nat.blt_eq.mp hd)
end Go.Eng
namespace Go.Proofs.Ytmnmhehddbemkaa
open Go Go.Eng
set_option maxRecDepth 100000

def cpt {α : Type} (e : α → α → Bool) : α → List α → List α
  | _, [] => []
  | p, x :: l => if e x p then cpt e x l else x :: cpt e x l
def cmpF {α : Type} (e : α → α → Bool) : List α → List α
  | [] => []
  | x :: l => x :: cpt e x l
theorem cpt_snoc {α : Type} (e : α → α → Bool) (x : α) : ∀ (l : List α) (p v : α), (p :: l).getLast? = some v → cpt e p (l ++ [x]) = cpt e p l ++ if e x v then [] else [x]
  | [], p, v, h => by
    simp only [List.getLast?_singleton, Option.some.injEq] at h
    subst h
    simp only [List.nil_append, cpt]
  | y :: l, p, v, h => by
    rw [List.getLast?_cons_cons] at h
    have ih := cpt_snoc e x l y v h
    simp only [List.cons_append, cpt, ih]
    split <;> rfl
theorem cmp_step {α : Type} (e : α → α → Bool) {l : List α} {i : Nat} {u v : α} (hi : 1 ≤ i) (hu : l[i]? = some u) (hv : l[i - 1]? = some v) : cmpF e (l.take (i + 1)) = cmpF e (l.take i) ++ if e u v then [] else [u] := by
  rw [List.take_add_one, hu]
  match l, i, hi with
  | [], _, _ => simp at hu
  | x :: l, i + 1, _ =>
    simp only [List.take_succ_cons, Option.toList_some, List.cons_append, cmpF]
    rw [cpt_snoc e u (l.take i) x v]
    have h2 : i < (x :: l).length := by have := (List.getElem?_eq_some_iff.1 hu).1; omega
    rw [show x :: l.take i = (x :: l).take (i + 1) from rfl, List.getLast?_eq_getElem?, List.length_take, Nat.min_eq_left (by omega), List.getElem?_take, if_pos (by omega)]
    exact hv
theorem cmp_one {α : Type} (e : α → α → Bool) (l : List α) : cmpF e (l.take 1) = l.take 1 := by
  cases l <;> rfl
theorem cpt_len {α : Type} (e : α → α → Bool) : ∀ (l : List α) (p : α), (cpt e p l).length ≤ l.length
  | [], _ => by simp [cpt]
  | x :: l, p => by
    have := cpt_len e l x
    rw [cpt]
    split <;> simp <;> omega
theorem cmp_len {α : Type} (e : α → α → Bool) (l : List α) : (cmpF e l).length ≤ l.length := by
  cases l with
  | nil => simp [cmpF]
  | cons x l => simp [cmpF, cpt_len]

/-- What stands in the cells while the later ones are drawn forward. -/
structure Cin {α : Type} (e : α → α → Bool) (l : List α) (m k : Nat) (B : List α) : Prop where
  len : B.length = l.length
  k1 : 1 ≤ k
  km : k < m
  ml : m ≤ l.length
  lo : B.take k = cmpF e (l.take m)
  hi : B.drop (m - 1) = l.drop (m - 1)
theorem Cin.at {α : Type} {e : α → α → Bool} {l : List α} {m k : Nat} {B : List α} (h : Cin e l m k B) {i : Nat} (hi : m - 1 ≤ i) : B[i]? = l[i]? := by
  have := congrArg (fun q => q[i - (m - 1)]?) h.hi
  simp only [List.getElem?_drop] at this
  rw [show m - 1 + (i - (m - 1)) = i by omega] at this
  exact this
theorem Cin.start {α : Type} {e : α → α → Bool} {l : List α} {i : Nat} {u v : α} (hi : 1 ≤ i) (hil : i < l.length) (hu : l[i]? = some u) (hv : l[i - 1]? = some v) (he : e u v = true) (hc : cmpF e (l.take i) = l.take i) : Cin e l (i + 1) i l :=
  ⟨rfl, hi, by omega, by omega, by rw [cmp_step e hi hu hv, he, hc]; simp, rfl⟩
theorem Cin.skip {α : Type} {e : α → α → Bool} {l : List α} {m k : Nat} {B : List α} {u v : α} (h : Cin e l m k B) (hm : m < l.length) (hu : l[m]? = some u) (hv : l[m - 1]? = some v) (he : e u v = true) : Cin e l (m + 1) k B :=
  ⟨h.len, h.k1, by have := h.km; omega, hm, by have := h.km; rw [cmp_step e (by omega) hu hv, he, h.lo]; simp, by
    apply List.ext_getElem?
    intro j
    rw [List.getElem?_drop, List.getElem?_drop]
    exact h.at (by omega)⟩
theorem Cin.keep {α : Type} {e : α → α → Bool} {l : List α} {m k : Nat} {B : List α} {u v : α} (h : Cin e l m k B) (hm : m < l.length) (hu : l[m]? = some u) (hv : l[m - 1]? = some v) (he : e u v = false) : Cin e l (m + 1) (k + 1) (B.set k u) := by
  have h1 := h.km
  have h2 := h.len
  refine ⟨by simp [h2], by have := h.k1; omega, by omega, hm, ?_, ?_⟩
  · rw [cmp_step e (by have := h.k1; omega) hu hv, he, ← h.lo, List.take_add_one, List.take_set_of_le (by omega), List.getElem?_set_self (by omega)]
    simp
  · apply List.ext_getElem?
    intro j
    rw [List.getElem?_drop, List.getElem?_drop, List.getElem?_set_ne (by omega)]
    exact h.at (by omega)
theorem Cin.done {α : Type} {e : α → α → Bool} {l : List α} {k : Nat} {B : List α} (h : Cin e l l.length k B) : B.take k = cmpF e l ∧ k = (cmpF e l).length := by
  have e1 := h.lo
  rw [List.take_length] at e1
  refine ⟨e1, ?_⟩
  rw [← e1, List.length_take, Nat.min_eq_left]
  have := h.km
  have := h.len
  omega

abbrev slO (l : List Tm) (r : Nat) : List (Nat × SO) := [(0, .buf (rowsT l) r)]
theorem rowsT_set (B : List Tm) (k : Nat) (u : Tm) : (rowsT B).set k (tr u) = rowsT (B.set k u) := by
  rw [rowsT_map, rowsT_map, List.map_set]; cases u; rfl
theorem rowsT_at {l : List Tm} {i : Nat} {u : Tm} (h : l[i]? = some u) : (rowsT l)[i]? = some (tr u) := by
  rw [rowsT_map, List.getElem?_map, h]; cases u; rfl

theorem cmpact_fn (l : List Tm) (c r : Nat) (hl : l.length ≤ 1000000) (hc : l.length ≤ c) (hsm : ∀ t ∈ l, Sm t) :
    Contract Try.prog 83 1 (slO l r) [.sl 0 0 l.length c, .clo 45 []] fun s post => s = .sl 0 0 (cmpF same l).length c ∧ post = slO (cmpF same l) ((l.length - (cmpF same l).length) * 4 + r) := by
  refine contract_of ty_ok [1, 2, 3, 4, 5, 6, 7] Try.func83 rfl (by decide) Try.ntmps83 rfl fun z => ?_
  refine run 400 rfl ?_
  refine at_ifd rfl (fun g => ?_) (fun g => ?_)
  · have e : cmpF same l = l := by
      match l, g with
      | [], _ => rfl
      | [x], _ => rfl
      | _ :: _ :: l, g => simp at g; omega
    refine run 400 rfl ?_
    exact at_ret rfl rfl (slO l r) ⟨by rw [e], by rw [e, Nat.sub_self, Nat.zero_mul, Nat.zero_add]⟩ ⟨rfl, trivial⟩
  refine run 400 rfl ?_
  refine at_loop (fun i : Nat => 1 ≤ i ∧ i ≤ l.length ∧ cmpF same (l.take i) = l.take i) (fun i => [(0, .sl 0 0 l.length c), (1, .clo 45 []), (5, I i)]) (fun _ => slO l r) (fun i => l.length - i) [1, 2, 3, 4, 5, 6, 7]
    1 ⟨by omega, by omega, cmp_one _ _⟩ ⟨SVle.refl _, SVle.refl _, SVle.refl _, trivial⟩ ⟨rfl, trivial⟩ ?_
  rintro i ⟨a1, a2, a3⟩
  refine run 400 rfl ?_
  refine at_ifd rfl (fun g => ?_) (fun g => ?_)
  rotate_left
  · have e : i = l.length := by omega
    subst e
    rw [List.take_length] at a3
    refine run 400 rfl ?_
    exact at_ret rfl rfl (slO l r) ⟨by rw [a3], by rw [a3, Nat.sub_self, Nat.zero_mul, Nat.zero_add]⟩ ⟨rfl, trivial⟩
  have hlt : i < l.length := by omega
  obtain ⟨u, hu⟩ : ∃ u, l[i]? = some u := ⟨_, List.getElem?_eq_getElem hlt⟩
  obtain ⟨v, hv⟩ : ∃ v, l[i - 1]? = some v := ⟨_, List.getElem?_eq_getElem (by omega)⟩
  have hsu := hsm u (List.mem_of_getElem? hu)
  have h63 : ((i : Int) - 1).toNat = i - 1 := by omega
  refine run 400 rfl ?_
  refine at_drawn 11 rfl rfl [(3, .val (.ptr 0 (0 + (i : Int).toNat * 4))), (4, .val u.sv), (8, .val (.ptr 0 (0 + ((i : Int) - 1).toNat * 4))), (9, .val v.sv), (10, .sv (.bl (same u v)))] [1, 2, 3] rfl
    ⟨tsame_fn u v hsu, does_loadB (sz := 4) (i := i - 1) ty_ok rfl rfl rfl rfl rfl (by omega) rowsT_sz (rowsT_at hv), does_indexS ty_ok rfl rfl rfl (by omega) rfl, by constructor <;> omega, does_loadB (sz := 4) (i := i) ty_ok rfl rfl rfl rfl rfl (by omega) rowsT_sz (rowsT_at hu), does_indexS ty_ok rfl rfl rfl (by omega) rfl⟩ ?_
  refine run 400 rfl ?_
  refine at_if rfl (fun q => ?_) (fun q => ?_)
  rotate_left
  · have q : same u v = false := by simpa using q
    refine run 400 rfl ?_
    exact at_again (i + 1) ⟨by omega, by omega, by rw [cmp_step same a1 hu hv, q, a3, List.take_add_one, hu]; rfl⟩ (by omega) ⟨SVle.refl _, SVle.refl _, SVle.of_eq (by show I ((i : Int) + 1) = I ((i + 1 : Nat) : Int); rw [Int.natCast_add]; rfl), trivial⟩ ⟨rfl, trivial⟩
  have q : same u v = true := by simpa using q
  refine run 400 rfl ?_
  refine at_val (.sl 0 (0 + (i : Int).toNat * 4) (l.length - (i : Int).toNat) (c - (i : Int).toNat)) (does_sliceS_l ty_ok rfl rfl rfl (by omega) hc rfl) ?_
  refine run 400 rfl ?_
  have hst := Cin.start a1 hlt hu hv q a3
  clear hsu hu hv q
  refine at_loop (fun p : Nat × Nat × List Tm => 1 ≤ p.1 ∧ Cin same l (i + p.1) p.2.1 p.2.2) (fun p => [(0, .sl 0 0 l.length c), (1, .clo 45 []), (5, I p.2.1), (6, .sl 0 (0 + (i : Int).toNat * 4) (l.length - (i : Int).toNat) (c - (i : Int).toNat)), (7, I p.1)]) (fun p => slO p.2.2 r) (fun p => l.length - p.1) [1, 2, 3, 4, 5, 6, 7]
    (1, i, l) ⟨Nat.le_refl _, hst⟩ ⟨SVle.refl _, SVle.refl _, SVle.refl _, SVle.refl _, SVle.refl _, trivial⟩ ⟨rfl, trivial⟩ ?_
  rintro ⟨j, k, B⟩ ⟨b1, b2⟩
  dsimp only at b1 b2
  have c1 := b2.k1
  have c2 := b2.km
  have c3 := b2.ml
  have c4 := b2.len
  refine run 400 rfl ?_
  refine at_ifd rfl (fun g2 => ?_) (fun g2 => ?_)
  rotate_left
  · have e : i + j = l.length := by simp at g2; omega
    rw [e] at b2
    obtain ⟨d1, d2⟩ := b2.done
    refine run 400 rfl ?_
    refine at_val (.sl 0 (0 + (k : Int).toNat * 4) (l.length - (k : Int).toNat) (c - (k : Int).toNat)) (does_sliceS_l ty_ok rfl rfl rfl (by omega) hc rfl) ?_
    refine at_clearS (rowsT (B.take k)) (rowsT (B.drop k)) ty_ok rfl rfl rfl rfl rfl rfl (by rw [← rowsT_app, List.take_append_drop]) rowsT_sz (by rw [rowsT_len, List.length_take]; omega) (by rw [rowsT_len, List.length_drop]; omega) (by omega) rfl ?_
    refine run 400 rfl ?_
    refine at_val (.sl 0 0 (k : Int).toNat c) (does_sliceS_h (sz := 4) ty_ok rfl rfl rfl (by omega) rfl) ?_
    refine run 400 rfl ?_
    exact at_ret rfl rfl (slO (cmpF same l) ((l.length - (cmpF same l).length) * 4 + r)) ⟨by show SV.sl _ _ _ _ = _; rw [← d2]; rfl, rfl⟩ ⟨by rw [← d2, ← d1]; rfl, trivial⟩
  have hlt2 : i + j < l.length := by simp at g2; omega
  obtain ⟨u, hu⟩ : ∃ u, l[i + j]? = some u := ⟨_, List.getElem?_eq_getElem hlt2⟩
  obtain ⟨v, hv⟩ : ∃ v, l[i + j - 1]? = some v := ⟨_, List.getElem?_eq_getElem (by omega)⟩
  have hsu := hsm u (List.mem_of_getElem? hu)
  have hBu : B[i + j]? = some u := by rw [b2.at (by omega)]; exact hu
  have hBv : B[i + j - 1]? = some v := by rw [b2.at (by omega)]; exact hv
  refine run 400 rfl ?_
  refine at_drawn 11 rfl rfl [(3, .val (.ptr 0 (0 + (i : Int).toNat * 4 + (j : Int).toNat * 4))), (4, .val u.sv), (8, .val (.ptr 0 (0 + (i : Int).toNat * 4 + ((j : Int) - 1).toNat * 4))), (9, .val v.sv), (10, .sv (.bl (same u v)))] [1, 2, 3] rfl
    ⟨tsame_fn u v hsu, does_loadB (sz := 4) (i := i + j - 1) ty_ok rfl rfl rfl rfl rfl (by omega) rowsT_sz (rowsT_at hBv), does_indexS ty_ok rfl rfl rfl (by omega) rfl, by constructor <;> omega, does_loadB (sz := 4) (i := i + j) ty_ok rfl rfl rfl rfl rfl (by omega) rowsT_sz (rowsT_at hBu), does_indexS ty_ok rfl rfl rfl (by omega) rfl⟩ ?_
  refine run 400 rfl ?_
  refine at_if rfl (fun q => ?_) (fun q => ?_)
  rotate_left
  · have q : same u v = true := by simpa using q
    refine run 400 rfl ?_
    exact at_again (j + 1, k, B) ⟨by dsimp only; omega, b2.skip hlt2 hu hv q⟩ (by dsimp only; omega) ⟨SVle.refl _, SVle.refl _, SVle.refl _, SVle.refl _, SVle.of_eq (by show I ((j : Int) + 1) = I ((j + 1 : Nat) : Int); rw [Int.natCast_add]; rfl), trivial⟩ ⟨rfl, trivial⟩
  have q : same u v = false := by simpa using q
  refine run 400 rfl ?_
  refine at_val (.ptr 0 (0 + (i : Int).toNat * 4 + (j : Int).toNat * 4)) (does_indexS ty_ok rfl rfl rfl (by omega) rfl) ?_
  refine at_val u.sv (does_loadB (sz := 4) (i := i + j) ty_ok rfl rfl rfl rfl rfl (by omega) rowsT_sz (rowsT_at hBu)) ?_
  refine at_val (.ptr 0 (0 + (k : Int).toNat * 4)) (does_indexS ty_ok rfl rfl rfl (by omega) rfl) ?_
  refine at_storeB (sz := 4) (i := k) ty_ok (tr u) rfl rfl rfl rfl rfl (fun e => by cases e) rfl (by omega) rowsT_sz (by show k < (rowsT B).length; rw [rowsT_len]; omega) rfl rfl ?_
  refine run 400 rfl ?_
  exact at_again (j + 1, k + 1, B.set k u) ⟨by dsimp only; omega, b2.keep hlt2 hu hv q⟩ (by dsimp only; omega) ⟨SVle.refl _, SVle.refl _, SVle.of_eq (by show I ((k : Int) + 1) = I ((k + 1 : Nat) : Int); rw [Int.natCast_add]; rfl), SVle.refl _, SVle.of_eq (by show I ((j : Int) + 1) = I ((j + 1 : Nat) : Int); rw [Int.natCast_add]; rfl), trivial⟩ ⟨by show some (SO.buf ((rowsT B).set k (tr u)) r) = some (.buf (rowsT (B.set k u)) r); rw [rowsT_set], trivial⟩
end Go.Proofs.Ytmnmhehddbemkaa
/- The proof engine: two names change places. -/
namespace Go.Eng

def swpN (a b : Nat) : Nat → Nat := fun k => bif Nat.beq k a then b else bif Nat.beq k b then a else k
theorem swpN_swpN (a b k : Nat) : swpN a b (swpN a b k) = k := by
  unfold swpN
  cases h1 : Nat.beq k a with
  | true =>
    have e := beq_true h1
    subst e
    simp only [cond_true]
    cases h2 : Nat.beq b k with
    | true => simpa using beq_true h2
    | false => simp
  | false =>
    simp only [cond_false]
    cases h2 : Nat.beq k b with
    | true =>
      have e := beq_true h2
      subst e
      simp only [cond_true]
      simp
    | false => simp [h1, h2]

mutual
theorem ren_ren {r : Nat → Nat} (hr : ∀ k, r (r k) = k) : ∀ s : SV, ren r (ren r s) = s
  | .int _ _ => rfl
  | .bl _ => rfl
  | .tt => rfl
  | .ff => rfl
  | .str _ => rfl
  | .val _ => rfl
  | .lst _ _ => rfl
  | .gl k _ _ => by simp only [ren, hr]
  | .tl _ _ => rfl
  | .arr k _ => by simp only [ren, hr]
  | .sl k _ _ _ => by simp only [ren, hr]
  | .mp k => by simp only [ren, hr]
  | .ptr k _ => by simp only [ren, hr]
  | .rp _ _ => rfl
  | .agg l => by simp only [ren, rens_rens hr l]
  | .tup l => by simp only [ren, rens_rens hr l]
  | .clo _ l => by simp only [ren, rens_rens hr l]
  | .any => rfl
theorem rens_rens {r : Nat → Nat} (hr : ∀ k, r (r k) = k) : ∀ l : List SV, rens r (rens r l) = l
  | [] => rfl
  | s :: l => by simp only [rens, ren_ren hr s, rens_rens hr l]
end

def renE (r : Nat → Nat) : List (Nat × SV) → List (Nat × SV)
  | [] => []
  | (t, s) :: l => (t, ren r s) :: renE r l
theorem nth_renE (r : Nat → Nat) : ∀ (env : List (Nat × SV)) (t : Nat), nth (renE r env) t = ren r (nth env t)
  | [], _ => rfl
  | (i, s) :: l, t => by
    simp only [renE, nth]
    cases Nat.beq i t with
    | true => rfl
    | false => exact nth_renE r l t

theorem ownq_mapO' {r : Nat → Nat} (hr : ∀ k, r (r k) = k) : ∀ (l : List (Nat × SO)) (j : Nat), ownq (mapO r l) j = (ownq l (r j)).map (renO r)
  | [], _ => rfl
  | (k, o) :: l, j => by
    simp only [mapO, ownq]
    have e : Nat.beq (r k) j = Nat.beq k (r j) := by
      cases h1 : Nat.beq (r k) j with
      | true =>
        have := beq_true h1
        subst this
        rw [hr]; simp
      | false =>
        cases h2 : Nat.beq k (r j) with
        | false => rfl
        | true =>
          have := beq_true h2
          subst this
          rw [hr] at h1
          simp at h1
    rw [e]
    cases Nat.beq k (r j) with
    | true => rfl
    | false => exact ownq_mapO' hr l j

theorem at_swap {E : Stc} {m : Md} {s : List Fr} {env : List (Nat × SV)} {own : List (Nat × SO)} {nx : List Nat} (a b : Nat) (kk : Sat E m s (renE (swpN a b) env) (mapO (swpN a b) own) nx) (ha : Nat.ble E.cx.m0 a = true := by rfl) (hb : Nat.ble E.cx.m0 b = true := by rfl) : Sat E m s env own nx := by
  refine sat_mono (fun ac w h => ?_) kk
  obtain ⟨hdf, g, H, hd⟩ := h
  have hr := swpN_swpN a b
  have ha := Nat.le_of_ble_eq_true ha
  have hb := Nat.le_of_ble_eq_true hb
  have den : ∀ s x, Den g H s x → Den (fun k => g (swpN a b k)) H (ren (swpN a b) s) x := fun s x h =>
    Den.unren (g := fun k => g (swpN a b k)) (g' := g) (r := swpN a b) (fun _ => rfl) (ren (swpN a b) s) x (by rw [ren_ren hr]; exact h)
  have dens : ∀ l xs, Dens g H l xs → Dens (fun k => g (swpN a b k)) H (rens (swpN a b) l) xs := fun l xs h =>
    Dens.unren (g := fun k => g (swpN a b k)) (g' := g) (r := swpN a b) (fun _ => rfl) (rens (swpN a b) l) xs (by rw [rens_rens hr]; exact h)
  have hfix : ∀ k, k < E.cx.m0 → swpN a b k = k := fun k hk => by
    unfold swpN
    have h1 : Nat.beq k a = false := by
      cases h : Nat.beq k a with
      | false => rfl
      | true => have := beq_true h; omega
    have h2 : Nat.beq k b = false := by
      cases h : Nat.beq k b with
      | false => rfl
      | true => have := beq_true h; omega
    simp [h1, h2]
  refine ⟨hdf, fun k => g (swpN a b k), H, { size := hd.size, den := fun t => by rw [nth_renE]; exact den _ _ (hd.den t), ok := fun k o hk => ?_, inj := fun i j hi hj c hci hcj => ?_, hp := hd.hp, base := { hd.base with fix := fun k hk => by show g (swpN a b k) = _; rw [hfix k hk]; exact hd.base.fix k hk } }⟩
  · rw [ownq_mapO' hr] at hk
    cases ho : ownq own (swpN a b k) with
    | none => rw [ho] at hk; cases hk
    | some so =>
      rw [ho] at hk
      simp only [Option.map_some, Option.some.injEq] at hk
      subst hk
      have := hd.ok _ _ ho
      cases so with
      | cells ty cs =>
        obtain ⟨b, vs, e, h1, h2⟩ := this
        exact ⟨b, vs, e, dens cs vs h1, h2⟩
      | tok sz => exact this
      | obj f => exact this
      | buf rw nn =>
        rcases this with ⟨ty, b, ws, e, h1, h2⟩ | h
        · exact .inl ⟨ty, b, ws, e, Dens.plain g _ H rw nn ws h1, h2⟩
        · exact .inr h
  · have key : ∀ i, (ownq (mapO (swpN a b) own) i).isSome = true → (ownq own (swpN a b i)).isSome = true := fun i hi => by
      rw [ownq_mapO' hr] at hi
      simpa using hi
    have e := hd.inj _ _ (key i hi) (key j hj) c hci hcj
    have := congrArg (swpN a b) e
    rw [hr, hr] at this
    exact this
end Go.Eng
