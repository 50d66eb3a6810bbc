/- The texts W4v, Own2, Own3, Stage, Slc, CallG, W4y, one behind the other: an executor over the translated code, contracts of functions, and their laws. -/

import Derived.Test.YtmnmhehddbemkaaProofRunC5
namespace Go.Proofs.Ytmnmhehddbemkaa
open Go Go.Eng

theorem tl_data (a : ByteArray) : a.toList = a.data.toList := by
  unfold ByteArray.toList
  rw [loop_eq a _ 0 [] rfl]
  simp
theorem sq_data (a b : ByteArray) : seq a b = (a.data.toList == b.data.toList) := by rw [seq, tl_data, tl_data]
theorem right_eq (t : Tm) : rightF t = ((((kidsF t.k == ((rowsT t.kids).length : Int)) && !(!(t.k == 1) && !(seq t.s .empty)) && !decide (1024 < (t.s.size : Int))) && !(!(t.k == 2) && !(t.n == 0))) && !decide (t.n < 0) && !decide (1073741824 < t.n)) := by
  have hs : seq t.s .empty = true → t.s.size = 0 := by
    intro h
    rw [sq_data] at h
    have : t.s.data = ByteArray.empty.data := by simpa using h
    show t.s.data.size = 0
    rw [this]
    rfl
  unfold rightF
  rw [rowsT_len]
  have e1 : ((t.kids.length : Int) == kidsF t.k) = (kidsF t.k == (t.kids.length : Int)) := by
    rw [Bool.eq_iff_iff, beq_iff_eq, beq_iff_eq]
    exact eq_comm
  have e2 : (seq t.s .empty || (t.k == 1 && decide ((t.s.size : Int) ≤ 1024))) = (!(!(t.k == 1) && !(seq t.s .empty)) && !decide (1024 < (t.s.size : Int))) := by
    cases hq : seq t.s .empty with
    | true =>
      have := hs hq
      simp [this]
    | false =>
      cases hk : (t.k == 1)
      · simp
      · simp only [Bool.false_or, Bool.true_and, Bool.not_true, Bool.false_and, Bool.not_false]
        rw [Bool.eq_iff_iff]
        simp
  have e3 : (t.n == 0 || (t.k == 2 && decide (0 < t.n) && decide (t.n ≤ 1073741824))) = (!(!(t.k == 2) && !(t.n == 0)) && !decide (t.n < 0) && !decide (1073741824 < t.n)) := by
    cases hk : (t.k == 2) with
    | false =>
      by_cases h : t.n = 0
      · simp [h]
      · have h : (t.n == 0) = false := by simpa using h
        simp [h]
    | true =>
      rw [Bool.eq_iff_iff]
      simp
      omega
  rw [e1, e2, e3]
  simp only [Bool.and_assoc]

/-- What is left. -/
def wk (r : Bool × Int) : Int := if r.1 then 64 - r.2 else -1
theorem wk_may {t : Tm} {d left : Int} (h0 : 0 ≤ left ∧ left ≤ 64) : -1 ≤ wk (mayT t d (64 - left)) ∧ wk (mayT t d (64 - left)) ≤ 64 := by
  have := mayT_le t d (64 - left) (by omega) (by omega)
  unfold wk
  split
  · rename_i h
    have := this.2.2 h
    omega
  · omega
theorem wk_cons {t : Tm} {l : List Tm} {d left : Int} (h0 : 0 ≤ left ∧ left ≤ 64) : wk (mayL (t :: l) d (64 - left)) = if wk (mayT t d (64 - left)) < 0 then -1 else wk (mayL l d (64 - wk (mayT t d (64 - left)))) := by
  have := mayT_le t d (64 - left) (by omega) (by omega)
  rw [mayL]
  rcases hm : mayT t d (64 - left) with ⟨b, c'⟩
  rw [hm] at this
  dsimp only at this
  cases b with
  | false => simp [wk]
  | true =>
    have h64 := this.2.2 rfl
    have e : wk (true, c') = 64 - c' := rfl
    rw [e, if_neg (by omega)]
    dsimp only
    rw [show (64 : Int) - (64 - c') = c' by omega]

set_option maxRecDepth 100000 in
theorem walk_g0 (k n : Int) (s : ByteArray) (l : List Tm) (d left : Int) (hd : 0 ≤ d) (hl : left ≤ 64) (ih : ∀ u ∈ l, ∀ d left : Int, 0 ≤ left → left ≤ 64 → 0 ≤ d → d ≤ 17 → Gives Try.prog 69 [u.sv, I d, I left] (I (wk (mayT u d (64 - left))))) (h1 : decide (left < 1) = false) (h2 : decide (16 < d) = false) (h3 : (!(kidsF (Tm.mk k n s l).k == ((rowsT (Tm.mk k n s l).kids).length : Int))) = false) (h4 : (!((Tm.mk k n s l).k == 1)) = true) (h5 : (!(seq (Tm.mk k n s l).s .empty)) = false) (h6 : decide (1024 < ((Tm.mk k n s l).s.size : Int)) = false) (h7 : (!((Tm.mk k n s l).k == 2)) = true) (h8 : (!((Tm.mk k n s l).n == 0)) = false) (h9 : decide ((Tm.mk k n s l).n < 0) = false) (h10 : decide (1073741824 < (Tm.mk k n s l).n) = false) : Gives Try.prog 69 [(Tm.mk k n s l).sv, I d, I left] (I (wk (mayL l (d + 1) (64 - left + 1)))) := by
  have hd16 : d ≤ 16 := by simpa using h2
  have hl1 : 1 ≤ left := by simp at h1; omega
  have hlen2 : l.length ≤ 2 := by
    have : kidsF k = ((rowsT l).length : Int) := by simpa using h3
    rw [rowsT_len] at this
    have := kidsF_le k
    omega
  have hlen0 : ((rowsT l).length : Int) = l.length := by rw [rowsT_len]
  refine contract_of ty_ok [0, 1, 2, 3, 4, 5, 6, 7] Try.func69 rfl (by decide) Try.ntmps69 rfl fun z => ?_
  refine run 400 rfl ?_
  refine at_drawn 51 rfl rfl [(2, .no), (6, .no), (9, .sv (I (kidsF k))), (15, .no), (19, .yes), (25, .no), (31, .no), (35, .yes), (41, .no), (46, .no)] [20, 21, 22] rfl ⟨h9, h8, h7, h6, h5, h4, h3, kids94_fn _, h2, h1⟩ ?_
  refine run 400 rfl ?_
  refine at_ifd rfl (fun g => ?_) (fun g => ?_)
  · exact absurd g (by simpa using h10)
  refine run 400 rfl ?_
  refine at_loop (fun x : Int × Int => 0 ≤ x.1 ∧ x.1 ≤ l.length ∧ -1 ≤ x.2 ∧ x.2 ≤ 64 ∧ wk (mayL l (d + 1) (64 - left + 1)) = if x.2 < 0 then -1 else wk (mayL (l.drop x.1.toNat) (d + 1) (64 - x.2)))
    (fun x => [(1, I d), (2, I x.2), (3, .ptr 0 0), (7, I x.1)]) (fun x => [(0, .cells 33 [I k, I n, .str s, .lst 4 (rowsT l)])]) (fun x => (l.length - x.1).toNat) [1, 2, 3, 4, 5, 6, 7]
    (0, left - 1) ⟨by omega, by dsimp only; omega, by dsimp only; omega, by dsimp only; omega, by dsimp only; rw [if_neg (by omega), show (64 : Int) - (left - 1) = 64 - left + 1 by omega]; rfl⟩ ⟨SVle.refl _, SVle.refl _, SVle.refl _, SVle.refl _, trivial⟩ ⟨rfl, trivial⟩ ?_
  rintro ⟨i, lf⟩ ⟨a1, a2, a3, a4, a5⟩
  dsimp only at a1 a2 a3 a4 a5
  refine run 400 rfl ?_
  refine at_split 66 rfl (fun q => ?_) (fun q => ?_)
  rotate_left
  · have q : ¬ i < ((rowsT l).length : Int) := by simpa using q
    rw [hlen0] at q
    refine run 400 rfl ?_
    have e : l.drop i.toNat = [] := List.drop_eq_nil_of_le (by omega)
    rw [e, mayL] at a5
    refine at_ret rfl rfl [] ⟨?_, rfl, rfl⟩ trivial
    rw [a5]
    show I lf = I _
    split
    · rw [show lf = -1 by omega]
    · rw [wk, if_pos rfl, show lf = 64 - (64 - lf) by omega]
      congr 1
      omega
  have q : i < ((rowsT l).length : Int) := by simpa using q
  rw [hlen0] at q
  refine run 400 rfl ?_
  refine at_ifd rfl (fun q2 => ?_) (fun q2 => ?_)
  rotate_left
  · refine run 400 rfl ?_
    refine at_ret rfl rfl [] ⟨?_, rfl, rfl⟩ trivial
    rw [a5, if_pos (by omega), show lf = -1 by omega]
  have hlt : i.toNat < l.length := by omega
  have hget := rowsT_get hlt
  have hmem := getD_mem hlt
  have hdrop := drop_getD hlt
  generalize l.getD i.toNat .zero = u at hget hmem hdrop
  rw [hdrop, if_neg (by omega), wk_cons (by omega)] at a5
  have hcall := ih u hmem (d + 1) lf (by omega) a4 (by omega) (by omega)
  have hw := wk_may (t := u) (d := d + 1) (left := lf) (by omega)
  generalize wk (mayT u (d + 1) (64 - lf)) = nl at hcall hw a5
  refine run 400 rfl ?_
  refine at_val (.rp (tr u) 0) (does_index ty_ok _ rfl rfl rfl (by omega) (show (rowsT l)[i.toNat]? = some (tr u) from hget) rfl) ?_
  refine run 400 rfl ?_
  refine at_fn hcall rfl ?_
  refine run 400 rfl ?_
  exact at_again (i + 1, nl) ⟨by dsimp only; omega, by dsimp only; omega, by dsimp only; omega, by dsimp only; omega, by dsimp only; rw [a5, show (i + 1).toNat = i.toNat + 1 by omega]⟩ (by dsimp only; omega) ⟨SVle.refl _, SVle.refl _, SVle.refl _, SVle.refl _, trivial⟩ ⟨rfl, trivial⟩

set_option maxRecDepth 100000 in
theorem walk_g1 (k n : Int) (s : ByteArray) (l : List Tm) (d left : Int) (hd : 0 ≤ d) (hl : left ≤ 64) (ih : ∀ u ∈ l, ∀ d left : Int, 0 ≤ left → left ≤ 64 → 0 ≤ d → d ≤ 17 → Gives Try.prog 69 [u.sv, I d, I left] (I (wk (mayT u d (64 - left))))) (h1 : decide (left < 1) = false) (h2 : decide (16 < d) = false) (h3 : (!(kidsF (Tm.mk k n s l).k == ((rowsT (Tm.mk k n s l).kids).length : Int))) = false) (h4 : (!((Tm.mk k n s l).k == 1)) = true) (h5 : (!(seq (Tm.mk k n s l).s .empty)) = false) (h6 : decide (1024 < ((Tm.mk k n s l).s.size : Int)) = false) (h7 : (!((Tm.mk k n s l).k == 2)) = false) (h9 : decide ((Tm.mk k n s l).n < 0) = false) (h10 : decide (1073741824 < (Tm.mk k n s l).n) = false) : Gives Try.prog 69 [(Tm.mk k n s l).sv, I d, I left] (I (wk (mayL l (d + 1) (64 - left + 1)))) := by
  have hd16 : d ≤ 16 := by simpa using h2
  have hl1 : 1 ≤ left := by simp at h1; omega
  have hlen2 : l.length ≤ 2 := by
    have : kidsF k = ((rowsT l).length : Int) := by simpa using h3
    rw [rowsT_len] at this
    have := kidsF_le k
    omega
  have hlen0 : ((rowsT l).length : Int) = l.length := by rw [rowsT_len]
  refine contract_of ty_ok [0, 1, 2, 3, 4, 5, 6, 7] Try.func69 rfl (by decide) Try.ntmps69 rfl fun z => ?_
  refine run 400 rfl ?_
  refine at_drawn 51 rfl rfl [(2, .no), (6, .no), (9, .sv (I (kidsF k))), (15, .no), (19, .yes), (25, .no), (31, .no), (35, .no), (46, .no)] [20, 21, 22] rfl ⟨h9, h7, h6, h5, h4, h3, kids94_fn _, h2, h1⟩ ?_
  refine run 400 rfl ?_
  refine at_ifd rfl (fun g => ?_) (fun g => ?_)
  · exact absurd g (by simpa using h10)
  refine run 400 rfl ?_
  refine at_loop (fun x : Int × Int => 0 ≤ x.1 ∧ x.1 ≤ l.length ∧ -1 ≤ x.2 ∧ x.2 ≤ 64 ∧ wk (mayL l (d + 1) (64 - left + 1)) = if x.2 < 0 then -1 else wk (mayL (l.drop x.1.toNat) (d + 1) (64 - x.2)))
    (fun x => [(1, I d), (2, I x.2), (3, .ptr 0 0), (7, I x.1)]) (fun x => [(0, .cells 33 [I k, I n, .str s, .lst 4 (rowsT l)])]) (fun x => (l.length - x.1).toNat) [1, 2, 3, 4, 5, 6, 7]
    (0, left - 1) ⟨by omega, by dsimp only; omega, by dsimp only; omega, by dsimp only; omega, by dsimp only; rw [if_neg (by omega), show (64 : Int) - (left - 1) = 64 - left + 1 by omega]; rfl⟩ ⟨SVle.refl _, SVle.refl _, SVle.refl _, SVle.refl _, trivial⟩ ⟨rfl, trivial⟩ ?_
  rintro ⟨i, lf⟩ ⟨a1, a2, a3, a4, a5⟩
  dsimp only at a1 a2 a3 a4 a5
  refine run 400 rfl ?_
  refine at_split 66 rfl (fun q => ?_) (fun q => ?_)
  rotate_left
  · have q : ¬ i < ((rowsT l).length : Int) := by simpa using q
    rw [hlen0] at q
    refine run 400 rfl ?_
    have e : l.drop i.toNat = [] := List.drop_eq_nil_of_le (by omega)
    rw [e, mayL] at a5
    refine at_ret rfl rfl [] ⟨?_, rfl, rfl⟩ trivial
    rw [a5]
    show I lf = I _
    split
    · rw [show lf = -1 by omega]
    · rw [wk, if_pos rfl, show lf = 64 - (64 - lf) by omega]
      congr 1
      omega
  have q : i < ((rowsT l).length : Int) := by simpa using q
  rw [hlen0] at q
  refine run 400 rfl ?_
  refine at_ifd rfl (fun q2 => ?_) (fun q2 => ?_)
  rotate_left
  · refine run 400 rfl ?_
    refine at_ret rfl rfl [] ⟨?_, rfl, rfl⟩ trivial
    rw [a5, if_pos (by omega), show lf = -1 by omega]
  have hlt : i.toNat < l.length := by omega
  have hget := rowsT_get hlt
  have hmem := getD_mem hlt
  have hdrop := drop_getD hlt
  generalize l.getD i.toNat .zero = u at hget hmem hdrop
  rw [hdrop, if_neg (by omega), wk_cons (by omega)] at a5
  have hcall := ih u hmem (d + 1) lf (by omega) a4 (by omega) (by omega)
  have hw := wk_may (t := u) (d := d + 1) (left := lf) (by omega)
  generalize wk (mayT u (d + 1) (64 - lf)) = nl at hcall hw a5
  refine run 400 rfl ?_
  refine at_val (.rp (tr u) 0) (does_index ty_ok _ rfl rfl rfl (by omega) (show (rowsT l)[i.toNat]? = some (tr u) from hget) rfl) ?_
  refine run 400 rfl ?_
  refine at_fn hcall rfl ?_
  refine run 400 rfl ?_
  exact at_again (i + 1, nl) ⟨by dsimp only; omega, by dsimp only; omega, by dsimp only; omega, by dsimp only; omega, by dsimp only; rw [a5, show (i + 1).toNat = i.toNat + 1 by omega]⟩ (by dsimp only; omega) ⟨SVle.refl _, SVle.refl _, SVle.refl _, SVle.refl _, trivial⟩ ⟨rfl, trivial⟩

set_option maxRecDepth 100000 in
theorem walk_g2 (k n : Int) (s : ByteArray) (l : List Tm) (d left : Int) (hd : 0 ≤ d) (hl : left ≤ 64) (ih : ∀ u ∈ l, ∀ d left : Int, 0 ≤ left → left ≤ 64 → 0 ≤ d → d ≤ 17 → Gives Try.prog 69 [u.sv, I d, I left] (I (wk (mayT u d (64 - left))))) (h1 : decide (left < 1) = false) (h2 : decide (16 < d) = false) (h3 : (!(kidsF (Tm.mk k n s l).k == ((rowsT (Tm.mk k n s l).kids).length : Int))) = false) (h4 : (!((Tm.mk k n s l).k == 1)) = false) (h6 : decide (1024 < ((Tm.mk k n s l).s.size : Int)) = false) (h7 : (!((Tm.mk k n s l).k == 2)) = true) (h8 : (!((Tm.mk k n s l).n == 0)) = false) (h9 : decide ((Tm.mk k n s l).n < 0) = false) (h10 : decide (1073741824 < (Tm.mk k n s l).n) = false) : Gives Try.prog 69 [(Tm.mk k n s l).sv, I d, I left] (I (wk (mayL l (d + 1) (64 - left + 1)))) := by
  have hd16 : d ≤ 16 := by simpa using h2
  have hl1 : 1 ≤ left := by simp at h1; omega
  have hlen2 : l.length ≤ 2 := by
    have : kidsF k = ((rowsT l).length : Int) := by simpa using h3
    rw [rowsT_len] at this
    have := kidsF_le k
    omega
  have hlen0 : ((rowsT l).length : Int) = l.length := by rw [rowsT_len]
  refine contract_of ty_ok [0, 1, 2, 3, 4, 5, 6, 7] Try.func69 rfl (by decide) Try.ntmps69 rfl fun z => ?_
  refine run 400 rfl ?_
  refine at_drawn 51 rfl rfl [(2, .no), (6, .no), (9, .sv (I (kidsF k))), (15, .no), (19, .no), (31, .no), (35, .yes), (41, .no), (46, .no)] [20, 21, 22] rfl ⟨h9, h8, h7, h6, h4, h3, kids94_fn _, h2, h1⟩ ?_
  refine run 400 rfl ?_
  refine at_ifd rfl (fun g => ?_) (fun g => ?_)
  · exact absurd g (by simpa using h10)
  refine run 400 rfl ?_
  refine at_loop (fun x : Int × Int => 0 ≤ x.1 ∧ x.1 ≤ l.length ∧ -1 ≤ x.2 ∧ x.2 ≤ 64 ∧ wk (mayL l (d + 1) (64 - left + 1)) = if x.2 < 0 then -1 else wk (mayL (l.drop x.1.toNat) (d + 1) (64 - x.2)))
    (fun x => [(1, I d), (2, I x.2), (3, .ptr 0 0), (7, I x.1)]) (fun x => [(0, .cells 33 [I k, I n, .str s, .lst 4 (rowsT l)])]) (fun x => (l.length - x.1).toNat) [1, 2, 3, 4, 5, 6, 7]
    (0, left - 1) ⟨by omega, by dsimp only; omega, by dsimp only; omega, by dsimp only; omega, by dsimp only; rw [if_neg (by omega), show (64 : Int) - (left - 1) = 64 - left + 1 by omega]; rfl⟩ ⟨SVle.refl _, SVle.refl _, SVle.refl _, SVle.refl _, trivial⟩ ⟨rfl, trivial⟩ ?_
  rintro ⟨i, lf⟩ ⟨a1, a2, a3, a4, a5⟩
  dsimp only at a1 a2 a3 a4 a5
  refine run 400 rfl ?_
  refine at_split 66 rfl (fun q => ?_) (fun q => ?_)
  rotate_left
  · have q : ¬ i < ((rowsT l).length : Int) := by simpa using q
    rw [hlen0] at q
    refine run 400 rfl ?_
    have e : l.drop i.toNat = [] := List.drop_eq_nil_of_le (by omega)
    rw [e, mayL] at a5
    refine at_ret rfl rfl [] ⟨?_, rfl, rfl⟩ trivial
    rw [a5]
    show I lf = I _
    split
    · rw [show lf = -1 by omega]
    · rw [wk, if_pos rfl, show lf = 64 - (64 - lf) by omega]
      congr 1
      omega
  have q : i < ((rowsT l).length : Int) := by simpa using q
  rw [hlen0] at q
  refine run 400 rfl ?_
  refine at_ifd rfl (fun q2 => ?_) (fun q2 => ?_)
  rotate_left
  · refine run 400 rfl ?_
    refine at_ret rfl rfl [] ⟨?_, rfl, rfl⟩ trivial
    rw [a5, if_pos (by omega), show lf = -1 by omega]
  have hlt : i.toNat < l.length := by omega
  have hget := rowsT_get hlt
  have hmem := getD_mem hlt
  have hdrop := drop_getD hlt
  generalize l.getD i.toNat .zero = u at hget hmem hdrop
  rw [hdrop, if_neg (by omega), wk_cons (by omega)] at a5
  have hcall := ih u hmem (d + 1) lf (by omega) a4 (by omega) (by omega)
  have hw := wk_may (t := u) (d := d + 1) (left := lf) (by omega)
  generalize wk (mayT u (d + 1) (64 - lf)) = nl at hcall hw a5
  refine run 400 rfl ?_
  refine at_val (.rp (tr u) 0) (does_index ty_ok _ rfl rfl rfl (by omega) (show (rowsT l)[i.toNat]? = some (tr u) from hget) rfl) ?_
  refine run 400 rfl ?_
  refine at_fn hcall rfl ?_
  refine run 400 rfl ?_
  exact at_again (i + 1, nl) ⟨by dsimp only; omega, by dsimp only; omega, by dsimp only; omega, by dsimp only; omega, by dsimp only; rw [a5, show (i + 1).toNat = i.toNat + 1 by omega]⟩ (by dsimp only; omega) ⟨SVle.refl _, SVle.refl _, SVle.refl _, SVle.refl _, trivial⟩ ⟨rfl, trivial⟩

theorem walk_fn : ∀ (t : Tm) (d left : Int), 0 ≤ left → left ≤ 64 → 0 ≤ d → d ≤ 17 → Gives Try.prog 69 [t.sv, I d, I left] (I (wk (mayT t d (64 - left)))) := by
  intro t
  induction t using Tm.ind with
  | h k n s l ih =>
    intro d left h0 h64 hd hd17
    have hr := right_eq (.mk k n s l)
    cases h1 : decide (left < 1) with
    | true => exact (walk_f0 (.mk k n s l) d left h1).le (SVle.of_eq (by simp at h1; rw [mayT, if_pos (by omega)]; rfl))
    | false => ?_
    have h1' : ¬ 64 < 64 - left + 1 := by simp at h1; omega
    cases h2 : decide (16 < d) with
    | true => exact (walk_f1 (.mk k n s l) d left h1 h2).le (SVle.of_eq (by simp at h2; rw [mayT, if_neg h1', if_pos (by omega)]; rfl))
    | false => ?_
    have h2' : ¬ 16 < d := by simpa using h2
    have no : rightF (.mk k n s l) = false → I (-1) = I (wk (mayT (.mk k n s l) d (64 - left))) := fun h => by rw [mayT, if_neg h1', if_neg h2', if_pos h]; rfl
    have yes : rightF (.mk k n s l) = true → I (wk (mayL l (d + 1) (64 - left + 1))) = I (wk (mayT (.mk k n s l) d (64 - left))) := fun h => by rw [mayT, if_neg h1', if_neg h2', if_neg (by simp [h])]
    cases h3 : (!(kidsF (Tm.mk k n s l).k == ((rowsT (Tm.mk k n s l).kids).length : Int))) with
    | true => exact (walk_f2 (.mk k n s l) d left h1 h2 h3).le (SVle.of_eq (no (by rw [hr]; simp only [Bool.not_eq_true'] at h3; simp [h3])))
    | false => ?_
    cases h4 : (!((Tm.mk k n s l).k == 1)) with
    | true =>
      cases h5 : (!(seq (Tm.mk k n s l).s .empty)) with
      | true =>
        exact (walk_f3 (.mk k n s l) d left h1 h2 h3 h4 h5).le (SVle.of_eq (no (by rw [hr]; simp only [Bool.not_eq_true', Bool.not_eq_false'] at h3 h4 h5; simp [*])))
      | false =>
        cases h6 : decide (1024 < ((Tm.mk k n s l).s.size : Int)) with
        | true =>
          exact (walk_f4 (.mk k n s l) d left h1 h2 h3 h4 h5 h6).le (SVle.of_eq (no (by rw [hr]; simp only [Bool.not_eq_true', Bool.not_eq_false'] at h3 h4 h5; simp [*])))
        | false =>
          cases h7 : (!((Tm.mk k n s l).k == 2)) with
          | true =>
            cases h8 : (!((Tm.mk k n s l).n == 0)) with
            | true =>
              exact (walk_f5 (.mk k n s l) d left h1 h2 h3 h4 h5 h6 h7 h8).le (SVle.of_eq (no (by rw [hr]; simp only [Bool.not_eq_true', Bool.not_eq_false'] at h3 h4 h5 h7 h8; simp [*])))
            | false =>
              cases h9 : decide ((Tm.mk k n s l).n < 0) with
              | true =>
                exact (walk_f6 (.mk k n s l) d left h1 h2 h3 h4 h5 h6 h7 h8 h9).le (SVle.of_eq (no (by rw [hr]; simp only [Bool.not_eq_true', Bool.not_eq_false'] at h3 h4 h5 h7 h8; simp [*])))
              | false =>
                cases h10 : decide (1073741824 < (Tm.mk k n s l).n) with
                | true =>
                  exact (walk_f7 (.mk k n s l) d left h1 h2 h3 h4 h5 h6 h7 h8 h9 h10).le (SVle.of_eq (no (by rw [hr]; simp only [Bool.not_eq_true', Bool.not_eq_false'] at h3 h4 h5 h7 h8; simp [*])))
                | false =>
                  exact (walk_g0 k n s l d left hd h64 ih h1 h2 h3 h4 h5 h6 h7 h8 h9 h10).le (SVle.of_eq (yes (by rw [hr]; simp only [Bool.not_eq_true', Bool.not_eq_false'] at h3 h4 h5 h7 h8; simp [*])))
          | false =>
            cases h9 : decide ((Tm.mk k n s l).n < 0) with
            | true =>
              exact (walk_f8 (.mk k n s l) d left h1 h2 h3 h4 h5 h6 h7 h9).le (SVle.of_eq (no (by rw [hr]; simp only [Bool.not_eq_true', Bool.not_eq_false'] at h3 h4 h5 h7; simp [*])))
            | false =>
              cases h10 : decide (1073741824 < (Tm.mk k n s l).n) with
              | true =>
                exact (walk_f9 (.mk k n s l) d left h1 h2 h3 h4 h5 h6 h7 h9 h10).le (SVle.of_eq (no (by rw [hr]; simp only [Bool.not_eq_true', Bool.not_eq_false'] at h3 h4 h5 h7; simp [*])))
              | false =>
                exact (walk_g1 k n s l d left hd h64 ih h1 h2 h3 h4 h5 h6 h7 h9 h10).le (SVle.of_eq (yes (by rw [hr]; simp only [Bool.not_eq_true', Bool.not_eq_false'] at h3 h4 h5 h7; simp [*])))
    | false =>
      cases h6 : decide (1024 < ((Tm.mk k n s l).s.size : Int)) with
      | true =>
        exact (walk_f10 (.mk k n s l) d left h1 h2 h3 h4 h6).le (SVle.of_eq (no (by rw [hr]; simp only [Bool.not_eq_false'] at h3 h4; simp [*])))
      | false =>
        cases h7 : (!((Tm.mk k n s l).k == 2)) with
        | true =>
          cases h8 : (!((Tm.mk k n s l).n == 0)) with
          | true =>
            exact (walk_f11 (.mk k n s l) d left h1 h2 h3 h4 h6 h7 h8).le (SVle.of_eq (no (by rw [hr]; simp only [Bool.not_eq_true', Bool.not_eq_false'] at h3 h4 h7 h8; simp [*])))
          | false =>
            cases h9 : decide ((Tm.mk k n s l).n < 0) with
            | true =>
              exact (walk_f12 (.mk k n s l) d left h1 h2 h3 h4 h6 h7 h8 h9).le (SVle.of_eq (no (by rw [hr]; simp only [Bool.not_eq_true', Bool.not_eq_false'] at h3 h4 h7 h8; simp [*])))
            | false =>
              cases h10 : decide (1073741824 < (Tm.mk k n s l).n) with
              | true =>
                exact (walk_f13 (.mk k n s l) d left h1 h2 h3 h4 h6 h7 h8 h9 h10).le (SVle.of_eq (no (by rw [hr]; simp only [Bool.not_eq_true', Bool.not_eq_false'] at h3 h4 h7 h8; simp [*])))
              | false =>
                exact (walk_g2 k n s l d left hd h64 ih h1 h2 h3 h4 h6 h7 h8 h9 h10).le (SVle.of_eq (yes (by rw [hr]; simp only [Bool.not_eq_true', Bool.not_eq_false'] at h3 h4 h7 h8; simp [*])))
        | false =>
          cases h9 : decide ((Tm.mk k n s l).n < 0) with
          | true =>
            exact (walk_f14 (.mk k n s l) d left h1 h2 h3 h4 h6 h7 h9).le (SVle.of_eq (no (by rw [hr]; simp only [Bool.not_eq_false'] at h3 h4 h7; simp [*])))
          | false =>
            cases h10 : decide (1073741824 < (Tm.mk k n s l).n) with
            | true =>
              exact (walk_f15 (.mk k n s l) d left h1 h2 h3 h4 h6 h7 h9 h10).le (SVle.of_eq (no (by rw [hr]; simp only [Bool.not_eq_false'] at h3 h4 h7; simp [*])))
            | false =>
              exfalso
              simp at h4 h7
              omega

theorem rmay_fn (t : Tm) : Gives Try.prog 40 [t.sv] (.bl (mayF t)) := by
  have hw := walk_fn t 1 64 (by omega) (by omega) (by omega) (by omega)
  have e : mayF t = decide (0 ≤ wk (mayT t 1 (64 - 64))) := by
    have := mayT_le t 1 0 (by omega) (by omega)
    unfold mayF wk
    rw [show (64 : Int) - 64 = 0 by omega]
    cases hm : (mayT t 1 0).1 with
    | false => rfl
    | true =>
      have := this.2.2 hm
      exact (decide_eq_true (by simp; omega)).symm
  rw [e]
  refine contract_of ty_ok [0, 1, 2, 3, 4, 5, 6, 7] Try.func40 rfl (by decide) Try.ntmps40 rfl fun z => ?_
  refine run 400 rfl ?_
  refine at_fn hw rfl ?_
  refine run 400 rfl ?_
  exact at_ret rfl rfl [] ⟨rfl, rfl, rfl⟩ trivial
end Go.Proofs.Ytmnmhehddbemkaa
/- The proof engine, part 14h: own cells that hold lists which may grow. -/
namespace Go.Eng

variable {E : Stc} {all rest : List Oper} {o : Oper} {s : List Fr} {env : List (Nat × SV)} {own own2 : List (Nat × SO)} {nx : List Nat}

/-- Own cells may be known less well. -/
def soLe : SO → SO → Prop
  | .cells t cs, .cells t' cs' => t = t' ∧ SVles cs cs'
  | .tok a, .tok b => a = b
  | .cells _ cs, .buf rw n => SVles cs (bufC rw n)
  | .buf rw n, .buf rw' n' => SVles (bufC rw n) (bufC rw' n')
  | .obj f, .obj f' => ∀ H o, f H o → f' H o
  | _, _ => False
def ownLe : List (Nat × SO) → List (Nat × SO) → Prop
  | [], [] => True
  | (k, a) :: l, (j, b) :: r => k = j ∧ soLe a b ∧ ownLe l r
  | _, _ => False
theorem ownLe_q : ∀ {l r : List (Nat × SO)}, ownLe l r → ∀ k b, ownq r k = some b → ∃ a, ownq l k = some a ∧ soLe a b
  | [], [], _, _, _, h => by simp [ownq] at h
  | (j, a) :: l, (j', b') :: r, hl, k, b, h => by
    obtain ⟨rfl, h1, h2⟩ := hl
    simp only [ownq] at h ⊢
    cases hb : Nat.beq j k with
    | true =>
      rw [hb, cond_true] at h
      simp only [Option.some.injEq] at h
      subst h
      exact ⟨a, rfl, h1⟩
    | false =>
      rw [hb, cond_false] at h
      exact ownLe_q h2 k b h
theorem ownOk_le {mine : Nat → Prop} {g : Nat → Value} {H : Hp} {w : World} {k : Nat} {a b : SO} (h : OwnOk mine g H w k a) (hl : soLe a b) : OwnOk mine g H w k b := by
  cases a with
  | cells t cs =>
    cases b with
    | cells t' cs' =>
      obtain ⟨rfl, hc⟩ := hl
      obtain ⟨q, vs, h1, h2, h3⟩ := h
      exact ⟨q, vs, h1, hc.dens g H vs h2, h3⟩
    | buf rw n =>
      obtain ⟨q, vs, h1, h2, h3⟩ := h
      exact .inl ⟨t, q, vs, h1, SVles.dens hl g H vs h2, h3⟩
    | tok z => exact hl.elim
    | obj f => exact hl.elim
  | tok z =>
    cases b with
    | cells t' cs' => exact hl.elim
    | tok y =>
      have hl : z = y := hl
      subst hl
      exact h
    | obj f => exact hl.elim
    | buf c n => exact hl.elim
  | buf rw n =>
    cases b with
    | buf rw' n' =>
      rcases h with ⟨t, q, vs, h1, h2, h3⟩ | ⟨h1, e⟩
      · exact .inl ⟨t, q, vs, h1, SVles.dens hl g H vs h2, h3⟩
      · refine .inr ⟨h1, ?_⟩
        have hl : SVles (bufC rw n) (bufC rw' n') := hl
        rw [e] at hl
        cases hc : bufC rw' n' with
        | nil => rfl
        | cons _ _ => rw [hc] at hl; exact hl.elim
    | cells t' cs' => exact hl.elim
    | tok y => exact hl.elim
    | obj f => exact hl.elim
  | obj f =>
    cases b with
    | obj f' =>
      obtain ⟨r, o, e, h1, h2, h3⟩ := h
      exact ⟨r, o, e, h1, fun H' hh => hl H' o (h2 H' hh), h3⟩
    | cells t' cs' => exact hl.elim
    | tok y => exact hl.elim
    | buf c n => exact hl.elim
theorem at_weakO {m : Md} (own' : List (Nat × SO)) (hl : ownLe own own') (kk : Sat E m s env own' nx) : Sat E m s env own nx := by
  refine sat_mono (fun a w hat => ?_) kk
  obtain ⟨hdf, g, H, hd⟩ := hat
  refine ⟨hdf, g, H, { hd with ok := fun k b hk => ?_, inj := fun i j hi hj => hd.inj i j ?_ ?_ }⟩
  · obtain ⟨a', h1, h2⟩ := ownLe_q hl k b hk
    exact ownOk_le (hd.ok k a' h1) h2
  · cases hq : ownq own' i with
    | none => rw [hq] at hi; cases hi
    | some b =>
      obtain ⟨a', h1, _⟩ := ownLe_q hl i b hq
      rw [h1]; rfl
  · cases hq : ownq own' j with
    | none => rw [hq] at hj; cases hj
    | some b =>
      obtain ⟨a', h1, _⟩ := ownLe_q hl j b hq
      rw [h1]; rfl

/-- A list in an own block of one cell gets a name. -/
theorem at_nameC {m : Md} (c k sz : Nat) {ty sz0 : Nat} {rows : List (List DV)} (hc : ownq own c = some (.cells ty [.tl sz0 rows])) (hs : sz0 = sz ∨ rows = []) (hso : setOwnK c (.cells ty [.gl k sz rows]) own some = some own2)
    (kk : Sat E m s env ((k, .tok sz) :: own2) nx) (hm : Nat.ble E.cx.m0 k = true := by rfl) (hE : freshE k env = true := by rfl) (hO : freshO k own = true := by rfl) (hne : Nat.beq k c = false := by rfl) : Sat E m s env own nx := by
  rw [setOwnK_eq] at hso
  simp only [Option.some.injEq] at hso
  subst hso
  have hkc : ¬ k = c := fun e => by rw [e, Nat.beq_refl] at hne; cases hne
  refine sat_mono (fun a w hat => ?_) kk
  obtain ⟨hdf, g, H, hdn⟩ := hat
  obtain ⟨b, vs, g1, g2, g3, g4, g5, g6⟩ := hdn.ok c _ hc
  obtain ⟨x, rfl⟩ : ∃ x, vs = [x] := by
    match vs, g2 with
    | [x], _ => exact ⟨x, rfl⟩
    | [], h => exact h.elim
    | _ :: _ :: _, h => exact h.2.elim
  obtain ⟨⟨ad, cp, e, h1, h2, h3⟩, ad', e'⟩ := g2.1
  have hx : DenD H (.lst sz rows) x := by
    refine ⟨ad, cp, e, h1, h2, fun p hp => ?_⟩
    rcases hs with rfl | rfl
    · exact h3 p hp
    · exact ⟨.inl rfl, trivial⟩
  have hcp : cp = rows.length := by
    rw [e] at e'
    simp only [Value.slice.injEq, true_and] at e'
    exact e'.2
  obtain ⟨hd3, hp⟩ := hdn.tok (k := k) (sz := sz) (rows := rows) (Nat.le_of_ble_eq_true hm) hE hO hx ⟨ad, rows.length, cp, e, fun h => ⟨by rw [(h2 h).1]; rfl, (h2 h).2⟩, h1, fun p hp hlt => absurd hlt (by omega)⟩
  have hiff : ∀ i, (ownq ((k, SO.tok sz) :: setOwn c (.cells ty [.gl k sz rows]) own) i).isSome = true → (ownq ((k, SO.tok sz) :: own) i).isSome = true := by
    intro i hi
    simp only [ownq] at hi ⊢
    cases hb : Nat.beq k i with
    | true => rfl
    | false =>
      rw [hb, cond_false] at hi
      rw [cond_false]
      rw [ownq_setOwn] at hi
      split at hi
      · rename_i e
        subst e
        rw [hc]; rfl
      · exact hi
  refine ⟨hdf, _, H, { hd3 with ok := fun j o' hj => ?_, inj := fun i j hi hj => hd3.inj i j (hiff i hi) (hiff j hj) }⟩
  simp only [ownq] at hj
  cases hb : Nat.beq k j with
  | true =>
    have hj' : ownq ((k, SO.tok sz) :: own) j = some o' := by simp only [ownq, hb, cond_true]; rw [hb, cond_true] at hj; exact hj
    exact hd3.ok j o' hj'
  | false =>
    rw [hb, cond_false, ownq_setOwn] at hj
    have hjk : j ≠ k := fun e => by rw [e, Nat.beq_refl] at hb; cases hb
    by_cases hjc : j = c
    · subst hjc
      rw [if_pos rfl, hc] at hj
      simp only [Option.map_some, Option.some.injEq] at hj
      subst hj
      exact ⟨b, [x], by rw [upd_ne _ _ _ j hjk]; exact g1, ⟨hp, trivial⟩, g3, g4, g5, g6⟩
    · rw [if_neg hjc] at hj
      exact hd3.ok j o' (by simp only [ownq, hb, cond_false]; exact hj)

theorem Dn.cons {cx : Cx} {g : Nat → Value} {H : Hp} {env : List (Nat × SV)} {own : List (Nat × SO)} {n : Nat} {tmps : Array Value} {w : World} {k : Nat} {so : SO}
    (h : Dn cx g H env own n tmps w) (hok : OwnOk cx.mine g H w k so) (hb : ∀ b, blkOf (g k) = some b → ∀ j o, ownq own j = some o → blkOf (g j) ≠ some b) : Dn cx g H env ((k, so) :: own) n tmps w := by
  refine { h with ok := fun j o hj => ?_, inj := fun i j hi hj b hbi hbj => ?_ }
  · simp only [ownq] at hj
    cases hb : Nat.beq k j with
    | true =>
      have := beq_true hb
      subst this
      simp only [hb, cond_true, Option.some.injEq] at hj
      subst hj
      exact hok
    | false =>
      simp only [hb, cond_false] at hj
      exact h.ok j o hj
  · have key : ∀ j, (ownq ((k, so) :: own) j).isSome = true → j = k ∨ (ownq own j).isSome = true := by
      intro j hj
      by_cases hjk : j = k
      · exact .inl hjk
      · have hbf : Nat.beq k j = false := by
          cases hb' : Nat.beq k j with
          | false => rfl
          | true => exact absurd (beq_true hb').symm hjk
        simp only [ownq, hbf, cond_false] at hj
        exact .inr hj
    rcases key i hi with rfl | oi <;> rcases key j hj with rfl | oj
    · rfl
    · cases ho : ownq own j with
      | none => rw [ho] at oj; cases oj
      | some o => exact absurd hbj (hb b hbi j o ho)
    · cases ho : ownq own i with
      | none => rw [ho] at oi; cases oi
      | some o => exact absurd hbi (hb b hbj i o ho)
    · exact h.inj i j oi oj b hbi hbj

def r3 (c k k' : Nat) : Nat → Nat := fun j => bif Nat.beq j 0 then c else bif Nat.beq j 1 then k else k'

/-- A call that may write an own block, in whose cells is a list with room of its own that may grow. -/
theorem at_growM (c k k' sz : Nat) {ty f : Nat} {cs cs' : List SV} {args : List SV} {sv : SV} (hC : Contract E.P f 2 [(0, .cells ty cs), (1, .tok sz)] args fun s post => s = sv ∧ post = [(0, .cells ty cs'), (2, .tok sz)])
    (hc : callK o.op env (fun f l => some (f, l)) none = some (f, rens (r2 c k) args)) (h0 : ownq own c = some (.cells ty (rens (r2 c k) cs))) (h1 : ownq own k = some (.tok sz)) (ho : lessK c own (fun o1 => lessK k o1 some) = some own2)
    (kk : Sat E (.ops all rest) s (put o.dst (ren (r3 c k k') sv) env) ((c, .cells ty (rens (r3 c k k') cs')) :: (k', .tok sz) :: own2) nx)
    (hne : Nat.beq c k = false := by rfl) (hck : Nat.beq c k' = false := by rfl) (hkk : Nat.beq k k' = false := by rfl) (hm : Nat.ble E.cx.m0 k' = true := by rfl) (hE : freshE k' env = true := by rfl) (hO : freshO k' own2 = true := by rfl)
    (l1 : sv.lt 3 = true := by rfl) (l2 : SV.lts 3 cs' = true := by rfl)
    (hg : guardK all o.guard env true false false = true := by rfl) (hd : dstLt o.dst E.n = true := by rfl) : Sat E (.ops all (o :: rest)) s env own nx := by
  intro a w hat
  have hwant := wanted_of (E := E) (own := own) hg a w hat
  simp only [lessK_eq, Option.some.injEq] at ho
  have nck := beq_false hne
  have nck' := beq_false hck
  have nkk' := beq_false hkk
  unfold wpList
  rw [if_pos hwant]
  refine .inl ?_
  obtain ⟨hdf, g, H, hdn⟩ := hat
  obtain ⟨vs, hv, hr⟩ := run_call (P := E.P) hdn hC.1 hc
  have hpre : pres (r2 c k) own [(0, .cells ty cs), (1, .tok sz)] := ⟨h0, h1, trivial⟩
  have hv' : Dens (fun j => g (r2 c k j)) H args vs := Dens.unren (g' := g) (r := r2 c k) (fun _ => rfl) args vs hv
  have key : ∀ i, (ownq [(0, SO.cells ty cs), (1, SO.tok sz)] i).isSome = true → i = 0 ∨ i = 1 := by
    intro i hi
    match i, hi with
    | 0, _ => exact .inl rfl
    | 1, _ => exact .inr rfl
    | i + 2, hi => exact absurd hi (by show ¬ (false = true); simp)
  have hok : ∀ j o, ownq [(0, SO.cells ty cs), (1, SO.tok sz)] j = some o → OwnOk (fun _ => True) (fun j => g (r2 c k j)) H w j o := by
    intro j o hj
    rcases key j (by rw [hj]; rfl) with rfl | rfl
    · have e : SO.cells ty cs = o := by simpa [ownq] using hj
      subst e
      obtain ⟨b, ws, e, q1, q2, q3, q4, _⟩ := hdn.ok c _ h0
      exact ⟨b, ws, e, Dens.unren (g' := g) (r := r2 c k) (fun _ => rfl) cs ws q1, q2, q3, q4, trivial⟩
    · have e : SO.tok sz = o := Option.some.inj hj
      subst e
      obtain ⟨ad, q, cp, e, q1, hle, q2⟩ := hdn.ok k _ h1
      refine ⟨ad, q, cp, e, q1, hle, fun p hpa hlt => ?_⟩
      obtain ⟨q3, _, q5⟩ := q2 p hpa hlt
      exact ⟨q3, trivial, q5⟩
  have hinj : InjOn (fun j => g (r2 c k j)) [(0, SO.cells ty cs), (1, SO.tok sz)] := by
    intro i j hi hj b hbi hbj
    have hi' : (ownq own (r2 c k i)).isSome = true := by
      rcases key i hi with rfl | rfl
      · show (ownq own c).isSome = true; rw [h0]; rfl
      · show (ownq own k).isSome = true; rw [h1]; rfl
    have hj' : (ownq own (r2 c k j)).isSome = true := by
      rcases key j hj with rfl | rfl
      · show (ownq own c).isSome = true; rw [h0]; rfl
      · show (ownq own k).isSome = true; rw [h1]; rfl
    have e := hdn.inj _ _ hi' hj' b hbi hbj
    rcases key i hi with rfl | rfl <;> rcases key j hj with rfl | rfl
    · rfl
    · exact absurd (show c = k from e) nck
    · exact absurd (show k = c from e).symm nck
    · rfl
  have hcall := hC.2 (fun j => g (r2 c k j)) H w vs hdn.hp hok hinj hv'
  unfold Oper.wp
  rw [hr]
  refine hcall.mono fun e w' he => ?_
  cases e with
  | panicked c => exact he.elim
  | outgrown => exact he.elim
  | returned x =>
    obtain ⟨g', H', sv', post, ⟨rfl, rfl⟩, hx, hok', hinj', hon, hb⟩ := he
    have hl2 : ∀ j o, ownq own2 j = some o → j ≠ c ∧ j ≠ k ∧ ownq own j = some o := by
      intro j o hj
      rw [← ho] at hj
      have e1 := rm1_less k (rm1 c own) j o hj
      have e2 := rm1_less c own j o e1.2
      exact ⟨e2.1, e1.1, e2.2⟩
    obtain ⟨hd2, hother⟩ := hdn.left (r := r2 c k) (own2 := own2) hpre hb hon (fun j o hj => ⟨(hl2 j o hj).2.2, fun i hi => by
      rcases key i hi with rfl | rfl
      · exact (hl2 j o hj).1
      · exact (hl2 j o hj).2.1⟩)
    obtain ⟨b, ws, e0, q1, q2, q3, q4, q5⟩ := hok' 0 (.cells ty cs') rfl
    obtain ⟨ad, q, cp, e2, p1, hle, p2⟩ := hok' 2 (.tok sz) rfl
    have hd3 := hd2.bind (k := k') (x := g' 2) (so := .tok sz) (Nat.le_of_ble_eq_true hm) hE hO ⟨ad, q, cp, by rw [upd_same, e2], p1, hle, fun p hpa hlt => by
      obtain ⟨q3, q4, q5⟩ := p2 p hpa hlt
      exact ⟨q3, (hother _ q4).1, q5⟩⟩ (fun b' hb' j o hj => by
      rw [e2] at hb'
      cases ad with
      | none => simp [blkOf] at hb'
      | some p =>
        simp only [blkOf] at hb'
        cases hlt : Nat.blt q cp with
        | false => rw [hlt] at hb'; cases hb'
        | true =>
          rw [hlt, cond_true, Option.some.injEq] at hb'
          subst hb'
          exact (hother _ (p2 p rfl (Nat.blt_eq.mp hlt)).2.1).2 j o hj)
    have f0 : g' 0 = g c := hb.fix 0 (show 0 < 2 by omega)
    have f1 : g' 1 = g k := hb.fix 1 (show 1 < 2 by omega)
    have hg3 : ∀ j, j < 3 → Eng.upd g k' (g' 2) (r3 c k k' j) = g' j := by
      intro j hj
      match j, hj with
      | 0, _ => show Eng.upd g k' (g' 2) c = _; rw [upd_ne _ _ _ c nck', f0]
      | 1, _ => show Eng.upd g k' (g' 2) k = _; rw [upd_ne _ _ _ k nkk', f1]
      | 2, _ => exact upd_same _ _ _
    have hd4 := hd3.cons (k := c) (so := .cells ty (rens (r3 c k k') cs')) ⟨b, ws, by rw [upd_ne _ _ _ c nck', ← f0, e0], Dens.ren hg3 cs' ws l2 q1, q2, q3, q4, (hother _ q5).1⟩ (fun b' hb' j o hj => by
      rw [upd_ne _ _ _ c nck', ← f0, e0] at hb'
      simp only [blkOf, Option.some.injEq] at hb'
      subst hb'
      simp only [ownq] at hj
      cases hjk : Nat.beq k' j with
      | true =>
        have := beq_true hjk
        subst this
        rw [upd_same]
        intro e3
        have := hinj' 0 2 rfl rfl b (by rw [e0]; rfl) e3
        cases this
      | false =>
        rw [hjk, cond_false] at hj
        rw [upd_ne _ _ _ j (fun e => by rw [e, Nat.beq_refl] at hjk; cases hjk)]
        exact (hother _ q5).2 j o hj)
    exact kk _ _ (At.put hdf hd4 (Den.ren hg3 sv' x l1 hx) fun d e => by rw [e] at hd; exact Nat.blt_eq.mp hd)

/-- A list with room of its own, in an own block, gets another name. -/
theorem at_renameC {m : Md} (c k k' sz i : Nat) {ty : Nat} {cs : List SV} {rows : List (List DV)} (hc : ownq own c = some (.cells ty cs)) (hi : cs[i]? = some (.gl k sz rows)) (hk : ownq own k = some (.tok sz)) (ho : lessK c own (fun o1 => lessK k o1 some) = some own2)
    (kk : Sat E m s (degE k' env) ((c, .cells ty (cs.set i (.gl k' sz rows))) :: (k', .tok sz) :: own2) nx) (hne : Nat.beq c k = false := by rfl) (hck : Nat.beq c k' = false := by rfl)
    (hm : Nat.ble E.cx.m0 k' = true := by rfl) (hE : freshE k' (degE k' env) = true := by rfl) (hO : freshO k' own2 = true := by rfl) (hcs : SV.noKs k' cs = true := by rfl) : Sat E m s env own nx := by
  simp only [lessK_eq, Option.some.injEq] at ho
  have nck := beq_false hne
  have nck' := beq_false hck
  refine sat_mono (fun a w hat => ?_) kk
  obtain ⟨hdf, g, H, hdn⟩ := hat
  have hl2 : ∀ j o, ownq own2 j = some o → j ≠ c ∧ j ≠ k ∧ ownq own j = some o := by
    intro j o hj
    rw [← ho] at hj
    have e1 := rm1_less k (rm1 c own) j o hj
    have e2 := rm1_less c own j o e1.2
    exact ⟨e2.1, e1.1, e2.2⟩
  obtain ⟨b, vs, e0, q1, q2, q3, q4, q5⟩ := hdn.ok c _ hc
  obtain ⟨x, hx, hd⟩ := Dens.get q1 hi
  obtain ⟨hx1, hx2⟩ := hd
  obtain ⟨ad, q, cp, e, p1, hle, p2⟩ := hdn.ok k _ hk
  have hd2 : Dn E.cx g H (degE k' env) own2 E.n a.tmps w := (hdn.le (degE_le k' env) (fun j o hj => (hl2 j o hj).2.2))
  have hdis : ∀ b', blkOf (g k) = some b' → ∀ j o, ownq own2 j = some o → blkOf (g j) ≠ some b' := fun b' hb' j o hj ej =>
    (hl2 j o hj).2.1 (hdn.inj j k (by rw [(hl2 j o hj).2.2]; rfl) (by rw [hk]; rfl) b' ej hb')
  obtain ⟨hd3, hp⟩ := hd2.tok (k := k') (sz := sz) (Nat.le_of_ble_eq_true hm) hE hO hx1 ⟨ad, q, cp, by rw [hx2, e], p1, hle, fun p hpa hlt => by
    obtain ⟨q3, q4, q5⟩ := p2 p hpa hlt
    exact ⟨q3, ⟨q4, hdis _ (by rw [e, hpa]; simp [blkOf, Nat.blt_eq.mpr hlt])⟩, q5⟩⟩
  have hset : ∀ (ds : List SV) (ws : List Value) (i : Nat), Dens (Eng.upd g k' x) H ds ws → ws[i]? = some x → Dens (Eng.upd g k' x) H (ds.set i (.gl k' sz rows)) ws := by
    intro ds
    induction ds with
    | nil =>
      intro ws i h1 h2
      cases ws with
      | nil => simp at h2
      | cons _ _ => exact h1.elim
    | cons d ds ih =>
      intro ws i h1 h2
      cases ws with
      | nil => exact h1.elim
      | cons v ws =>
        cases i with
        | zero =>
          simp only [List.getElem?_cons_zero, Option.some.injEq] at h2
          subst h2
          exact ⟨hp, h1.2⟩
        | succ i => exact ⟨h1.1, ih ws i h1.2 (by simpa using h2)⟩
  have q1' : Dens (Eng.upd g k' x) H cs vs := Dens.upd (k := k') (fun j hj => upd_ne _ _ _ j hj) cs vs hcs q1
  refine ⟨hdf, _, H, hd3.cons (k := c) ⟨b, vs, by rw [upd_ne _ _ _ c nck', e0], hset cs vs i q1' hx, q2, q3, q4, q5⟩ fun b' hb' j o hj => ?_⟩
  rw [upd_ne _ _ _ c nck', e0] at hb'
  simp only [blkOf, Option.some.injEq] at hb'
  subst hb'
  simp only [ownq] at hj
  cases hjk : Nat.beq k' j with
  | true =>
    have := beq_true hjk
    subst this
    rw [upd_same, hx2]
    intro e3
    exact nck (hdn.inj c k (by rw [hc]; rfl) (by rw [hk]; rfl) b (by rw [e0]; rfl) e3)
  | false =>
    rw [hjk, cond_false] at hj
    rw [upd_ne _ _ _ j (fun e => by rw [e, Nat.beq_refl] at hjk; cases hjk)]
    intro e3
    exact (hl2 j o hj).1 (hdn.inj j c (by rw [(hl2 j o hj).2.2]; rfl) (by rw [hc]; rfl) b e3 (by rw [e0]; rfl))
end Go.Eng
/- The proof engine: lists in own blocks of more than one cell; owned slices. -/
namespace Go.Eng
open Go.RowKit

theorem Dens.set {g : Nat → Value} {H : Hp} {x : Value} {s : SV} (hs : Den g H s x) : ∀ (ds : List SV) (ws : List Value) (i : Nat), Dens g H ds ws → ws[i]? = some x → Dens g H (ds.set i s) ws
  | [], [], _, h, _ => h
  | [], _ :: _, _, h, _ => h.elim
  | _ :: _, [], _, h, _ => h.elim
  | d :: ds, v :: ws, 0, h, hx => by
    simp only [List.getElem?_cons_zero, Option.some.injEq] at hx
    subst hx
    exact ⟨hs, h.2⟩
  | d :: ds, v :: ws, i + 1, h, hx => ⟨h.1, Dens.set hs ds ws i h.2 (by simpa using hx)⟩

section
variable {E : Stc} {s : List Fr} {env : List (Nat × SV)} {own own2 : List (Nat × SO)} {nx : List Nat}
/-- A list in an own block gets a name. -/
theorem at_nameI {m : Md} (c k sz i : Nat) {ty sz0 : Nat} {cs : List SV} {rows : List (List DV)} (hc : ownq own c = some (.cells ty cs)) (hi : cs[i]? = some (.tl sz0 rows)) (hs : sz0 = sz ∨ rows = []) (hso : setOwnK c (.cells ty (cs.set i (.gl k sz rows))) own some = some own2)
    (kk : Sat E m s env ((k, .tok sz) :: own2) nx) (hm : Nat.ble E.cx.m0 k = true := by rfl) (hE : freshE k env = true := by rfl) (hO : freshO k own = true := by rfl) (hne : Nat.beq k c = false := by rfl) (hcs : SV.noKs k cs = true := by rfl) : Sat E m s env own nx := by
  rw [setOwnK_eq] at hso
  simp only [Option.some.injEq] at hso
  subst hso
  have hkc : ¬ k = c := fun e => by rw [e, Nat.beq_refl] at hne; cases hne
  refine sat_mono (fun a w hat => ?_) kk
  obtain ⟨hdf, g, H, hdn⟩ := hat
  obtain ⟨b, vs, g1, g2, g3, g4, g5, g6⟩ := hdn.ok c _ hc
  obtain ⟨x, hxi, hxd⟩ := Dens.get g2 hi
  obtain ⟨⟨ad, cp, e, h1, h2, h3⟩, ad', e'⟩ := hxd
  have hx : DenD H (.lst sz rows) x := by
    refine ⟨ad, cp, e, h1, h2, fun p hp => ?_⟩
    rcases hs with rfl | rfl
    · exact h3 p hp
    · exact ⟨.inl rfl, trivial⟩
  have hcp : cp = rows.length := by
    rw [e] at e'
    simp only [Value.slice.injEq, true_and] at e'
    exact e'.2
  obtain ⟨hd3, hp⟩ := hdn.tok (k := k) (sz := sz) (rows := rows) (Nat.le_of_ble_eq_true hm) hE hO hx ⟨ad, rows.length, cp, e, fun h => ⟨by rw [(h2 h).1]; rfl, (h2 h).2⟩, h1, fun p hp hlt => absurd hlt (by omega)⟩
  have hiff : ∀ j, (ownq ((k, SO.tok sz) :: setOwn c (.cells ty (cs.set i (.gl k sz rows))) own) j).isSome = true → (ownq ((k, SO.tok sz) :: own) j).isSome = true := by
    intro j hi
    simp only [ownq] at hi ⊢
    cases hb : Nat.beq k j with
    | true => rfl
    | false =>
      rw [hb, cond_false] at hi
      rw [cond_false]
      rw [ownq_setOwn] at hi
      split at hi
      · rename_i e
        subst e
        rw [hc]; rfl
      · exact hi
  refine ⟨hdf, _, H, { hd3 with ok := fun j o' hj => ?_, inj := fun i j hi hj => hd3.inj i j (hiff i hi) (hiff j hj) }⟩
  simp only [ownq] at hj
  cases hb : Nat.beq k j with
  | true =>
    have hj' : ownq ((k, SO.tok sz) :: own) j = some o' := by simp only [ownq, hb, cond_true]; rw [hb, cond_true] at hj; exact hj
    exact hd3.ok j o' hj'
  | false =>
    rw [hb, cond_false, ownq_setOwn] at hj
    have hjk : j ≠ k := fun e => by rw [e, Nat.beq_refl] at hb; cases hb
    by_cases hjc : j = c
    · subst hjc
      rw [if_pos rfl, hc] at hj
      simp only [Option.map_some, Option.some.injEq] at hj
      subst hj
      exact ⟨b, vs, by rw [upd_ne _ _ _ j hjk]; exact g1, Dens.set hp _ _ i (Dens.upd (k := k) (fun j hj => upd_ne _ _ _ j hj) cs vs hcs g2) hxi, g3, g4, g5, g6⟩
    · rw [if_neg hjc] at hj
      exact hd3.ok j o' (by simp only [ownq, hb, cond_false]; exact hj)
end
end Go.Eng
/- The proof engine, part 17s: regions whose order is drawn, gone through in stages. -/
namespace Go.Eng

/-- The first m operations are done, the others are not. -/
def SatA (E : Stc) (ops : Array Oper) (m : Nat) (s : List Fr) (env : List (Nat × SV)) (own : List (Nat × SO)) : Prop :=
  ∀ (fuel : Nat) (listed : Array Bool) (a : Act) (w : World), listed.size = ops.size → (∀ i, i < m → listed.getD i false = true) → (∀ i, m ≤ i → listed.getD i false = false) → ops.size - m ≤ fuel → At E env own a w → wpAny E.P .any ops (KK E s) fuel listed a w

/-- Each operation from n on stands behind all ahead of n. -/
def barGo (n : Nat) : Nat → List Nat → List Oper → Bool
  | _, _, [] => true
  | i, ms, o :: os => bif (bif Nat.ble n i then Nat.beq (Nat.land (maskOf ms o.after.toList) (Nat.sub (Nat.pow 2 n) 1)) (Nat.sub (Nat.pow 2 n) 1) else true) then barGo n (i + 1) (ms ++ [maskOf ms o.after.toList]) os else false

theorem barGo_spec {all : List Oper} {n : Nat} : ∀ (os : List Oper) (i : Nat) (ms : List Nat), barGo n i ms os = true → ms.length = i → (∀ k, os[k]? = all[i + k]?) → (∀ (k x : Nat), ms[k]? = some x → ∀ j, x.testBit j = true → Reach (fun i => all[i]?) k j) →
    ∀ k o, os[k]? = some o → n ≤ i + k → ∀ j, j < n → Reach (fun i => all[i]?) (i + k) j
  | [], _, _, _, _, _, _, k, o, h => by simp at h
  | x :: xs, i, ms, hs, hl, hall, hm, k, o, h => by
    simp only [barGo] at hs
    cases hc : (bif Nat.ble n i then Nat.beq (Nat.land (maskOf ms x.after.toList) (Nat.sub (Nat.pow 2 n) 1)) (Nat.sub (Nat.pow 2 n) 1) else true) with
    | false => rw [hc] at hs; cases hs
    | true =>
      rw [hc, cond_true] at hs
      have hx : all[i]? = some x := by have := hall 0; simpa using this.symm
      have hmask := maskOf_spec (get := fun i => all[i]?) hm hx x.after.toList (fun _ h => h)
      cases k with
      | zero =>
        intro hn j hj
        rw [Nat.add_zero] at hn ⊢
        rw [Nat.ble_eq_true_of_le hn, cond_true] at hc
        have e : (maskOf ms x.after.toList) &&& (2 ^ n - 1) = 2 ^ n - 1 := beq_true hc
        refine hmask j ?_
        have h2 : (2 ^ n - 1).testBit j = true := by rw [Nat.testBit_two_pow_sub_one]; simpa using hj
        rw [← e, Nat.testBit_and, Bool.and_eq_true] at h2
        exact h2.1
      | succ k =>
        intro hn j hj
        have := barGo_spec xs (i + 1) (ms ++ [maskOf ms x.after.toList]) hs (by simp [hl]) (fun k => by have := hall (k + 1); rw [show i + 1 + k = i + (k + 1) from by omega]; simpa using this) (fun q y hq => by
          by_cases hlt : q < ms.length
          · rw [List.getElem?_append_left hlt] at hq
            exact hm q y hq
          · rw [List.getElem?_append_right (by omega)] at hq
            have : q - ms.length = 0 := by
              cases hz : q - ms.length with
              | zero => rfl
              | succ z => rw [hz] at hq; simp at hq
            rw [this] at hq
            simp only [List.getElem?_cons_zero, Option.some.injEq] at hq
            subst hq
            obtain rfl : q = i := by omega
            exact hmask) k o (by simpa using h) (by omega) j (by omega)
        rw [show i + (k + 1) = i + 1 + k from by omega]
        exact this
def barOk (n : Nat) (all : List Oper) : Bool := barGo n 0 [] all
theorem barOk_spec {n : Nat} {all : List Oper} (h : barOk n all = true) {i : Nat} {o : Oper} (ho : all[i]? = some o) (hn : n ≤ i) {j : Nat} (hj : j < n) : Reach (fun i => all[i]?) i j := by
  have := barGo_spec (all := all) all 0 [] h rfl (fun k => by simp) (fun k x hx => by simp at hx) i o ho (by omega) j (by omega)
  simpa using this

/-- A stage of a region, in whatever order. -/
theorem wpAny_stage (E : Stc) (ops : Array Oper) (pre suf : List Oper) (plan : List PE) (env0 : List (Nat × SV)) (own0 : List (Nat × SO)) (s : List Fr) (m0 : Nat)
    (hops : ops.toList = pre ++ suf) (hlen : plan.length = pre.length) (hdst : dstsOk pre = true) (htil : tilsLt pre.length plan) (hsuf : barOk pre.length (pre ++ suf) = true) (hah : aheadOk 0 (pre ++ suf) = true)
    (cert : ∀ i o p, m0 ≤ i → pre[i]? = some o → plan[i]? = some p → Cert E ops pre plan env0 own0 s i o p)
    (hK : SatA E ops pre.length s (envOf (fun _ => true) 0 pre plan env0) (ownOf (fun _ => true) 0 plan own0)) :
    ∀ (fuel : Nat) (listed : Array Bool) (a : Act) (w : World), listed.size = ops.size →
      (∃ i, i < pre.length ∧ listed.getD i false = false) → (∀ i, i < m0 → listed.getD i false = true) → (∀ i, pre.length ≤ i → listed.getD i false = false) →
          (∀ j oj k, pre[j]? = some oj → listed.getD j false = true → behind oj k = true → listed.getD k false = true) →
          (listed.toList.filter (!·)).length ≤ fuel → At E (envOf (fun i => listed.getD i false) 0 pre plan env0) (ownOf (fun i => listed.getD i false) 0 plan own0) a w →
      wpAny E.P .any ops (KK E s) fuel listed a w := by
  have hget : ∀ i : Nat, ops[i]? = (pre ++ suf)[i]? := fun i => by rw [← hops]; simp
  have hsize : ops.size = pre.length + suf.length := by rw [← Array.length_toList, hops, List.length_append]
  have hd : ∀ (listed : Array Bool) (i : Nat), listed.size = ops.size → i < ops.size → listed.getD i true = listed.getD i false := by
    intro listed i h1 h2
    simp [h1, h2]
  intro fuel
  induction fuel with
  | zero =>
    intro listed a w hls ⟨i, hi, hli⟩ _ _ _ hf _
    · exfalso
      have hil : i < listed.size := by omega
      have : false ∈ listed.toList := by
        have e : listed.getD i false = listed[i] := by simp [hil]
        rw [e] at hli
        rw [← hli]
        exact Array.mem_toList_iff.2 (Array.getElem_mem hil)
      have hm : false ∈ listed.toList.filter (!·) := List.mem_filter.2 ⟨this, rfl⟩
      have := List.length_pos_of_mem hm
      omega
  | succ fuel ih =>
    intro listed a w hls ⟨i, hi, hli⟩ hm0 hsf hcl hf hat
    · -- the first phase
      -- the least that is left may come
      have hleast : ∃ m, m < pre.length ∧ listed.getD m false = false ∧ ∀ j, j < m → listed.getD j false = true := by
        have : ∀ n, n ≤ pre.length → (∀ j, j < n → listed.getD j false = true) ∨ ∃ m, m < n ∧ listed.getD m false = false ∧ ∀ j, j < m → listed.getD j false = true := by
          intro n
          induction n with
          | zero => intro _; exact .inl fun j hj => absurd hj (Nat.not_lt_zero j)
          | succ n ihn =>
            intro hn
            rcases ihn (by omega) with h | ⟨m, hm, h1, h2⟩
            · cases hc : listed.getD n false with
              | true =>
                refine .inl fun j hj => ?_
                rcases Nat.lt_or_ge j n with h' | h'
                · exact h j h'
                · have : j = n := by omega
                  subst this
                  exact hc
              | false => exact .inr ⟨n, by omega, hc, h⟩
            · exact .inr ⟨m, by omega, h1, h2⟩
        rcases this pre.length (Nat.le_refl _) with h | ⟨m, hm, h1, h2⟩
        · rw [h i hi] at hli; cases hli
        · exact ⟨m, hm, h1, h2⟩
      obtain ⟨m, hm, hlm, hbm⟩ := hleast
      have hom : ops[m]? = some pre[m] := by
        rw [hget, List.getElem?_append_left hm]
        exact List.getElem?_eq_getElem hm
      have hmr : m ∈ Region.ready .any ops listed := by
        refine ready_iff.2 ⟨by rw [hd listed m hls (by omega)]; exact hlm, pre[m], hom, fun j hj => hbm j ?_⟩
        have := aheadOk_spec (pre ++ suf) 0 m pre[m] hah (by rw [← hget]; exact hom) j hj
        omega
      refine ⟨fun h0 => (by rw [h0] at hmr; cases hmr), fun j hj => ?_⟩
      obtain ⟨hj1, o, ho, hb⟩ := ready_iff.1 hj
      have hjl : j < ops.size := (Array.getElem?_eq_some_iff.1 ho).1
      rw [hd listed j hls hjl] at hj1
      have hjp : j < pre.length := by
        rcases Nat.lt_or_ge j pre.length with h | h
        · exact h
        · exfalso
          have hoj0 : (pre ++ suf)[j]? = some o := by rw [← hget]; exact ho
          have := reach_listed (get := fun i => (pre ++ suf)[i]?) (L := fun i => listed.getD i false) (fun i o k' hi hL hb' => by
            rcases Nat.lt_or_ge i pre.length with h' | h'
            · rw [List.getElem?_append_left h'] at hi
              exact hcl i o k' hi hL hb'
            · simp only [hsf i h'] at hL
              cases hL) (barOk_spec hsuf hoj0 h hm) (fun o' ho' k' hk' => by
            rw [hoj0] at ho'
            cases ho'
            exact hb k' hk')
          simp only [hlm] at this
          cases this
      have hoj : pre[j]? = some o := by
        rw [hget, List.getElem?_append_left hjp] at ho
        exact ho
      have hpj : plan[j]? = some plan[j] := List.getElem?_eq_getElem (by omega)
      have hjm : m0 ≤ j := by
        rcases Nat.lt_or_ge j m0 with h | h
        · rw [hm0 j h] at hj1; cases hj1
        · exact h
      have hc := cert j o plan[j] hjm hoj hpj (fun i => listed.getD i false) hj1 hb hcl a w hat
      refine wpOp_mono (fun a' w' hat' => ?_) hc
      have hsel : ∀ i, i < pre.length → (listed.setIfInBounds j true).getD i false = add (fun i => listed.getD i false) j i := by
        intro i hip
        by_cases e : i = j
        · subst e
          have : i < listed.size := by omega
          simp [this, add]
        · rw [getD_set_ne false (Ne.symm e)]
          have : Nat.beq i j = false := by
            cases hb : Nat.beq i j with
            | false => rfl
            | true => exact absurd (beq_true hb) e
          simp [add, this]
      have hat2 : At E (envOf (fun i => (listed.setIfInBounds j true).getD i false) 0 pre plan env0) (ownOf (fun i => (listed.setIfInBounds j true).getD i false) 0 plan own0) a' w' := by
        rw [envOf_congr (sel' := add (fun i => listed.getD i false) j) pre plan 0 env0 (fun i _ hi => hsel i (by omega)), ownOf_congr (sel' := add (fun i => listed.getD i false) j) hsel plan 0 own0 htil (by omega)]
        refine at_le hat' ?_ fun _ _ h => h
        have := envOf_add (sel := fun i => listed.getD i false) pre plan 0 j env0 o plan[j] hdst hoj hpj
        rw [Nat.zero_add] at this
        exact this
      have hcount : ((listed.setIfInBounds j true).toList.filter (!·)).length ≤ fuel := by
        have hjls : j < listed.toList.length := by simpa using (by omega : j < listed.size)
        have e1 : (listed.setIfInBounds j true).toList = listed.toList.set j true := by simp
        have e2 : listed.toList = listed.toList.take j ++ listed.toList[j] :: listed.toList.drop (j + 1) := by
          rw [← List.drop_eq_getElem_cons hjls, List.take_append_drop]
        have e3 : listed.toList.set j true = listed.toList.take j ++ true :: listed.toList.drop (j + 1) := List.set_eq_take_append_cons_drop.trans (if_pos hjls)
        have e4 : listed.toList[j] = false := by
          have : listed.getD j false = listed[j]'(by omega) := by simp [show j < listed.size by omega]
          rw [this] at hj1
          simpa using hj1
        rw [e1, e3]
        rw [e2, e4] at hf
        simp only [List.filter_append, List.filter_cons, List.length_append] at hf ⊢
        simp at hf ⊢
        omega
      by_cases hall : ∃ i, i < pre.length ∧ (listed.setIfInBounds j true).getD i false = false
      · refine ih _ a' w' (by simpa using hls) hall (fun i hi => getD_set_true (hm0 i hi)) (fun i hi => by rw [getD_set_ne false (by omega)]; exact hsf i hi) (fun i oi k hoi hli hk => ?_) hcount hat2
        by_cases e : i = j
        · subst e
          rw [hoj] at hoi
          cases hoi
          exact getD_set_true (hb k hk)
        · rw [getD_set_ne false (Ne.symm e)] at hli
          exact getD_set_true (hcl i oi k hoi hli hk)
      · have hle : ops.size - pre.length ≤ fuel := by
          have hle : suf.length ≤ ((listed.setIfInBounds j true).toList.filter (!·)).length := by
            have e5 : (listed.setIfInBounds j true).toList.drop pre.length = List.replicate suf.length false := by
              apply List.ext_getElem?
              intro i
              rw [List.getElem?_drop, List.getElem?_replicate]
              by_cases hi : i < suf.length
              · rw [if_pos hi]
                have hlt : pre.length + i < (listed.setIfInBounds j true).size := by simp; omega
                have : (listed.setIfInBounds j true).getD (pre.length + i) false = false := by
                  rw [getD_set_ne false (by omega)]; exact hsf _ (by omega)
                rw [Array.getElem?_toList, Array.getElem?_eq_getElem hlt]
                have e6 : (listed.setIfInBounds j true).getD (pre.length + i) false = (listed.setIfInBounds j true)[pre.length + i] := by
                  rw [Array.getD_eq_getD_getElem?, Array.getElem?_eq_getElem hlt]; rfl
                rw [← e6, this]
              · rw [if_neg hi]
                apply List.getElem?_eq_none
                simp
                omega
            have e7 : ((listed.setIfInBounds j true).toList.filter (!·)).length = (((listed.setIfInBounds j true).toList.take pre.length).filter (!·)).length + (((listed.setIfInBounds j true).toList.drop pre.length).filter (!·)).length := by
              rw [← List.length_append, ← List.filter_append, List.take_append_drop]
            rw [e7, e5]
            simp
          omega
        have htrue : ∀ i, i < pre.length → (listed.setIfInBounds j true).getD i false = true := fun i hi => by
          cases hc : (listed.setIfInBounds j true).getD i false with
          | true => rfl
          | false => exact absurd ⟨i, hi, hc⟩ hall
        refine hK fuel _ a' w' (by simpa using hls) htrue (fun i hi => by rw [getD_set_ne false (by omega)]; exact hsf i hi) hle ?_
        rw [envOf_congr (sel' := fun i => (listed.setIfInBounds j true).getD i false) pre plan 0 env0 (fun i _ hi => (htrue i (by omega)).symm), ownOf_congr (sel' := fun i => (listed.setIfInBounds j true).getD i false) (N := pre.length) (fun i hi => (htrue i hi).symm) plan 0 own0 htil (by omega)]
        exact hat2

/-- What is done already, as a part of a plan. -/
def dums (env0 : List (Nat × SV)) : List Oper → List PE
  | [] => []
  | o :: os => ⟨match o.dst with | some d => nth env0 d | none => .any, [], none, none, false⟩ :: dums env0 os
theorem dums_len (env0 : List (Nat × SV)) : ∀ l, (dums env0 l).length = l.length
  | [] => rfl
  | _ :: l => by simp [dums, dums_len env0 l]

def dumsK {α : Type} (env0 : List (Nat × SV)) : List Oper → (List PE → α) → α
  | [], k => k []
  | o :: os, k => dumsK env0 os fun r => match o.dst with
    | some d => nthK d (fun s => k (⟨s, [], none, none, false⟩ :: r)) env0
    | none => k (⟨.any, [], none, none, false⟩ :: r)
theorem dumsK_eq {α : Type} (env0 : List (Nat × SV)) : ∀ (l : List Oper) (k : List PE → α), dumsK env0 l k = k (dums env0 l)
  | [], _ => rfl
  | o :: os, k => by
    simp only [dumsK, dums, dumsK_eq env0 os]
    cases o.dst with
    | some d => simp only [nthK_eq]
    | none => rfl

/-- A stage: from m0 done to m1 done. -/
def planS (P : Program) (T : Nat → TI) (mm n : Nat) (all : List Oper) (m0 : Nat) (pre0 pre1 pre : List Oper) (ans : List (Nat × Ans)) (env0 : List (Nat × SV)) (own0 : List (Nat × SO)) (nx st : List Nat) : PlanR :=
  bif dstsOk pre then
    bif barOk pre.length all then
      bif aheadOk 0 all then
        rmOK st own0 fun ownR => dumsK env0 pre0 fun ds => planK P T mm n all pre ans env0 ownR own0 m0 pre1 ds nx [] fun ps ob =>
          bif newOk own0 ps && (disO ownR ps && (eatOk own0 ps && eatU ps)) then
            bif freshP mm pre ps env0 own0 0 ps then
              bif tilsB pre ps 0 ps then
                envOfK (fun _ => true) 0 pre ps env0 fun env => ownOfK ps own0 fun own => .ok ps env own ob
              else .stuck 105
            else .stuck 104
          else .stuck 103
      else .stuck 102
    else .stuck 101
  else .stuck 100

theorem satA_mono {E : Stc} {ops : Array Oper} {m : Nat} {s : List Fr} {env env' : List (Nat × SV)} {own own' : List (Nat × SO)} (h : ∀ a w, At E env own a w → At E env' own' a w) (k : SatA E ops m s env' own') : SatA E ops m s env own :=
  fun fuel listed a w h1 h2 h3 h4 hat => k fuel listed a w h1 h2 h3 h4 (h a w hat)

/-- At the front of a region. -/
theorem at_stages {E : Stc} {id : Nat} {ops : Array Oper} {s : List Fr} {env : List (Nat × SV)} {own : List (Nat × SO)} {nx : List Nat} (h : SatA E ops 0 s env own) (hm : E.P.follows .mixedOrders = true := by rfl) : Sat E (.code (.region id ops true)) s env own nx := by
  intro a w hat
  refine wp_region_any hm ?_
  refine h ops.size _ a w.drew (by simp) (fun i hi => absurd hi (Nat.not_lt_zero i)) (fun i _ => ?_) (by omega) ?_
  · rw [Array.getD_eq_getD_getElem?, Array.getElem?_replicate]
    split <;> rfl
  · obtain ⟨hdf, g, H, hd⟩ := hat
    exact ⟨hdf, g, H, hd.drew⟩

/-- At the end of a region. -/
theorem at_stage_end {E : Stc} {ops : Array Oper} {m : Nat} {s : List Fr} {env : List (Nat × SV)} {own : List (Nat × SO)} (nx : List Nat) (hm : m = ops.size) (h : Sat E .norm s env own nx) : SatA E ops m s env own := by
  subst hm
  intro fuel listed a w hls h1 _ _ hat
  have hr : Region.ready .any ops listed = [] := by
    apply List.eq_nil_iff_forall_not_mem.2
    intro j hj
    obtain ⟨hj1, o, ho, _⟩ := ready_iff.1 hj
    have hlt : j < ops.size := (Array.getElem?_eq_some_iff.1 ho).1
    have := h1 j hlt
    have e : listed.getD j true = listed.getD j false := by simp [hls, hlt]
    rw [e, this] at hj1
    cases hj1
  cases fuel with
  | zero => exact ⟨hr, h a w hat⟩
  | succ fuel => exact ⟨fun _ => h a w hat, by rw [hr]; simp⟩

theorem envOf_dums {E : List (Nat × SV)} : ∀ (l : List Oper) (ps : List PE) (i0 _m : Nat) (sel : Nat → Bool) (env : List (Nat × SV)), (∀ i p, ps[i]? = some p → sel (i0 + i) = true → ∀ o d, l[i]? = some o → o.dst = some d → SVle (nth E d) p.sv) → leE E env → leE E (envOf sel i0 l ps env)
  | [], _, _, _, _, env, _, h => by simpa [envOf] using h
  | o :: os, [], i0, m, sel, env, hp, h => by
    intro t
    simp only [envOf, nth_put]
    split
    · exact SVle.any _
    · exact envOf_dums os [] (i0 + 1) m sel env (fun i p hq => by simp at hq) h t
  | o :: os, p :: ps, i0, m, sel, env, hp, h => by
    intro t
    simp only [envOf, nth_put]
    split
    · rename_i hd
      cases hs : sel i0 with
      | false => exact SVle.any _
      | true => exact hp 0 p rfl (by simpa using hs) o t rfl hd
    · exact envOf_dums os ps (i0 + 1) m sel env (fun i q hq hsel o' d ho' hd' => hp (i + 1) q (by simpa using hq) (by rw [show i0 + (i + 1) = i0 + 1 + i from by omega]; exact hsel) o' d (by simpa using ho') hd') h t

theorem ownOf_none {sel : Nat → Bool} : ∀ (ps : List PE) (i0 : Nat) (own : List (Nat × SO)), (∀ i p, ps[i]? = some p → sel (i0 + i) = true → p.new = [] ∧ p.eats = none) → ownOf sel i0 ps own = own
  | [], _, _, _ => rfl
  | p :: ps, i0, own, h => by
    simp only [ownOf]
    have h1 := h 0 p rfl
    have ih := fun own => ownOf_none (sel := sel) ps (i0 + 1) own (fun i q hq hs => h (i + 1) q (by simpa using hq) (by rw [show i0 + (i + 1) = i0 + 1 + i from by omega]; exact hs))
    cases hs : sel i0 with
    | false => simp [ih]
    | true =>
      obtain ⟨h2, h3⟩ := h1 (by simpa using hs)
      rw [h2, h3]
      cases tilOk sel p.til <;> simp [eatO, ih]

theorem dums_get (env0 : List (Nat × SV)) : ∀ (l : List Oper) (i : Nat) (o : Oper), l[i]? = some o → (dums env0 l)[i]? = some ⟨match o.dst with | some d => nth env0 d | none => .any, [], none, none, false⟩
  | [], _, _, h => by simp at h
  | x :: xs, 0, o, h => by
    simp only [List.getElem?_cons_zero, Option.some.injEq] at h
    subst h
    rfl
  | x :: xs, i + 1, o, h => by
    simp only [dums, List.getElem?_cons_succ]
    exact dums_get env0 xs i o (by simpa using h)

theorem at_stageG {E : Stc} {ops : Array Oper} {s : List Fr} {env : List (Nat × SV)} {own : List (Nat × SO)} {all pre0 pre1 suf : List Oper} {ps : List PE} {env' : List (Nat × SV)} {own' : List (Nat × SO)} {ob : List Prop} {m0 m1 : Nat}
    (st : List Nat) (hall : ops.toList = all) (hsplit : all = (pre0 ++ pre1) ++ suf) (h0 : pre0.length = m0) (h01 : (pre0 ++ pre1).length = m1) (ans : List (Nat × Ans)) (nx0 : List Nat) (h : planS E.P E.T E.cx.m0 E.n all m0 pre0 pre1 (pre0 ++ pre1) ans env own nx0 st = .ok ps env' own' ob) (ho : All ob)
    (hS : SatA E ops m1 s env' own') : SatA E ops m0 s env own := by
  subst hall
  generalize hpre : pre0 ++ pre1 = pre at h hsplit h01
  unfold planS at h
  cases h1 : dstsOk pre with
  | false => simp [h1] at h
  | true =>
    cases h2 : barOk pre.length ops.toList with
    | false => simp [h1, h2] at h
    | true =>
      cases h3 : aheadOk 0 ops.toList with
      | false => simp [h1, h2, h3] at h
      | true =>
        simp only [h1, h2, h3, cond_true, envOfK_eq, ownOfK_eq 0, rmOK_eq, dumsK_eq] at h
        have key := planK_sound E ops.toList pre ans env (rmO st own) own _ ps env' own' ob ((newOk own ps && (disO (rmO st own) ps && (eatOk own ps && eatU ps))) = true ∧ freshP E.cx.m0 pre ps env own 0 ps = true ∧ tilsB pre ps 0 ps = true ∧ env' = envOf (fun _ => true) 0 pre ps env ∧ own' = ownOf (fun _ => true) 0 ps own) (fun qs ob1 hq ha => by
          cases h4 : (newOk own qs && (disO (rmO st own) qs && (eatOk own qs && eatU qs))) with
          | false => simp [h4] at hq
          | true =>
            cases h5 : freshP E.cx.m0 pre qs env own 0 qs with
            | false => simp [h4, h5] at hq
            | true =>
              cases h6 : tilsB pre qs 0 qs with
              | false => simp [h4, h5, h6] at hq
              | true =>
                simp only [h4, h5, h6, cond_true, PlanR.ok.injEq] at hq
                obtain ⟨e1, e2, e3, e4⟩ := hq
                subst e1; subst e4
                exact ⟨rfl, ha, h4, h5, h6, e2.symm, e3.symm⟩) pre1 m0 (dums env pre0) nx0 [] (by rw [dums_len, h0]) h ho
        obtain ⟨_, ⟨q, hq⟩, hlen0, hlocs, hn, hf, htl, e1, e2⟩ := key
        have hlp : pre.length = m0 + pre1.length := by rw [← hpre, List.length_append, h0]
        have hlen : ps.length = pre.length := by rw [hlen0, hlp]
        rw [Bool.and_eq_true, Bool.and_eq_true, Bool.and_eq_true] at hn
        obtain ⟨hn, hdis, heat, hu⟩ := hn
        subst e1; subst e2
        have hget : ∀ i, m0 ≤ i → pre[i]? = pre1[i - m0]? := fun i hi => by rw [← hpre, List.getElem?_append_right (by omega), h0]
        have cert : ∀ i o p, m0 ≤ i → pre[i]? = some o → ps[i]? = some p → Cert E ops pre ps env own s i o p := by
          intro i o p hi hio hip
          obtain ⟨hd, p', hp', hl⟩ := locs_get pre1 m0 (i - m0) o hlocs (by rw [← hget i hi]; exact hio)
          rw [show m0 + (i - m0) = i from by omega] at hp' hl
          rw [hip] at hp'
          cases hp'
          exact cert_of_loc hsplit hlen (fun k o h => rmO_own h) hdis hn heat hu (by rw [← hsplit]; exact h3) hf hio hip hd hl
        have htl' : tilsLt pre.length ps := fun p hp j hj => by
          obtain ⟨i, hi⟩ := List.getElem?_of_mem hp
          exact (tilsB_spec ps 0 i p j htl hi hj).1
        have hsz : ops.size = pre.length + suf.length := by rw [← Array.length_toList, hsplit, List.length_append]
        intro fuel listed a w hls hl1 hl2 hfu hat
        have hat' : At E (envOf (fun i => listed.getD i false) 0 pre ps env) (ownOf (fun i => listed.getD i false) 0 ps own) a w := by
          have hdum : ∀ i p, ps[i]? = some p → listed.getD i false = true → i < m0 ∧ ∃ o, pre0[i]? = some o ∧ p = ⟨match o.dst with | some d => nth env d | none => .any, [], none, none, false⟩ := by
            intro i p hp hs
            have hi : i < m0 := by
              rcases Nat.lt_or_ge i m0 with h | h
              · exact h
              · rw [hl2 i h] at hs; cases hs
            refine ⟨hi, pre0[i]'(by omega), List.getElem?_eq_getElem _, ?_⟩
            rw [hq, List.getElem?_append_left (by rw [dums_len]; omega), dums_get env pre0 i _ (List.getElem?_eq_getElem (by omega))] at hp
            exact (Option.some.inj hp).symm
          refine at_le hat ?_ ?_
          · refine envOf_dums pre ps 0 m0 _ env (fun i p hp hs o d hio hd => ?_) (fun _ => SVle.refl _)
            rw [Nat.zero_add] at hs
            obtain ⟨hi, o', ho', rfl⟩ := hdum i p hp hs
            have : pre[i]? = some o' := by rw [← hpre, List.getElem?_append_left (by omega)]; exact ho'
            rw [this] at hio
            cases hio
            rw [hd]
            exact SVle.refl _
          · rw [ownOf_none ps 0 own (fun i p hp hs => by
              rw [Nat.zero_add] at hs
              obtain ⟨_, o', _, rfl⟩ := hdum i p hp hs
              exact ⟨rfl, rfl⟩)]
            exact fun _ _ h => h
        have hS' : SatA E ops pre.length s (envOf (fun _ => true) 0 pre ps env) (ownOf (fun _ => true) 0 ps own) := by rw [h01]; exact hS
        by_cases hp1 : pre1.length = 0
        · -- nothing is to be done
          have e : pre.length = m0 := by omega
          refine hS' fuel listed a w hls (fun i hi => hl1 i (by omega)) (fun i hi => hl2 i (by omega)) (by omega) ?_
          rw [envOf_congr (sel' := fun i => listed.getD i false) pre ps 0 env (fun i _ hi => (hl1 i (by omega)).symm), ownOf_congr (sel' := fun i => listed.getD i false) (N := pre.length) (fun i hi => (hl1 i (by omega)).symm) ps 0 own htl' (by omega)]
          exact hat'
        · refine wpAny_stage E ops pre suf ps env own s m0 hsplit hlen h1 htl' (by rw [← hsplit]; exact h2) (by rw [← hsplit]; exact h3) cert hS' fuel listed a w hls ⟨m0, by omega, hl2 m0 (Nat.le_refl _)⟩ hl1 (fun i hi => hl2 i (by omega)) (fun j oj k hoj hj hb => ?_) ?_ hat'
          · have hjm : j < m0 := by
              rcases Nat.lt_or_ge j m0 with h | h
              · exact h
              · rw [hl2 j h] at hj; cases hj
            have hjl : j < pre.length := by omega
            have := aheadOk_spec ops.toList 0 j oj h3 (by rw [hsplit, List.getElem?_append_left hjl]; exact hoj) k hb
            exact hl1 k (by omega)
          · have e5 : listed.toList = List.replicate m0 true ++ List.replicate (ops.size - m0) false := by
              apply List.ext_getElem?
              intro i
              rw [Array.getElem?_toList, List.getElem?_append, List.length_replicate, List.getElem?_replicate, List.getElem?_replicate]
              by_cases hi : i < ops.size
              · have e6 : listed.getD i false = listed[i]'(by omega) := by rw [Array.getD_eq_getD_getElem?, Array.getElem?_eq_getElem (by omega)]; rfl
                rw [Array.getElem?_eq_getElem (by omega), ← e6]
                by_cases hm : i < m0
                · rw [if_pos hm, if_pos hm, hl1 i hm]
                · rw [if_neg hm, if_pos (by omega), hl2 i (by omega)]
              · rw [Array.getElem?_eq_none (by omega)]
                by_cases hm : i < m0
                · omega
                · rw [if_neg hm, if_neg (by omega)]
            rw [e5]
            simpa using hfu

/-- A stage whose operations come in whatever order: from m0 on up to m1; st: which own blocks are written. -/
theorem at_stage {E : Stc} {ops : Array Oper} {s : List Fr} {env : List (Nat × SV)} {own : List (Nat × SO)} {all pre0 pre1 rest suf : List Oper} {ps : List PE} {env' : List (Nat × SV)} {own' : List (Nat × SO)} {ob : List Prop} {m0 m1 : Nat}
    (d : Nat) (st : List Nat) (hall : ops.toList = all) (hs0 : splitK m0 all Prod.mk = (pre0, rest)) (hs1 : splitK d rest Prod.mk = (pre1, suf)) (h0 : pre0.length = m0) (h01 : (pre0 ++ pre1).length = m1) (ans : List (Nat × Ans)) (nx0 : List Nat)
    (h : planS E.P E.T E.cx.m0 E.n all m0 pre0 pre1 (pre0 ++ pre1) ans env own nx0 st = .ok ps env' own' ob) (ho : All ob) (hS : SatA E ops m1 s env' own') : SatA E ops m0 s env own :=
  at_stageG st hall (by rw [splitK_pair hs0, splitK_pair hs1, List.append_assoc]) h0 h01 ans nx0 h ho hS

theorem letsOut_then {Q : Exit → Act → World → Prop} {A : Act → World → Prop} (h : LetsOut (Exit.then A Q)) : LetsOut Q := h

theorem wp_then {P : Program} {o : Oper} {a : Act} {w : World} {A : Act → World → Prop} {K K' : Act → World → Prop} {Q : Exit → Act → World → Prop} (h : ∀ a w, K a w → K' a w) (hh : o.wp P a w K (Exit.then A Q)) : o.wp P a w K' Q := by
  have h2 := Oper.wp_mono h hh
  unfold Oper.wp at *
  generalize (execOp a.eval o).run P w = r at *
  cases r with
  | ok n w' =>
    cases n <;> simp only [Oper.upon] at h2 ⊢ <;>
      first
        | exact h2
        | exact Calls.mono h2 (fun e w'' he => by cases e <;> exact he)
  | halt x w' => cases x <;> simp only [Oper.upon] at h2 ⊢ <;> exact h2

/-- One operation that all others wait for. -/
theorem at_forced {E : Stc} {ops : Array Oper} {s : List Fr} {env : List (Nat × SV)} {own : List (Nat × SO)} (nx : List Nat) {all pre0 suf : List Oper} {o : Oper} {m0 : Nat} {α : Type} (φ : α → Prop) (σ : α → List (Nat × SV)) (τ : α → List (Nat × SO))
    (hall : ops.toList = all) (hs0 : splitK m0 all Prod.mk = (pre0, o :: suf)) (h0 : pre0.length = m0) (hbar : barOk (m0 + 1) all = true) (hah : aheadOk 0 all = true)
    (h : Sat E (.ops all [o]) (.lp (Joined φ σ τ) :: s) env own nx) (k : ∀ y, φ y → SatA E ops (m0 + 1) s (σ y) (τ y)) : SatA E ops m0 s env own := by
  subst hall
  have hsp := splitK_pair hs0
  have hget : ∀ i : Nat, ops[i]? = ops.toList[i]? := fun i => by simp
  have hop : ops[m0]? = some o := by
    rw [hget, hsp, List.getElem?_append_right (by omega), h0, Nat.sub_self]
    rfl
  have hm : m0 < ops.size := (Array.getElem?_eq_some_iff.1 hop).1
  intro fuel listed a w hls hl1 hl2 hfu hat
  have hd : ∀ i, i < ops.size → listed.getD i true = listed.getD i false := fun i hi => by simp [hls, hi]
  have hready : ∀ j, j ∈ Region.ready .any ops listed ↔ j = m0 := by
    intro j
    rw [ready_iff]
    constructor
    · rintro ⟨hj1, o', ho, hb⟩
      have hjl : j < ops.size := (Array.getElem?_eq_some_iff.1 ho).1
      rw [hd j hjl] at hj1
      have hge : m0 ≤ j := by
        rcases Nat.lt_or_ge j m0 with h | h
        · rw [hl1 j h] at hj1; cases hj1
        · exact h
      rcases Nat.lt_or_ge m0 j with h | h
      · exfalso
        have hoj0 : ops.toList[j]? = some o' := by rw [← hget]; exact ho
        have := reach_listed (get := fun i => ops.toList[i]?) (L := fun i => listed.getD i false) (fun i oi k' hi hL hb' => hl1 k' (by
          have hlt' := aheadOk_spec ops.toList 0 i oi hah hi k' hb'
          rcases Nat.lt_or_ge i m0 with h' | h'
          · omega
          · simp only [hl2 i h'] at hL
            cases hL)) (barOk_spec hbar hoj0 (by omega) (Nat.lt_succ_self m0)) (fun o'' ho' k' hk' => by
          rw [hoj0] at ho'
          cases ho'
          exact hb k' hk')
        simp only [hl2 _ (Nat.le_refl _)] at this
        cases this
      · omega
    · rintro rfl
      refine ⟨by rw [hd _ hm]; exact hl2 _ (Nat.le_refl _), o, hop, fun j hj => hl1 j ?_⟩
      have := aheadOk_spec ops.toList 0 j.succ.pred
      have := aheadOk_spec ops.toList 0 _ o hah (by rw [← hget]; exact hop) j hj
      omega
  cases fuel with
  | zero => omega
  | succ fuel =>
    refine ⟨fun e => ?_, fun j hj => ?_⟩
    · have := (hready m0).2 rfl
      rw [e] at this
      cases this
    · obtain rfl := (hready j).1 hj
      have hw := h a w hat
      have key : ∀ a w, KK E (.lp (Joined φ σ τ) :: s) .normal a w → wpAny E.P .any ops (KK E s) fuel (listed.setIfInBounds j true) a w := by
        rintro a w ⟨env1, own1, ⟨y, hy, he, ho⟩, hat1⟩
        refine k y hy fuel _ a w (by simpa using hls) (fun i hi => ?_) (fun i hi => ?_) (by omega) (at_sub hat1 he ho)
        · by_cases e : i = j
          · subst e
            have : i < listed.size := by omega
            simp [this]
          · rw [getD_set_ne false (Ne.symm e)]; exact hl1 i (by omega)
        · rw [getD_set_ne false (by omega)]; exact hl2 i (by omega)
      unfold wpOp
      rw [hop]
      simp only
      unfold wpList at hw
      rw [Array.toArray_toList] at hw
      split
      · rename_i hwant
        rw [if_pos hwant] at hw
        exact hw.imp (wp_then key) (fun h => ⟨h.1, letsOut_then h.2⟩)
      · rename_i hwant
        rw [if_neg hwant] at hw
        exact key _ _ hw

/-- Between stages the state may be looked at in other words. -/
theorem at_between {E : Stc} {ops : Array Oper} {m : Nat} {s : List Fr} {env : List (Nat × SV)} {own : List (Nat × SO)} (nx : List Nat) {α : Type} (φ : α → Prop) (σ : α → List (Nat × SV)) (τ : α → List (Nat × SO))
    (h : Sat E .norm (.lp (Joined φ σ τ) :: s) env own nx) (k : ∀ y, φ y → SatA E ops m s (σ y) (τ y)) : SatA E ops m s env own := by
  intro fuel listed a w h1 h2 h3 h4 hat
  obtain ⟨env1, own1, ⟨y, hy, he, ho⟩, hat1⟩ := h a w hat
  exact k y hy fuel listed a w h1 h2 h3 h4 (at_sub hat1 he ho)

end Go.Eng
/- The proof engine: slices whose cells are owned. -/
namespace Go.Eng
open Go.RowKit

variable {E : Stc} {all rest : List Oper} {o : Oper} {s : List Fr} {env : List (Nat × SV)} {own own2 : List (Nat × SO)} {nx : List Nat}

theorem SVle.arr (k n : Nat) : SVle (.arr k n) (.sl k 0 n n) := fun _ _ _ h => .inl h

/-- A list that has nothing may be owned. -/
theorem at_nilS {m : Md} (t k : Nat) {sz : Nat} (ht : nth env t = .tl sz []) (kk : Sat E m s ((t, .sl k 0 0 0) :: env) ((k, .buf [] 0) :: own) nx)
    (hm : Nat.ble E.cx.m0 k = true := by rfl) (hE : freshE k env = true := by rfl) (hO : freshO k own = true := by rfl) : Sat E m s env own nx := by
  refine sat_mono (fun a w hat => ?_) kk
  obtain ⟨hdf, g, H, hdn⟩ := hat
  have hd2 := hdn.bind (k := k) (x := .pointer none) (so := .buf [] 0) (Nat.le_of_ble_eq_true hm) hE hO (.inr ⟨upd_same _ _ _, rfl⟩) (fun b hb => by cases hb)
  refine ⟨hdf, _, H, { hd2 with den := fun i => ?_ }⟩
  simp only [nth]
  cases hb : Nat.beq t i with
  | true =>
    rw [← beq_true hb]
    have := hdn.den t
    rw [ht] at this
    obtain ⟨_, ad, e⟩ := this
    exact .inr ⟨rfl, rfl, rfl, upd_same _ _ _, ad, e⟩
  | false => exact hd2.den i

/-- The same, in an own block. -/
theorem at_nilSI {m : Md} (c k i : Nat) {ty sz : Nat} {cs : List SV} (hc : ownq own c = some (.cells ty cs)) (hi : cs[i]? = some (.tl sz [])) (hso : setOwnK c (.cells ty (cs.set i (.sl k 0 0 0))) own some = some own2)
    (kk : Sat E m s env ((k, .buf [] 0) :: own2) nx) (hm : Nat.ble E.cx.m0 k = true := by rfl) (hE : freshE k env = true := by rfl) (hO : freshO k own = true := by rfl) (hne : Nat.beq k c = false := by rfl) (hcs : SV.noKs k cs = true := by rfl) : Sat E m s env own nx := by
  rw [setOwnK_eq] at hso
  simp only [Option.some.injEq] at hso
  subst hso
  have hkc : ¬ k = c := fun e => by rw [e, Nat.beq_refl] at hne; cases hne
  refine sat_mono (fun a w hat => ?_) kk
  obtain ⟨hdf, g, H, hdn⟩ := hat
  obtain ⟨b, vs, g1, g2, g3, g4, g5, g6⟩ := hdn.ok c _ hc
  obtain ⟨x, hxi, hxd⟩ := Dens.get g2 hi
  obtain ⟨_, ad, e⟩ := hxd
  have hd3 := hdn.bind (k := k) (x := .pointer none) (so := .buf [] 0) (Nat.le_of_ble_eq_true hm) hE hO (.inr ⟨upd_same _ _ _, rfl⟩) (fun b hb => by cases hb)
  have hp : Den (Eng.upd g k (.pointer none)) H (.sl k 0 0 0) x := .inr ⟨rfl, rfl, rfl, upd_same _ _ _, ad, e⟩
  have hiff : ∀ j, (ownq ((k, SO.buf [] 0) :: setOwn c (.cells ty (cs.set i (.sl k 0 0 0))) own) j).isSome = true → (ownq ((k, SO.buf [] 0) :: own) j).isSome = true := by
    intro j hi
    simp only [ownq] at hi ⊢
    cases hb : Nat.beq k j with
    | true => rfl
    | false =>
      rw [hb, cond_false] at hi
      rw [cond_false]
      rw [ownq_setOwn] at hi
      split at hi
      · rename_i e
        subst e
        rw [hc]; rfl
      · exact hi
  refine ⟨hdf, _, H, { hd3 with ok := fun j o' hj => ?_, inj := fun i j hi hj => hd3.inj i j (hiff i hi) (hiff j hj) }⟩
  simp only [ownq] at hj
  cases hb : Nat.beq k j with
  | true =>
    have hj' : ownq ((k, SO.buf [] 0) :: own) j = some o' := by simp only [ownq, hb, cond_true]; rw [hb, cond_true] at hj; exact hj
    exact hd3.ok j o' hj'
  | false =>
    rw [hb, cond_false, ownq_setOwn] at hj
    have hjk : j ≠ k := fun e => by rw [e, Nat.beq_refl] at hb; cases hb
    by_cases hjc : j = c
    · subst hjc
      rw [if_pos rfl, hc] at hj
      simp only [Option.map_some, Option.some.injEq] at hj
      subst hj
      exact ⟨b, vs, by rw [upd_ne _ _ _ j hjk]; exact g1, Dens.set hp _ _ i (Dens.upd (k := k) (fun j hj => upd_ne _ _ _ j hj) cs vs hcs g2) hxi, g3, g4, g5, g6⟩
    · rw [if_neg hjc] at hj
      exact hd3.ok j o' (by simp only [ownq, hb, cond_false]; exact hj)

/-- A place of an owned slice. -/
theorem does_indexS {P : Program} {T : Nat → TI} (hT : ∀ t, T t = tiOf P t) {o : Oper} {t sz k off m c : Nat} {x i : Operand} {kk : IntKind} {n : Int} (ho : o.op = .indexAddr t x i) (hx : ev env x = .sl k off m c) (hi : ev env i = .int kk n)
    (h0 : 0 ≤ n ∧ n < m) (hkT : lstT T t sz = true) : DoesV P o env own (.ptr k (off + n.toNat * sz)) := by
  obtain ⟨hk, hz, hk2, _⟩ := lstT_spec hT hkT
  obtain ⟨i1, h1⟩ := slice_ti hk
  obtain ⟨i2, d2, h2⟩ := ti_spec hk2
  refine does_val fun cx g H q a w hd => ?_
  have e1 := hd.ev x
  rw [hx] at e1
  rcases e1 with ⟨b, hg, e1⟩ | ⟨_, hm, _⟩
  · have e2 := hd.ev i
    rw [hi] at e2
    have e2 : a.eval i = .int kk n := e2
    refine ⟨.pointer (some ⟨b, off + n.toNat * sz, none⟩), ?_, b, hg, rfl⟩
    have : 0 ≤ n ∧ n < (m : Int) := h0
    simp [execOp, ho, e1, e2, Instr.indexAt, asIntOf, run_underlying h1.und, this, run_sizeOf' h2.info, ← h2.size, hz, Addr.add]
  · subst hm
    omega

theorem flatU_len {sz : Nat} {rows : List (List DV)} (h : ∀ r ∈ rows, r.length = sz) : (flatU rows).length = rows.length * sz := by
  unfold flatU
  rw [List.length_map]
  induction rows with
  | nil => simp
  | cons r l ih =>
    rw [List.flatten_cons, List.length_append, h r (by simp), ih fun q hq => h q (by simp [hq]), List.length_cons, Nat.add_mul]
    omega
theorem flatU_app (a b : List (List DV)) : flatU (a ++ b) = flatU a ++ flatU b := by simp [flatU]

theorem Dens.anys' {g : Nat → Value} {H : Hp} {n : Nat} {vs : List Value} (h : vs.length = n) : Dens g H (Eng.anys n) vs := by
  subst h
  exact Dens.anys vs

theorem zeroCells_one {z : Array Value} (hz : ∀ v ∈ z.toList, v.oneCell' = true) (m : Nat) : ∀ v ∈ (Builtin.zeroCells z m).toList, v.oneCell' = true := by
  intro v hv
  exact made_one hz m v hv

/-- An owned slice grows. -/
theorem at_appendS {T : Nat → TI} (k k' sz : Nat) {t n c r : Nat} {x y : Operand} {rows ys : List (List DV)} {cl : Call} (hT : ∀ t, T t = tiOf E.P t) (ho : o.op = .call cl) (hcl : cl.callee = .builtin .append) (ha : cl.args = #[x, y]) (hat : cl.argTypes = #[t, t])
    (hx : ev env x = .sl k 0 n c) (hy : lstv (ev env y) = some (sz, ys)) (hk : ownq own k = some (.buf rows r)) (hn : n = rows.length) (hr : ∀ q ∈ rows, q.length = sz) (hcs : n * sz + r = c * sz) (hnc : n ≤ c) (hy0 : 0 < ys.length) (hkT : lstT T t sz = true) (hl : ((n + ys.length : Nat) : Int) ≤ 9223372036854775807) (hb : (n + ys.length) * (T (T t).elem).bytes ≤ 140737488355328)
    (hless : lessK k own some = some own2)
    (kk : ∀ c' r', n + ys.length ≤ c' → (n + ys.length) * sz + r' = c' * sz → Sat E (.ops all rest) s (put o.dst (.sl k' 0 (n + ys.length) c') env) ((k', .buf (rows ++ ys) r') :: own2) nx)
    (hm : Nat.ble E.cx.m0 k' = true := by rfl) (hE : freshE k' env = true := by rfl) (hO : freshO k' own2 = true := by rfl) (hones : SV.ones (constsS (T (T t).elem).zero) = true := by rfl)
    (hg : guardK all o.guard env true false false = true := by rfl) (hd : dstLt o.dst E.n = true := by rfl) : Sat E (.ops all (o :: rest)) s env own nx := by
  intro a w hat0
  have hwant := wanted_of (E := E) (own := own) hg a w hat0
  rw [lessK_eq] at hless
  simp only [Option.some.injEq] at hless
  subst hless
  subst hn
  unfold wpList
  rw [if_pos hwant]
  refine .inl ?_
  obtain ⟨hdf, g, H, hdn⟩ := hat0
  obtain ⟨hk1, hz, hk2, hz2, hz0⟩ := lstT_spec hT hkT
  rw [hT (T t).elem, hT t] at hb hones
  obtain ⟨i1, h1⟩ := slice_ti hk1
  obtain ⟨i2, d2, h2⟩ := ti_spec hk2
  obtain ⟨z, hz3, hz4⟩ := zero_spec h2 hz2
  have hzs : z.cells.size = sz := by rw [← hz0, hz4, Array.length_toList]
  have hsz : sz = i2.size := by rw [← hz, h2.size]
  rw [h2.bytes] at hb
  have hrun : ∀ v w', (Builtin.append_ #[t, t] o.type #[a.eval x, a.eval y]).run E.P w = .ok v w' → (execOp a.eval o).run E.P w = .ok (.value v) w' := by
    intro v w' h
    simp only [execOp, ho, resolve, hcl, ha, hat]
    simp [invoke, builtin, h]
  obtain ⟨bd, c2, e2, hc2, hn2, hp2⟩ := lstv_den hy (hdn.ev y)
  cases hbd : bd with
  | none => rw [(hn2 hbd).1] at hy0; simp at hy0
  | some q =>
  subst hbd
  obtain ⟨hq1, hq2⟩ := hp2 q rfl
  obtain ⟨nv, hf2, hc3⟩ := hq2.flat
  have hnl := hf2.length
  have hq1 : q.spot = none := hq1.resolve_left fun e => by rw [e] at hy0; simp at hy0
  have hnews : ∀ (j : Nat) (v : Value), nv[j]? = some v → w.cell? (q.add j) = some v := by
    intro j v hj
    obtain ⟨b, off, spot⟩ := q
    simp only at hq1
    subst hq1
    rw [addr_add]
    exact hdn.hp _ _ _ (hc3 j v hj)
  have hdl : Dn E.cx g H env (rm1 k own) E.n a.tmps w := hdn.lessO (rm1_less k own)
  have hmul : (rows.length + ys.length) * sz = rows.length * sz + ys.length * sz := Nat.add_mul _ _ _
  -- a new block
  have fresh : ∀ (ov : List Value) (cap : Nat), Dens g H (flatU rows) ov → (∀ v ∈ ov, v.oneCell' = true) → rows.length + ys.length ≤ cap →
      (execOp a.eval o).run E.P w = .ok (.value (.slice (some ⟨w.heap.size, 0, none⟩) (rows.length + ys.length) cap)) (w.drew.alloc (.cells (ov.toArray ++ nv.toArray ++ Builtin.zeroCells z.cells (cap - (rows.length + ys.length))) (tiOf E.P t).elem)) →
      o.wp E.P a w (wpList E.P all.toArray (KK E s) rest) (KK E s) := by
    intro ov cap hod ho1 hcap hr'
    have hd1 := hdl.drew.grown (w' := w.drew.alloc (.cells (ov.toArray ++ nv.toArray ++ Builtin.zeroCells z.cells (cap - (rows.length + ys.length))) (tiOf E.P t).elem)) rfl rfl rfl (by simp) (fun b hb => heap_alloc_lt w.drew _ hb) (frozen_alloc w.drew _ _)
    have hzl : ((Builtin.zeroCells z.cells (cap - (rows.length + ys.length))).toList).length = (cap - (rows.length + ys.length)) * sz := by rw [Array.length_toList, size_zeroCells, hzs]
    have hone : ∀ v ∈ ov ++ nv ++ (Builtin.zeroCells z.cells (cap - (rows.length + ys.length))).toList, v.oneCell' = true := by
      intro v hv
      rcases List.mem_append.1 hv with hv | hv
      · rcases List.mem_append.1 hv with hv | hv
        · exact ho1 v hv
        · exact hf2.one v hv
      · have hz1 : ∀ v ∈ z.cells.toList, v.oneCell' = true := by
          rw [← hz4]
          exact (constsS_den g H _).oneCells hones
        exact zeroCells_one hz1 _ v hv
    have hden : Dens g H (bufC (rows ++ ys) ((cap - (rows.length + ys.length)) * sz)) (ov ++ nv ++ (Builtin.zeroCells z.cells (cap - (rows.length + ys.length))).toList) := by
      rw [bufC, flatU_app]
      exact Dens.append (Dens.append hod hf2.toFlat) (Dens.anys' hzl)
    have hd2 := hd1.bind (k := k') (x := .pointer (some ⟨w.heap.size, 0, none⟩)) (so := .buf (rows ++ ys) ((cap - (rows.length + ys.length)) * sz)) (Nat.le_of_ble_eq_true hm) hE hO (.inl ⟨(tiOf E.P t).elem, w.heap.size, ov ++ nv ++ (Builtin.zeroCells z.cells (cap - (rows.length + ys.length))).toList, upd_same _ _ _,
      Dens.plain g _ H _ _ _ hden, hone, by
        rw [show (w.drew.alloc (.cells (ov.toArray ++ nv.toArray ++ Builtin.zeroCells z.cells (cap - (rows.length + ys.length))) (tiOf E.P t).elem)).heap[w.heap.size]? = _ from heap_alloc_new w.drew _]
        congr 2
        apply Array.ext'
        simp, fun j => Hp.on_new hdl.hp j, .inl hdl.base.size⟩) (fun b hb j o' hj e => by
        simp only [blkOf, Option.some.injEq] at hb
        subst hb
        have := (hdl.ok j o' hj).blk_lt e
        omega)
    unfold Oper.wp
    rw [hr']
    refine kk cap _ hcap ?_ _ _ (At.put hdf hd2 (.inl ⟨w.heap.size, upd_same _ _ _, rfl⟩) fun d e => by rw [e] at hd; exact Nat.blt_eq.mp hd)
    rw [← Nat.add_mul, Nat.add_sub_cancel' hcap]
  have ex := hdn.ev x
  rw [hx] at ex
  rcases ex with ⟨b, hgk, ex⟩ | ⟨_, hn0, hc0, hgk, ad, ex⟩
  · -- cells of its own
    rcases hdn.ok k _ hk with ⟨ty, b', vs, e0, hv, hv1, hw, hH, hmine⟩ | ⟨e0, _⟩
    rotate_left
    · rw [e0] at hgk; cases hgk
    have hbb : b' = b := by rw [e0] at hgk; simpa using hgk
    subst hbb
    obtain ⟨v1, v2, rfl, hva, hvb⟩ := Dens.append_inv hv
    have hl1 : v1.length = rows.length * sz := by rw [hva.length, flatU_len hr]
    have hl2 : v2.length = r := by rw [hvb.length]; simp [anys]
    have hvl : (v1 ++ v2).length = c * sz := by rw [List.length_append, hl1, hl2, hcs]
    by_cases hroom : rows.length + ys.length ≤ c
    · have hfit : rows.length * sz + nv.length ≤ (v1 ++ v2).length := by
        rw [hnl, hvl, ← Nat.add_mul]
        exact Nat.mul_le_mul_right _ hroom
      have hr' := run_append_room_off (P := E.P) w t o.type _ i2 h1.und h2.info ty b' 0 rows.length c (v1 ++ v2).toArray hw q ys.length c2 nv (by rw [hnl, hsz]) hnews hf2.one hroom (by rw [← hsz]; simpa using hfit)
      rw [← hsz] at hr'
      obtain ⟨ty', hd1⟩ := hdn.openB hk hgk
      have hk' : ownq (setOwn k (.cells ty' (bufC rows r)) own) k = some (.cells ty' (bufC rows r)) := by rw [ownq_setOwn, if_pos rfl, hk]; rfl
      have hone : ∀ v ∈ splice nv (rows.length * sz) (v1 ++ v2), v.oneCell' = true := by
        intro v hv'
        unfold Eng.splice at hv'
        rcases List.mem_append.1 hv' with hv' | hv'
        · rcases List.mem_append.1 hv' with hv' | hv'
          · exact hv1 v (List.mem_of_mem_take hv')
          · exact hf2.one v hv'
        · exact hv1 v (List.mem_of_mem_drop hv')
      have hden : Dens g H (bufC (rows ++ ys) (c * sz - (rows.length + ys.length) * sz)) (splice nv (rows.length * sz) (v1 ++ v2)) := by
        unfold Eng.splice
        rw [bufC, flatU_app, ← hl1, List.take_left']
        · refine Dens.append (Dens.append hva hf2.toFlat) (Dens.anys' ?_)
          rw [List.length_drop, hvl, hl1, hnl, hmul]
        · rfl
      have hd2 := hd1.write (new := bufC (rows ++ ys) (c * sz - (rows.length + ys.length) * sz)) hk' hgk hden hone
      have hd3 := hd2.lessO (own2 := rm1 k own) (k := k) (fun j o' hj => by
        have := rm1_less k own j o' hj
        refine ⟨this.1, ?_⟩
        rw [ownq_setOwn, if_neg this.1, ownq_setOwn, if_neg this.1]
        exact this.2)
      have hd4 := hd3.bind (k := k') (x := .pointer (some ⟨b', 0, none⟩)) (so := .buf (rows ++ ys) (c * sz - (rows.length + ys.length) * sz)) (Nat.le_of_ble_eq_true hm) hE hO
        (.inl ⟨ty, b', splice nv (rows.length * sz) (v1 ++ v2), upd_same _ _ _, Dens.plain g _ H _ _ _ hden, hone, setRow_heap w b' _ _ ty (0, 0) hw, hH, hmine⟩) (fun b2 hb2 j o' hj e => by
          simp only [blkOf, Option.some.injEq] at hb2
          subst hb2
          have hl := rm1_less k own j o' hj
          exact hl.1 (hdn.inj j k (by rw [hl.2]; rfl) (by rw [hk]; rfl) b' e (by rw [hgk]; rfl)))
      unfold Oper.wp
      rw [hrun _ _ (by rw [ex, e2]; exact hr')]
      have e9 : (splice nv (0 + rows.length * sz) (v1 ++ v2).toArray.toList).toArray = (splice nv (rows.length * sz) (v1 ++ v2)).toArray := by rw [Nat.zero_add]
      rw [e9]
      have hle : (rows.length + ys.length) * sz ≤ c * sz := Nat.mul_le_mul_right _ hroom
      exact kk c _ hroom (by omega) _ _ (At.put hdf hd4 (.inl ⟨b', upd_same _ _ _, rfl⟩) fun d e => by rw [e] at hd; exact Nat.blt_eq.mp hd)
    · have holds : ∀ (j : Nat) (v : Value), v1[j]? = some v → w.cell? ((⟨b', 0, none⟩ : Addr).add j) = some v := by
        intro j v hj
        rw [addr_add, ok_cell hw, Nat.zero_add, List.getElem?_append_left (List.getElem?_eq_some_iff.1 hj).1]
        exact hj
      have hr' := run_append_grow (P := E.P) w t o.type _ i2 z h1.und h2.info hz3 ⟨b', 0, none⟩ rows.length c v1 (by rw [hl1, hsz]) holds q ys.length c2 nv (by rw [hnl, hsz]) hnews (by omega) hl (growslice_fits (by omega) hb)
      exact fresh v1 _ hva (fun v hv' => hv1 v (by simp [hv'])) (grownCap_ge _ _ _ _) (hrun _ _ (by rw [ex, e2]; exact hr'))
  · -- there was nothing
    subst hc0
    have hrows : rows = [] := List.eq_nil_of_length_eq_zero hn0
    subst hrows
    simp only [List.length_nil, Nat.zero_add] at hl hb
    cases ad with
    | none =>
      have hr' := run_append_nil (P := E.P) w t o.type _ i2 z h1.und h2.info hz3 q ys.length c2 nv (by rw [hnl, hsz]) hnews hy0 hl (by omega)
      exact fresh [] (grownCap w ys.length 0 (tiOf E.P t).elem) trivial (by simp) (by rw [List.length_nil, Nat.zero_add]; exact grownCap_ge _ _ _ _) (hrun _ _ (by rw [ex, e2, List.length_nil, Nat.zero_add]; simpa using hr'))
    | some p =>
      have hr' := run_append_grow (P := E.P) w t o.type _ i2 z h1.und h2.info hz3 p 0 0 [] (by simp) (by simp) q ys.length c2 nv (by rw [hnl, hsz]) hnews (by omega) (by simpa using hl) (growslice_fits (by omega) (by simpa using hb))
      exact fresh [] _ trivial (by simp) (grownCap_ge _ _ _ _) (hrun _ _ (by rw [ex, e2]; exact hr'))

/-- What was owned is let be read, and written no more: a slice of it, from the front. -/
theorem at_pubG {m : Md} (t k sz : Nat) {n c r : Nat} {rows : List (List DV)} (rows1 rows2 : List (List DV)) (sv : SV) (ht : nth env t = .sl k 0 n c) (hk : ownq own k = some (.buf rows r)) (hcs : rows = rows1 ++ rows2) (hn : n = rows1.length) (hnc : n ≤ c) (hr : ∀ r ∈ rows1, r.length = sz)
    (hsv : ∀ g H x a, DenD H (.lst sz rows1) x → x = .slice a n c → Den g H sv x) (hless : lessK k own some = some own2) (kk : Sat E m s ((t, sv) :: env) own2 nx) : Sat E m s env own nx := by
  refine sat_mono (fun a w h => ?_) kk
  obtain ⟨hdf, g, H, hd⟩ := h
  rw [lessK_eq] at hless
  simp only [Option.some.injEq] at hless
  subst hless
  have hl := rm1_less k own
  subst hcs; subst hn
  have ht' := hd.den t
  rw [ht] at ht'
  rcases ht' with ⟨b0, hg0, ex⟩ | ⟨_, hn0, hc0, hgk, ad, ex⟩
  · rcases hd.ok k _ hk with ⟨ty, b, vs, hg, hv, hone, hw, hH, hm⟩ | ⟨hg, _⟩
    rotate_left
    · rw [hg] at hg0; cases hg0
    have hbb : b0 = b := by rw [hg] at hg0; simpa using hg0.symm
    subst hbb
    rw [bufC, flatU_app, List.append_assoc] at hv
    obtain ⟨v1, v2, rfl, hv1, hv2⟩ := Dens.append_inv hv
    have hf := DenF.of_flatU hr hv1
    have hd2 := hd.fill (v1 ++ v2) hl (fun j o hj hne e => hne (hd.inj j k (by rw [hj]; rfl) (by rw [hk]; rfl) b0 e (by rw [hg]; rfl))) hm hw (fun j _ => hH j) (q := 0) (by simp)
    have e : (splice (v1 ++ v2) 0 (v1 ++ v2).toArray.toList).toArray = (v1 ++ v2).toArray := by simp [splice]
    rw [e, setRow_self w b0 (v1 ++ v2).toArray ty (0, 0) hw] at hd2
    have hle := Hp.add_le (H := H) (b := b0) (q := 0) (fun j _ => hH j) (v1 ++ v2)
    refine ⟨hdf, g, _, { hd2 with den := fun i => ?_ }⟩
    simp only [nth]
    cases hb : Nat.beq t i with
    | false => exact hd2.den i
    | true =>
      rw [← beq_true hb]
      refine hsv g _ _ _ ⟨some ⟨b0, 0, none⟩, c, ex, hnc, fun e => (by cases e), fun p hp => ?_⟩ ex
      simp only [Option.some.injEq] at hp
      subst hp
      refine ⟨.inr rfl, (hf.mono hle).rs fun j v hj => ?_⟩
      have := Hp.add_at H b0 0 (v1 ++ v2) (j := j) (v := v) (by rw [List.getElem?_append_left (List.getElem?_eq_some_iff.1 hj).1]; exact hj)
      simpa using this
  · have hd2 := hd.lessO hl
    refine ⟨hdf, g, H, { hd2 with den := fun i => ?_ }⟩
    simp only [nth]
    cases hb : Nat.beq t i with
    | false => exact hd2.den i
    | true =>
      rw [← beq_true hb]
      have hrows : rows1 = [] := List.eq_nil_of_length_eq_zero hn0
      subst hrows
      subst hc0
      exact hsv g H _ _ ⟨ad, 0, ex, Nat.le_refl _, fun _ => ⟨rfl, rfl⟩, fun p _ => ⟨.inl rfl, trivial⟩⟩ ex

theorem at_pubS {m : Md} (t k sz : Nat) {n c r : Nat} {rows : List (List DV)} (ht : nth env t = .sl k 0 n c) (hk : ownq own k = some (.buf rows r)) (hn : n = rows.length) (hnc : n ≤ c) (hr : ∀ r ∈ rows, r.length = sz)
    (hless : lessK k own some = some own2) (kk : Sat E m s ((t, .lst sz rows) :: env) own2 nx) : Sat E m s env own nx :=
  at_pubG t k sz rows [] (.lst sz rows) ht hk (by simp) hn hnc hr (fun _ _ _ _ h _ => h) hless kk
theorem at_pubT {m : Md} (t k sz : Nat) {n r : Nat} {rows : List (List DV)} (rows1 rows2 : List (List DV)) (ht : nth env t = .sl k 0 n n) (hk : ownq own k = some (.buf rows r)) (hcs : rows = rows1 ++ rows2) (hn : n = rows1.length) (hr : ∀ r ∈ rows1, r.length = sz)
    (hless : lessK k own some = some own2) (kk : Sat E m s ((t, .tl sz rows1) :: env) own2 nx) : Sat E m s env own nx :=
  at_pubG t k sz rows1 rows2 (.tl sz rows1) ht hk hcs hn (Nat.le_refl _) hr (fun _ _ _ a h e => ⟨h, a, by rw [e, hn]⟩) hless kk

end Go.Eng
/- The proof engine: calls that are handed own things, and hand back own things. -/
namespace Go.Eng

/-- Names by a list. -/
def rl (l : List Nat) : Nat → Nat := fun k => l.getD k 0

def updl (g : Nat → Value) : List (Nat × Value) → Nat → Value
  | [] => g
  | (n, v) :: r => upd (updl g r) n v
theorem updl_ne (g : Nat → Value) : ∀ (ps : List (Nat × Value)) (j : Nat), (∀ p ∈ ps, p.1 ≠ j) → updl g ps j = g j
  | [], _, _ => rfl
  | (n, v) :: r, j, h => by
    rw [updl, upd_ne _ _ _ _ (fun e => h (n, v) (by simp) e.symm), updl_ne g r j fun p hp => h p (by simp [hp])]
theorem updl_at (g : Nat → Value) : ∀ (ps : List (Nat × Value)) (i : Nat) (p : Nat × Value), ps[i]? = some p → (ps.map (·.1)).Nodup → updl g ps p.1 = p.2
  | [], _, _, h, _ => by simp at h
  | (n, v) :: r, 0, p, h, _ => by
    simp only [List.getElem?_cons_zero, Option.some.injEq] at h
    subst h
    rw [updl, upd_same]
  | (n, v) :: r, i + 1, p, h, hn => by
    simp only [List.getElem?_cons_succ] at h
    simp only [List.map_cons, List.nodup_cons] at hn
    rw [updl, upd_ne, updl_at g r i p h hn.2]
    intro e
    exact hn.1 (by rw [← e]; exact List.mem_map_of_mem (List.mem_of_getElem? h))

theorem Den.updl {g : Nat → Value} {H : Hp} {s : SV} {x : Value} : ∀ (ps : List (Nat × Value)), (∀ p ∈ ps, s.noK p.1 = true) → Den g H s x → Den (Eng.updl g ps) H s x
  | [], _, h => h
  | (n, v) :: r, hn, h => by
    have ih := Den.updl r (fun p hp => hn p (by simp [hp])) h
    exact Den.upd (k := n) (fun j hj => upd_ne _ _ _ j hj) s x (hn (n, v) (by simp)) ih
theorem OwnOk.updl {mine : Nat → Prop} {g : Nat → Value} {H : Hp} {w : World} {j : Nat} {o : SO} : ∀ (ps : List (Nat × Value)), (∀ p ∈ ps, j ≠ p.1 ∧ o.noK p.1) → OwnOk mine g H w j o → OwnOk mine (Eng.updl g ps) H w j o
  | [], _, h => h
  | (n, v) :: r, hn, h => (OwnOk.updl r (fun p hp => hn p (by simp [hp])) h).upd (hn (n, v) (by simp))

def mapO (r : Nat → Nat) : List (Nat × SO) → List (Nat × SO)
  | [] => []
  | (k, o) :: l => (r k, renO r o) :: mapO r l

def postLt (M : Nat) : List (Nat × SO) → Bool
  | [] => true
  | (k, .cells _ cs) :: l => bif Nat.blt k M then (bif SV.lts M cs then postLt M l else false) else false
  | (k, .buf _ _) :: l => bif Nat.blt k M then postLt M l else false
  | (k, .tok _) :: l => bif Nat.blt k M then postLt M l else false
  | (k, .obj _) :: l => bif Nat.blt k M then postLt M l else false

def SO.ltM (M : Nat) : SO → Prop
  | .cells _ cs => SV.lts M cs = true
  | _ => True

theorem postLt_spec {M : Nat} : ∀ {l : List (Nat × SO)}, postLt M l = true → ∀ p ∈ l, p.1 < M ∧ p.2.ltM M
  | [], _, p, hp => by cases hp
  | (k, .cells t cs) :: l, h, p, hp => by
    simp only [postLt] at h
    cases h1 : Nat.blt k M with
    | false => simp [h1] at h
    | true =>
      cases h2 : SV.lts M cs with
      | false => simp [h1, h2] at h
      | true =>
        simp only [h1, h2, cond_true] at h
        rcases List.mem_cons.1 hp with rfl | hp
        · exact ⟨Nat.blt_eq.mp h1, h2⟩
        · exact postLt_spec h p hp
  | (k, .buf c nn) :: l, h, p, hp => by
    simp only [postLt] at h
    cases h1 : Nat.blt k M with
    | false => simp [h1] at h
    | true =>
      simp only [h1, cond_true] at h
      rcases List.mem_cons.1 hp with rfl | hp
      · exact ⟨Nat.blt_eq.mp h1, trivial⟩
      · exact postLt_spec h p hp
  | (k, .tok c) :: l, h, p, hp => by
    simp only [postLt] at h
    cases h1 : Nat.blt k M with
    | false => simp [h1] at h
    | true =>
      simp only [h1, cond_true] at h
      rcases List.mem_cons.1 hp with rfl | hp
      · exact ⟨Nat.blt_eq.mp h1, trivial⟩
      · exact postLt_spec h p hp
  | (k, .obj f) :: l, h, p, hp => by
    simp only [postLt] at h
    cases h1 : Nat.blt k M with
    | false => simp [h1] at h
    | true =>
      simp only [h1, cond_true] at h
      rcases List.mem_cons.1 hp with rfl | hp
      · exact ⟨Nat.blt_eq.mp h1, trivial⟩
      · exact postLt_spec h p hp

theorem ownq_mem' {l : List (Nat × SO)} {k : Nat} {o : SO} (h : ownq l k = some o) : (k, o) ∈ l := by
  induction l with
  | nil => simp [ownq] at h
  | cons y l ih =>
    obtain ⟨i, x⟩ := y
    simp only [ownq] at h
    cases hb : Nat.beq i k with
    | true =>
      simp only [hb, cond_true, Option.some.injEq] at h
      rw [← beq_true hb, h]
      simp
    | false =>
      simp only [hb, cond_false] at h
      exact List.mem_cons_of_mem _ (ih h)

theorem ownq_mapO {r : Nat → Nat} {M : Nat} (hr : ∀ i j, i < M → j < M → r i = r j → i = j) : ∀ {l : List (Nat × SO)}, (∀ p ∈ l, p.1 < M) → ∀ {j : Nat} {o' : SO}, ownq (mapO r l) j = some o' → ∃ k o, ownq l k = some o ∧ k < M ∧ r k = j ∧ o' = renO r o
  | [], _, j, o', h => by simp [mapO, ownq] at h
  | (k, o) :: l, hl, j, o', h => by
    simp only [mapO, ownq] at h
    cases hb : Nat.beq (r k) j with
    | true =>
      simp only [hb, cond_true, Option.some.injEq] at h
      exact ⟨k, o, by simp [ownq], hl (k, o) (by simp), beq_true hb, h.symm⟩
    | false =>
      simp only [hb, cond_false] at h
      obtain ⟨k', o2, h1, h2, h3, h4⟩ := ownq_mapO hr (fun p hp => hl p (by simp [hp])) h
      refine ⟨k', o2, ?_, h2, h3, h4⟩
      have : Nat.beq k k' = false := by
        cases hk : Nat.beq k k' with
        | false => rfl
        | true =>
          rw [beq_true hk, h3] at hb
          simp at hb
      simp only [ownq, this, cond_false]
      exact h1
theorem ownq_mapO_none {r : Nat → Nat} : ∀ {l : List (Nat × SO)} {j : Nat}, ownq (mapO r l) j = none → ∀ k o, ownq l k = some o → r k ≠ j
  | [], _, _, k, o, h => by simp [ownq] at h
  | (i, x) :: l, j, hn, k, o, h => by
    simp only [mapO, ownq] at hn
    cases hb : Nat.beq (r i) j with
    | true => rw [hb] at hn; cases hn
    | false =>
      rw [hb, cond_false] at hn
      simp only [ownq] at h
      cases hk : Nat.beq i k with
      | true =>
        rw [← beq_true hk]
        exact beq_false hb
      | false =>
        rw [hk, cond_false] at h
        exact ownq_mapO_none hn k o h

/-- Names left out. -/
def outK {α : Type} : List Nat → List (Nat × SO) → (List (Nat × SO) → α) → α
  | [], own, c => c own
  | k :: l, own, c => lessK k own fun r => outK l r c
def outO : List Nat → List (Nat × SO) → List (Nat × SO)
  | [], own => own
  | k :: l, own => outO l (rm1 k own)
theorem outK_eq {α : Type} : ∀ (l : List Nat) (own : List (Nat × SO)) (c : List (Nat × SO) → α), outK l own c = c (outO l own)
  | [], _, _ => rfl
  | k :: l, own, c => by simp only [outK, outO, lessK_eq, outK_eq l]
theorem outO_spec : ∀ (l : List Nat) (own : List (Nat × SO)) (j : Nat) (o : SO), ownq (outO l own) j = some o → j ∉ l ∧ ownq own j = some o
  | [], _, _, _, h => ⟨by simp, h⟩
  | k :: l, own, j, o, h => by
    have h1 := outO_spec l (rm1 k own) j o h
    have h2 := rm1_less k own j o h1.2
    exact ⟨by simp [h1.1, h2.1], h2.2⟩

def nodB : List Nat → Bool
  | [] => true
  | x :: l => bif hasB x l then false else nodB l
  where
  hasB (x : Nat) : List Nat → Bool
  | [] => false
  | y :: l => bif Nat.beq x y then true else hasB x l
theorem hasB_spec {x : Nat} : ∀ {l : List Nat}, nodB.hasB x l = false → x ∉ l
  | [], _, h => by cases h
  | y :: l, h, hm => by
    simp only [nodB.hasB] at h
    cases hb : Nat.beq x y with
    | true => simp [hb] at h
    | false =>
      simp only [hb, cond_false] at h
      rcases List.mem_cons.1 hm with e | hm
      · exact beq_false hb e
      · exact hasB_spec h hm
theorem nodB_spec : ∀ {l : List Nat}, nodB l = true → l.Nodup
  | [], _ => List.nodup_nil
  | x :: l, h => by
    simp only [nodB] at h
    cases hb : nodB.hasB x l with
    | true => simp [hb] at h
    | false =>
      simp only [hb, cond_false] at h
      exact List.nodup_cons.2 ⟨hasB_spec hb, nodB_spec h⟩

def freshL (m0 : Nat) (env : List (Nat × SV)) (own : List (Nat × SO)) : List Nat → Bool
  | [] => true
  | k :: l => bif Nat.ble m0 k then (bif freshE k env then (bif freshO k own then freshL m0 env own l else false) else false) else false
theorem freshL_spec {m0 : Nat} {env : List (Nat × SV)} {own : List (Nat × SO)} : ∀ {l : List Nat}, freshL m0 env own l = true → ∀ k ∈ l, m0 ≤ k ∧ freshE k env = true ∧ freshO k own = true
  | [], _, k, hk => by cases hk
  | x :: l, h, k, hk => by
    simp only [freshL] at h
    cases h1 : Nat.ble m0 x with
    | false => simp [h1] at h
    | true =>
      cases h2 : freshE x env with
      | false => simp [h1, h2] at h
      | true =>
        cases h3 : freshO x own with
        | false => simp [h1, h2, h3] at h
        | true =>
          simp only [h1, h2, h3, cond_true] at h
          rcases List.mem_cons.1 hk with rfl | hk
          · exact ⟨Nat.le_of_ble_eq_true h1, h2, h3⟩
          · exact freshL_spec h k hk

def keysLt (pre : List (Nat × SO)) : Nat → Bool
  | 0 => true
  | n + 1 => (ownq pre n).isSome && keysLt pre n
theorem keysLt_spec {pre : List (Nat × SO)} : ∀ {m : Nat}, keysLt pre m = true → ∀ k, k < m → (ownq pre k).isSome = true
  | 0, _, k, hk => absurd hk (Nat.not_lt_zero k)
  | n + 1, h, k, hk => by
    simp only [keysLt, Bool.and_eq_true] at h
    rcases Nat.lt_or_ge k n with h' | h'
    · exact keysLt_spec h.2 k h'
    · rw [show k = n by omega]; exact h.1
def preLt (m : Nat) : List (Nat × SO) → Bool
  | [] => true
  | (k, _) :: l => bif Nat.blt k m then preLt m l else false
theorem preLt_spec {m : Nat} : ∀ {pre : List (Nat × SO)}, preLt m pre = true → ∀ k, (ownq pre k).isSome = true → k < m
  | [], _, k, hk => by simp [ownq] at hk
  | (i, x) :: l, h, k, hk => by
    simp only [preLt] at h
    cases h1 : Nat.blt i m with
    | false => simp [h1] at h
    | true =>
      simp only [h1, cond_true] at h
      simp only [ownq] at hk
      cases hb : Nat.beq i k with
      | true => rw [← beq_true hb]; exact Nat.blt_eq.mp h1
      | false =>
        rw [hb, cond_false] at hk
        exact preLt_spec h k hk

variable {E : Stc} {all rest : List Oper} {o : Oper} {s : List Fr} {env : List (Nat × SV)} {own own2 : List (Nat × SO)} {nx : List Nat}

/-- A call: l are the caller's names of the callee's names, first those that it is handed, then those of what it hands back. -/
theorem at_callG (l : List Nat) {m f : Nat} {pre : List (Nat × SO)} {args : List SV} {Post : SV → List (Nat × SO) → Prop} (hC : Contract E.P f m pre args Post) (hc : callK o.op env (fun f l => some (f, l)) none = some (f, rens (rl l) args))
    (hpre : pres (rl l) own pre) (ho : outK (l.take m) own some = some own2)
    (k : ∀ sv post, Post sv post → sv.lt l.length = true ∧ postLt l.length post = true ∧ Sat E (.ops all rest) s (put o.dst (ren (rl l) sv) env) (mapO (rl l) post ++ own2) nx)
    (hml : Nat.ble m l.length = true := by rfl) (hnd : nodB l = true := by rfl) (hfr : freshL E.cx.m0 env own2 (l.drop m) = true := by rfl) (hk1 : keysLt pre m = true := by rfl) (hk2 : preLt m pre = true := by rfl)
    (hg : guardK all o.guard env true false false = true := by rfl) (hd : dstLt o.dst E.n = true := by rfl) : Sat E (.ops all (o :: rest)) s env own nx := by
  intro a w hat
  have hwant := wanted_of (E := E) (own := own) hg a w hat
  rw [outK_eq] at ho
  simp only [Option.some.injEq] at ho
  subst ho
  have hml := Nat.le_of_ble_eq_true hml
  have hnd := nodB_spec hnd
  have hfr := freshL_spec hfr
  have hk1 := keysLt_spec hk1
  have hk2 := preLt_spec hk2
  have hrl : ∀ i (hi : i < l.length), rl l i = l[i] := fun i hi => by simp [rl, List.getD_eq_getElem?_getD, hi]
  have hinjr : ∀ i j, i < l.length → j < l.length → rl l i = rl l j → i = j := fun i j hi hj e => by
    rw [hrl i hi, hrl j hj] at e
    exact (List.getElem_inj hnd).1 e
  unfold wpList
  rw [if_pos hwant]
  refine .inl ?_
  obtain ⟨hdf, g, H, hdn⟩ := hat
  obtain ⟨vs, hv, hr⟩ := run_call (P := E.P) hdn hC.1 hc
  have hv' : Dens (fun k => g (rl l k)) H args vs := Dens.unren (g' := g) (r := rl l) (fun _ => rfl) args vs hv
  have hok : ∀ k o, ownq pre k = some o → OwnOk (fun _ => True) (fun k => g (rl l k)) H w k o := by
    intro k o hk
    have := hdn.ok (rl l k) _ (pres_spec hpre k o hk)
    cases o with
    | cells ty cs =>
      obtain ⟨b, ws, e, h1, h2, h3, h4, h5⟩ := this
      exact ⟨b, ws, e, Dens.unren (g' := g) (r := rl l) (fun _ => rfl) cs ws h1, h2, h3, h4, trivial⟩
    | tok sz =>
      obtain ⟨ad, q, c, e, h1, hle, h2⟩ := this
      refine ⟨ad, q, c, e, h1, hle, fun p hpa hlt => ?_⟩
      obtain ⟨h3, _, h5⟩ := h2 p hpa hlt
      exact ⟨h3, trivial, h5⟩
    | obj q =>
      obtain ⟨r, o, e, h1, h2, h3, _⟩ := this
      exact ⟨r, o, e, h1, h2, h3, trivial⟩
    | buf rw nn =>
      rcases this with ⟨ty, b, ws, e, h1, h2, h3, h4, h5⟩ | ⟨e, h1⟩
      · exact .inl ⟨ty, b, ws, e, Dens.plain g _ H rw nn ws h1, h2, h3, h4, trivial⟩
      · exact .inr ⟨e, h1⟩
  have hsome : ∀ i, (ownq pre i).isSome = true → (ownq own (rl l i)).isSome = true := fun i hi => by
    cases ho : ownq pre i with
    | none => rw [ho] at hi; cases hi
    | some x => rw [pres_spec hpre i x ho]; rfl
  have hinj' : InjOn (fun k => g (rl l k)) pre := by
    intro i j hi hj b hbi hbj
    have h1 := hk2 i hi
    have h2 := hk2 j hj
    exact hinjr i j (by omega) (by omega) (hdn.inj (rl l i) (rl l j) (hsome i hi) (hsome j hj) b hbi hbj)
  have hcall := hC.2 (fun k => g (rl l k)) H w vs hdn.hp hok hinj' hv'
  unfold Oper.wp
  rw [hr]
  refine hcall.mono fun e w' he => ?_
  cases e with
  | panicked c => exact he.elim
  | outgrown => exact he.elim
  | returned x =>
    obtain ⟨g', H', sv, post, hP, hx, hok', hinjp, hon, hb⟩ := he
    obtain ⟨hlt, hpl, hS⟩ := k sv post hP
    have hpl := postLt_spec hpl
    have hout := outO_spec (l.take m) own
    have htake : ∀ i, i < m → rl l i ∈ l.take m := fun i hi => by
      rw [hrl i (by omega)]
      exact List.mem_take_iff_getElem.2 ⟨i, by omega, rfl⟩
    obtain ⟨hd2, hother⟩ := hdn.left (r := rl l) (own2 := outO (l.take m) own) hpre hb hon (fun j o hj => ⟨(hout j o hj).2, fun i hi e => (hout j o hj).1 (by rw [e]; exact htake i (hk2 i hi))⟩)
    -- the new names
    let ps : List (Nat × Value) := (List.range' m (l.length - m)).map fun i => (rl l i, g' i)
    have hps : ∀ p ∈ ps, ∃ i, m ≤ i ∧ i < l.length ∧ p = (rl l i, g' i) := fun p hp => by
      obtain ⟨i, hi, rfl⟩ := List.mem_map.1 hp
      rw [List.mem_range'_1] at hi
      exact ⟨i, hi.1, by omega, rfl⟩
    have hpd : ∀ p ∈ ps, p.1 ∈ l.drop m := fun p hp => by
      obtain ⟨i, h1, h2, rfl⟩ := hps p hp
      rw [hrl i h2]
      exact List.mem_drop_iff_getElem.2 ⟨i - m, by omega, by simp [show m + (i - m) = i by omega]⟩
    have hpsn : (ps.map (·.1)).Nodup := by
      rw [List.map_map]
      have key : ∀ q : List Nat, q.Nodup → (∀ i ∈ q, i < l.length) → (q.map ((fun p : Nat × Value => p.1) ∘ fun i => (rl l i, g' i))).Nodup := by
        intro q
        induction q with
        | nil => intro _ _; exact List.nodup_nil
        | cons i q ih =>
          intro h1 h2
          rw [List.nodup_cons] at h1
          rw [List.map_cons, List.nodup_cons]
          refine ⟨fun hm => ?_, ih h1.2 fun i hi => h2 i (by simp [hi])⟩
          obtain ⟨j, hj, e⟩ := List.mem_map.1 hm
          have := hinjr j i (h2 j (by simp [hj])) (h2 i (by simp)) e
          exact h1.1 (this ▸ hj)
      exact key _ (List.nodup_range' ..) fun i hi => by rw [List.mem_range'_1] at hi; omega
    have hgk : ∀ i, i < l.length → updl g ps (rl l i) = g' i := fun i hi => by
      rcases Nat.lt_or_ge i m with h | h
      · rw [updl_ne, hb.fix i h]
        intro p hp e
        obtain ⟨j, h1, h2, rfl⟩ := hps p hp
        have := hinjr j i h2 hi e
        omega
      · have hidx : ps[i - m]? = some (rl l i, g' i) := by
          simp only [ps, List.getElem?_map]
          rw [List.getElem?_range' (by omega)]
          simp [show m + (i - m) = i by omega]
        exact updl_at g ps (i - m) (rl l i, g' i) hidx hpsn
    have hold : ∀ j, (∀ q ∈ l.drop m, q ≠ j) → updl g ps j = g j := fun j hj => updl_ne g ps j fun p hp e => hj p.1 (hpd p hp) e
    have hren : ∀ i, i < l.length → updl g ps (rl l i) = g' i := hgk
    have hfix : ∀ j, j < E.cx.m0 → updl g ps j = g j := fun j hj => hold j fun q hq e => by have := (hfr q hq).1; omega
    have hpost : ∀ k o, ownq post k = some o → OwnOk E.cx.mine (updl g ps) H' w' (rl l k) (renO (rl l) o) := by
      intro k o hk
      have hkl := hpl (k, o) (ownq_mem' hk)
      have h0 := hok' k o hk
      have hge := hgk k hkl.1
      cases o with
      | cells ty cs =>
        obtain ⟨b, ws, e, q1, q2, q3, q4, q5⟩ := h0
        exact ⟨b, ws, by rw [hge]; exact e, Dens.ren (g := g') (g' := updl g ps) (r := rl l) (m := l.length) hren cs ws hkl.2 q1, q2, q3, q4, (hother b q5).1⟩
      | tok sz =>
        obtain ⟨ad, q, c, e, q1, hle, q2⟩ := h0
        refine ⟨ad, q, c, by rw [hge]; exact e, q1, hle, fun p hpa hlt => ?_⟩
        obtain ⟨q3, q4, q5⟩ := q2 p hpa hlt
        exact ⟨q3, (hother _ q4).1, q5⟩
      | obj q =>
        obtain ⟨r, o, e, q1, q2, q3, q4⟩ := h0
        exact ⟨r, o, by rw [hge]; exact e, q1, q2, q3, (hother r q4).1⟩
      | buf rw nn =>
        rcases h0 with ⟨ty, b, ws, e, q1, q2, q3, q4, q5⟩ | ⟨e, q1⟩
        · exact .inl ⟨ty, b, ws, by rw [hge]; exact e, Dens.plain g' _ H' rw nn ws q1, q2, q3, q4, (hother b q5).1⟩
        · exact .inr ⟨by rw [hge]; exact e, q1⟩
    have hown2 : ∀ j o, ownq (outO (l.take m) own) j = some o → (∀ q ∈ l.drop m, j ≠ q ∧ o.noK q) := fun j o hj q hq => freshO_own (hfr q hq).2.2 hj
    have hd3 : Dn E.cx (updl g ps) H' env (mapO (rl l) post ++ outO (l.take m) own) E.n a.tmps w' := by
      refine { size := hd2.size, den := fun t => Den.updl ps (fun p hp => freshE_nth t (hfr p.1 (hpd p hp)).2.1) (hd2.den t), ok := fun j o hj => ?_, inj := fun i j hi hj b hbi hbj => ?_, hp := hd2.hp, base := { hd2.base with fix := fun j hj => by rw [hfix j hj]; exact hd2.base.fix j hj } }
      · rw [ownq_append] at hj
        cases hq : ownq (mapO (rl l) post) j with
        | some o' =>
          rw [hq] at hj
          simp only [Option.some_or, Option.some.injEq] at hj
          subst hj
          obtain ⟨k, o2, q1, _, rfl, rfl⟩ := ownq_mapO hinjr (fun p hp => (hpl p hp).1) hq
          exact hpost k o2 q1
        | none =>
          rw [hq, Option.none_or] at hj
          exact (hd2.ok j o hj).updl ps fun p hp => hown2 j o hj p.1 (hpd p hp)
      · have cls : ∀ j b, (ownq (mapO (rl l) post ++ outO (l.take m) own) j).isSome = true → blkOf (updl g ps j) = some b →
            (∃ k o, ownq post k = some o ∧ rl l k = j ∧ blkOf (g' k) = some b ∧ (w.heap.size ≤ b ∨ preX (fun k => g (rl l k)) pre b)) ∨ (∃ o, ownq (outO (l.take m) own) j = some o ∧ blkOf (g j) = some b) := by
          intro j b hj hbj
          rw [ownq_append] at hj
          cases hq : ownq (mapO (rl l) post) j with
          | some o' =>
            obtain ⟨k, o2, q1, q2, rfl, rfl⟩ := ownq_mapO hinjr (fun p hp => (hpl p hp).1) hq
            rw [hgk k q2] at hbj
            exact .inl ⟨k, o2, q1, rfl, hbj, (hok' k o2 q1).blk_mine hbj⟩
          | none =>
            rw [hq, Option.none_or] at hj
            cases ho : ownq (outO (l.take m) own) j with
            | none => rw [ho] at hj; cases hj
            | some o => exact .inr ⟨o, rfl, by rw [← hold j fun q hq e => (hown2 j o ho q hq).1 e.symm]; exact hbj⟩
        rcases cls i b hi hbi with ⟨k, o1, p1, rfl, p2, p3⟩ | ⟨o1, p1, p2⟩ <;> rcases cls j b hj hbj with ⟨k', o2, q1, rfl, q2, q3⟩ | ⟨o2, q1, q2⟩
        · rw [hinjp k k' (by rw [p1]; rfl) (by rw [q1]; rfl) b p2 q2]
        · exact absurd q2 ((hother b p3).2 j o2 q1)
        · exact absurd p2 ((hother b q3).2 i o1 p1)
        · exact hd2.inj i j (by rw [p1]; rfl) (by rw [q1]; rfl) b p2 q2
    exact hS _ _ (At.put hdf hd3 (Den.ren (g := g') (g' := updl g ps) (r := rl l) (m := l.length) hren sv x hlt hx) fun d e => by rw [e] at hd; exact Nat.blt_eq.mp hd)

/-- The same, where the answer is told. -/
theorem at_callF (l : List Nat) {m f : Nat} {pre q q' : List (Nat × SO)} {args : List SV} {sv : SV} (hC : Contract E.P f m pre args fun s post => s = sv ∧ post = q) (hc : callK o.op env (fun f l => some (f, l)) none = some (f, rens (rl l) args))
    (hpre : pres (rl l) own pre) (ho : outK (l.take m) own some = some own2) (hq : mapO (rl l) q = q') (hpl : postLt l.length q = true)
    (k : Sat E (.ops all rest) s (put o.dst (ren (rl l) sv) env) (q' ++ own2) nx) (hlt : sv.lt l.length = true := by rfl)
    (hml : Nat.ble m l.length = true := by rfl) (hnd : nodB l = true := by rfl) (hfr : freshL E.cx.m0 env own2 (l.drop m) = true := by rfl) (hk1 : keysLt pre m = true := by rfl) (hk2 : preLt m pre = true := by rfl)
    (hg : guardK all o.guard env true false false = true := by rfl) (hd : dstLt o.dst E.n = true := by rfl) : Sat E (.ops all (o :: rest)) s env own nx :=
  at_callG l hC hc hpre ho (fun sv' post hP => by
    obtain ⟨rfl, rfl⟩ := hP
    rw [hq]
    exact ⟨hlt, hpl, k⟩) hml hnd hfr hk1 hk2 hg hd

theorem flat_drop {sz : Nat} : ∀ {rows : List (List DV)} (i : Nat) (q : List SV), (∀ r ∈ rows, r.length = sz) → i ≤ rows.length → (flatU rows ++ q).drop (i * sz) = flatU (rows.drop i) ++ q
  | rows, 0, q, _, _ => by simp
  | [], i + 1, q, _, h => by simp at h
  | r :: rows, i + 1, q, hr, h => by
    have h1 : r.length = sz := hr r (by simp)
    have ih := flat_drop (rows := rows) i q (fun x hx => hr x (by simp [hx])) (by simpa using h)
    have e : flatU (r :: rows) = r.map up ++ flatU rows := by simp [flatU]
    rw [e, Nat.add_mul, Nat.one_mul, List.append_assoc, show i * sz + sz = (r.map up).length + i * sz by rw [List.length_map, h1]; omega, List.drop_append, Nat.add_sub_cancel_left, ih, List.drop_eq_nil_of_le (by omega)]
    rfl
theorem flat_get {sz i : Nat} {rows : List (List DV)} {r : List DV} (q : List SV) (hr : ∀ r ∈ rows, r.length = sz) (hi : rows[i]? = some r) : ((flatU rows ++ q).drop (i * sz)).take sz = r.map up := by
  have hlt := (List.getElem?_eq_some_iff.1 hi).1
  rw [flat_drop i q hr (by omega), List.drop_eq_getElem_cons hlt]
  have e : rows[i] = r := (List.getElem?_eq_some_iff.1 hi).2
  rw [e]
  have h1 : (r.map up).length = sz := by rw [List.length_map]; exact hr r (List.mem_of_getElem? hi)
  have e2 : flatU (r :: rows.drop (i + 1)) = r.map up ++ flatU (rows.drop (i + 1)) := by simp [flatU]
  rw [e2, List.append_assoc, ← h1, List.take_left']
  rfl

/-- A row of an owned slice is read. -/
theorem does_loadB {P : Program} {T : Nat → TI} (hT : ∀ t, T t = tiOf P t) {o : Oper} {t k off sz i : Nat} {x : Operand} {rows : List (List DV)} {n : Nat} {row : List DV} (ho : o.op = .load t x) (hx : ev env x = .ptr k off) (hk : ownq own k = some (.buf rows n)) (hs : (T t).kd = .struct) (hsz : (T t).size = sz) (hoff : off = i * sz) (hr : ∀ r ∈ rows, r.length = sz) (hi : rows[i]? = some row) :
    DoesV P o env own (.agg (row.map up)) := by
  subst hoff
  have h1 := flat_get (anys n) hr hi
  have h2 : sz ≤ ((bufC rows n).drop (i * sz)).length := by
    have := congrArg List.length h1
    rw [List.length_take, List.length_map, hr row (List.mem_of_getElem? hi)] at this
    rw [bufC]
    omega
  rw [hT t] at hs hsz
  rw [← hsz] at h1 h2
  have e : row.map up = ((bufC rows n).drop (i * (tiOf P t).size)).take (tiOf P t).size := h1.symm
  rw [e]
  refine does_load_buf (by rw [hx]) hk fun own' ty hk' => ?_
  rw [← hsz] at hx
  exact does_load_own ho hx hk' hs h2
/-- A plain cell of one. -/
theorem does_loadB1 {P : Program} {T : Nat → TI} (hT : ∀ t, T t = tiOf P t) {o : Oper} {t k off sz i j : Nat} {x : Operand} {rows : List (List DV)} {n : Nat} {row : List DV} {d : DV} (ho : o.op = .load t x) (hx : ev env x = .ptr k off) (hk : ownq own k = some (.buf rows n)) (hs : (T t).kd ≠ .struct) (hs' : (T t).kd ≠ .other) (hoff : off = i * sz + j) (hr : ∀ r ∈ rows, r.length = sz) (hi : rows[i]? = some row) (hj : row[j]? = some d) :
    DoesV P o env own (up d) := by
  subst hoff
  have h1 := flat_get (anys n) hr hi
  have hjl := (List.getElem?_eq_some_iff.1 hj).1
  have h2 : (bufC rows n)[i * sz + j]? = some (up d) := by
    have h3 := congrArg (fun l => l[j]?) h1
    simp only [List.getElem?_map, hj, Option.map_some] at h3
    rw [List.getElem?_take, if_pos (by rw [hr row (List.mem_of_getElem? hi)] at hjl; exact hjl), List.getElem?_drop] at h3
    exact h3
  rw [hT t] at hs hs'
  exact does_load_buf hx hk fun own' ty hk' => does_load_own1 ho hx hk' hs hs' h2

theorem flatU_cons (r : List DV) (l : List (List DV)) : flatU (r :: l) = r.map up ++ flatU l := by simp [flatU]
theorem splice_row {sz i n : Nat} {rows : List (List DV)} {r : List DV} (hr : ∀ r ∈ rows, r.length = sz) (hi : i < rows.length) (h : r.length = sz) : splice (r.map up) (i * sz) (bufC rows n) = bufC (rows.set i r) n := by
  have e1 : rows = rows.take i ++ rows[i] :: rows.drop (i + 1) := by rw [← List.drop_eq_getElem_cons hi, List.take_append_drop]
  have h1 : (flatU (rows.take i)).length = i * sz := by
    rw [flatU_len fun q hq => hr q (List.mem_of_mem_take hq), List.length_take, Nat.min_eq_left (by omega)]
  have h2 : (rows[i].map up).length = sz := by rw [List.length_map]; exact hr _ (List.getElem_mem hi)
  have e2 : bufC rows n = flatU (rows.take i) ++ (rows[i].map up ++ (flatU (rows.drop (i + 1)) ++ anys n)) := by
    have e4 := congrArg flatU e1
    rw [flatU_app] at e4
    have e5 := flatU_cons rows[i] (rows.drop (i + 1))
    rw [bufC, e4, e5, List.append_assoc, List.append_assoc]
  have e3 : bufC (rows.set i r) n = flatU (rows.take i) ++ (r.map up ++ (flatU (rows.drop (i + 1)) ++ anys n)) := by
    rw [bufC, List.set_eq_take_append_cons_drop, if_pos hi, flatU_app, List.append_assoc]
    have e5 := flatU_cons r (rows.drop (i + 1))
    rw [e5, List.append_assoc]
  rw [e2, e3]
  unfold splice
  rw [← h1, List.take_left, List.length_map, h, ← h2, List.append_assoc]
  congr 1
  congr 1
  rw [List.drop_append, Nat.add_sub_cancel_left, List.drop_eq_nil_of_le (by omega), List.nil_append, List.drop_left]

/-- A row of an owned slice is written. -/
theorem doesWS_row {P : Program} {T : Nat → TI} (hT : ∀ t, T t = tiOf P t) {o : Oper} {t k off sz i n : Nat} {x y : Operand} {rows : List (List DV)} (row : List DV) (ho : o.op = .store t x y) (hx : ev env x = .ptr k off) (hy : cellsOf (ev env y) = some (row.map up)) (hs : (T t).kd ≠ .other) (hsz : (T t).size = sz) (hoff : off = i * sz)
    (hr : ∀ r ∈ rows, r.length = sz) (hi : i < rows.length) (hl : row.length = sz) : DoesWS P o env own k (.buf rows n) (.buf (rows.set i row) n) := by
  subst hoff
  rw [hT t] at hs hsz
  refine doesWS_buf hx fun ty => ?_
  rw [← splice_row hr hi hl]
  refine doesW_store ho hx hy hs (by rw [List.length_map, hl, hsz]) ?_
  rw [List.length_map, hl, bufC, List.length_append, flatU_len hr]
  have : (i + 1) * sz ≤ rows.length * sz := Nat.mul_le_mul_right _ hi
  rw [Nat.add_mul, Nat.one_mul] at this
  omega

/-- The same, in the text's order. -/
theorem at_storeB {T : Nat → TI} (hT : ∀ t, T t = tiOf E.P t) {t k off sz i n : Nat} {x y : Operand} {rows : List (List DV)} (row : List DV) (ho : o.op = .store t x y) (hdst : o.dst = none) (hx : ev env x = .ptr k off) (hk : ownq own k = some (.buf rows n)) (hy : cellsOf (ev env y) = some (row.map up)) (hs : (T t).kd ≠ .other) (hsz : (T t).size = sz) (hoff : off = i * sz)
    (hr : ∀ r ∈ rows, r.length = sz) (hi : i < rows.length) (hl : row.length = sz) (hso : setOwnK k (.buf (rows.set i row) n) own some = some own2) (kk : Sat E (.ops all rest) s env own2 nx)
    (hg : guardK all o.guard env true false false = true := by rfl) : Sat E (.ops all (o :: rest)) s env own nx := by
  intro a w hat
  have hwant := wanted_of (E := E) (own := own) hg a w hat
  rw [setOwnK_eq] at hso
  simp only [Option.some.injEq] at hso
  subst hso
  unfold wpList
  rw [if_pos hwant]
  refine .inl ?_
  obtain ⟨hdf, g, H, hdn⟩ := hat
  obtain ⟨w', h1, h2⟩ := doesWS_row (own := own) hT row ho hx hy hs hsz hoff hr hi hl E.cx g H E.n own env a w hdn hdn hk
  unfold Oper.wp
  rw [h1]
  show wpList E.P all.toArray (KK E s) rest (a.put o.dst undef) w'
  rw [hdst]
  exact kk _ _ ⟨hdf, g, H, h2⟩
end Go.Eng
namespace Go.Proofs.Ytmnmhehddbemkaa
open Go Go.Eng

abbrev rsO (L out : List Tm) (c r : Nat) : List (Nat × SO) := [(0, .cells 73 [.lst 4 (rowsT L), .sl 1 0 out.length c]), (1, .buf (rowsT out) r)]
abbrev zSV : SV := .agg [I 0, I 0, .str .empty, .tl 0 []]
theorem rowsT_sz {l : List Tm} : ∀ r ∈ rowsT l, r.length = 4 := by
  intro r hr
  rw [rowsT_map] at hr
  obtain ⟨t, _, rfl⟩ := List.mem_map.1 hr
  exact row_len t

theorem at_no_fn (L out : List Tm) (c r : Nat) (n : Int) (h : inF n out.length = false) : Contract Try.prog 86 2 (rsO L out c r) [.ptr 0 0, I n] fun s post => s = .tup [zSV, .ff] ∧ post = rsO L out c r := by
  refine contract_of ty_ok [3, 4, 5, 6, 7] Try.func86 rfl (by decide) Try.ntmps86 rfl fun z => ?_
  refine run 400 rfl ?_
  refine at_split 8 rfl (fun q => ?_) (fun q => ?_)
  · refine run 400 rfl ?_
    exact at_ret rfl rfl (rsO L out c r) ⟨rfl, rfl⟩ ⟨rfl, rfl, trivial⟩
  · refine run 400 rfl ?_
    refine at_ifd rfl (fun q2 => ?_) (fun q2 => ?_)
    · refine run 400 rfl ?_
      exact at_ret rfl rfl (rsO L out c r) ⟨rfl, rfl⟩ ⟨rfl, rfl, trivial⟩
    · exfalso
      simp [inF] at h q
      omega
theorem at_yes_fn (L out : List Tm) (c r : Nat) (n : Int) (h : inF n out.length = true) : Contract Try.prog 86 2 (rsO L out c r) [.ptr 0 0, I n] fun s post => s = .tup [(out.getD n.toNat .zero).sv, .tt] ∧ post = rsO L out c r := by
  have hn := inF_lt h
  have hget := rowsT_get (l := out) (n := n.toNat) (by omega)
  generalize out.getD n.toNat .zero = u at hget
  refine contract_of ty_ok [3, 4, 5, 6, 7] Try.func86 rfl (by decide) Try.ntmps86 rfl fun z => ?_
  refine run 400 rfl ?_
  refine at_false 8 rfl (by simp; omega) ?_
  refine run 400 rfl ?_
  refine at_ifd rfl (fun q2 => ?_) (fun q2 => ?_)
  · omega
  · refine run 400 rfl ?_
    refine at_val (.ptr 1 (0 + n.toNat * 4)) (does_indexS ty_ok rfl rfl rfl hn rfl) ?_
    refine at_val u.sv (does_loadB ty_ok rfl rfl rfl rfl rfl (Nat.zero_add _) rowsT_sz hget) ?_
    refine run 400 rfl ?_
    exact at_ret rfl rfl (rsO L out c r) ⟨rfl, rfl⟩ ⟨rfl, rfl, trivial⟩

/-- One move, by the document, ahead of the question whether the result may be. -/
def oneF (l res : List Tm) (m : Mv) : Option Tm × Int :=
  match readF m with
  | none => (none, 2)
  | some s => if nearF s res.length l.length then (match stepT l res s with
    | some t => (some t, 0)
    | none => (none, 3)) else (none, 8)
abbrev oneS (r : Option Tm × Int) : SV := match r with
  | (some t, e) => .tup [t.sv, I e]
  | (none, e) => .tup [zSV, I e]
end Go.Proofs.Ytmnmhehddbemkaa
