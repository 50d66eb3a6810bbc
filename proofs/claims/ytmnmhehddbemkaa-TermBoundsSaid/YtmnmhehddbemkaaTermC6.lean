/- The texts W4v, W1a, W1b, Own2, W1c, P1, Q1, Q2, Own3, Stage, one behind the other: an executor over the translated code, contracts of functions, and their laws. -/
import Derived.Lib.Bytealg
import Derived.Laws.Externs
import Derived.Test.YtmnmhehddbemkaaTermC5
namespace Go.Proofs.Ytmnmhehddbemkaa
open Go Go.Eng

theorem tl_data (a : ByteArray) : a.toList = a.data.toList := by
  unfold ByteArray.toList
  rw [loop_eq a _ 0 [] rfl]
  simp
theorem sq_data (a b : ByteArray) : seq a b = (a.data.toList == b.data.toList) := by rw [seq, tl_data, tl_data]
theorem right_eq (t : Tm) : rightF t = ((((kidsF t.k == ((rowsT t.kids).length : Int)) && !(!(t.k == 1) && !(seq t.s .empty)) && !decide (1024 < (t.s.size : Int))) && !(!(t.k == 2) && !(t.n == 0))) && !decide (t.n < 0) && !decide (1073741824 < t.n)) := by
  have hs : seq t.s .empty = true → t.s.size = 0 := by
    intro h
    rw [sq_data] at h
    have : t.s.data = ByteArray.empty.data := by simpa using h
    show t.s.data.size = 0
    rw [this]
    rfl
  unfold rightF
  rw [rowsT_len]
  have e1 : ((t.kids.length : Int) == kidsF t.k) = (kidsF t.k == (t.kids.length : Int)) := by
    rw [Bool.eq_iff_iff, beq_iff_eq, beq_iff_eq]
    exact eq_comm
  have e2 : (seq t.s .empty || (t.k == 1 && decide ((t.s.size : Int) ≤ 1024))) = (!(!(t.k == 1) && !(seq t.s .empty)) && !decide (1024 < (t.s.size : Int))) := by
    cases hq : seq t.s .empty with
    | true =>
      have := hs hq
      simp [this]
    | false =>
      cases hk : (t.k == 1)
      · simp
      · simp only [Bool.false_or, Bool.true_and, Bool.not_true, Bool.false_and, Bool.not_false]
        rw [Bool.eq_iff_iff]
        simp
  have e3 : (t.n == 0 || (t.k == 2 && decide (0 < t.n) && decide (t.n ≤ 1073741824))) = (!(!(t.k == 2) && !(t.n == 0)) && !decide (t.n < 0) && !decide (1073741824 < t.n)) := by
    cases hk : (t.k == 2) with
    | false =>
      by_cases h : t.n = 0
      · simp [h]
      · have h : (t.n == 0) = false := by simpa using h
        simp [h]
    | true =>
      rw [Bool.eq_iff_iff]
      simp
      omega
  rw [e1, e2, e3]
  simp only [Bool.and_assoc]

/-- What is left. -/
def wk (r : Bool × Int) : Int := if r.1 then 64 - r.2 else -1
theorem wk_may {t : Tm} {d left : Int} (h0 : 0 ≤ left ∧ left ≤ 64) : -1 ≤ wk (mayT t d (64 - left)) ∧ wk (mayT t d (64 - left)) ≤ 64 := by
  have := mayT_le t d (64 - left) (by omega) (by omega)
  unfold wk
  split
  · rename_i h
    have := this.2.2 h
    omega
  · omega
theorem wk_cons {t : Tm} {l : List Tm} {d left : Int} (h0 : 0 ≤ left ∧ left ≤ 64) : wk (mayL (t :: l) d (64 - left)) = if wk (mayT t d (64 - left)) < 0 then -1 else wk (mayL l d (64 - wk (mayT t d (64 - left)))) := by
  have := mayT_le t d (64 - left) (by omega) (by omega)
  rw [mayL]
  rcases hm : mayT t d (64 - left) with ⟨b, c'⟩
  rw [hm] at this
  dsimp only at this
  cases b with
  | false => simp [wk]
  | true =>
    have h64 := this.2.2 rfl
    have e : wk (true, c') = 64 - c' := rfl
    rw [e, if_neg (by omega)]
    dsimp only
    rw [show (64 : Int) - (64 - c') = c' by omega]

set_option maxRecDepth 100000 in
theorem walk_g0 (k n : Int) (s : ByteArray) (l : List Tm) (d left : Int) (hd : 0 ≤ d) (hl : left ≤ 64) (ih : ∀ u ∈ l, ∀ d left : Int, 0 ≤ left → left ≤ 64 → 0 ≤ d → d ≤ 17 → Gives Try.prog 69 [u.sv, I d, I left] (I (wk (mayT u d (64 - left))))) (h1 : decide (left < 1) = false) (h2 : decide (16 < d) = false) (h3 : (!(kidsF (Tm.mk k n s l).k == ((rowsT (Tm.mk k n s l).kids).length : Int))) = false) (h4 : (!((Tm.mk k n s l).k == 1)) = true) (h5 : (!(seq (Tm.mk k n s l).s .empty)) = false) (h6 : decide (1024 < ((Tm.mk k n s l).s.size : Int)) = false) (h7 : (!((Tm.mk k n s l).k == 2)) = true) (h8 : (!((Tm.mk k n s l).n == 0)) = false) (h9 : decide ((Tm.mk k n s l).n < 0) = false) (h10 : decide (1073741824 < (Tm.mk k n s l).n) = false) : Gives Try.prog 69 [(Tm.mk k n s l).sv, I d, I left] (I (wk (mayL l (d + 1) (64 - left + 1)))) := by
  have hd16 : d ≤ 16 := by simpa using h2
  have hl1 : 1 ≤ left := by simp at h1; omega
  have hlen2 : l.length ≤ 2 := by
    have : kidsF k = ((rowsT l).length : Int) := by simpa using h3
    rw [rowsT_len] at this
    have := kidsF_le k
    omega
  have hlen0 : ((rowsT l).length : Int) = l.length := by rw [rowsT_len]
  refine contract_of ty_ok [0, 1, 2, 3, 4, 5, 6, 7] Try.func69 rfl (by decide) Try.ntmps69 rfl fun z => ?_
  refine run 400 rfl ?_
  refine at_drawn 51 rfl rfl [(2, .no), (6, .no), (9, .sv (I (kidsF k))), (15, .no), (19, .yes), (25, .no), (31, .no), (35, .yes), (41, .no), (46, .no)] [20, 21, 22] rfl ⟨h9, h8, h7, h6, h5, h4, h3, kids94_fn _, h2, h1⟩ ?_
  refine run 400 rfl ?_
  refine at_ifd rfl (fun g => ?_) (fun g => ?_)
  · exact absurd g (by simpa using h10)
  refine run 400 rfl ?_
  refine at_loop (fun x : Int × Int => 0 ≤ x.1 ∧ x.1 ≤ l.length ∧ -1 ≤ x.2 ∧ x.2 ≤ 64 ∧ wk (mayL l (d + 1) (64 - left + 1)) = if x.2 < 0 then -1 else wk (mayL (l.drop x.1.toNat) (d + 1) (64 - x.2)))
    (fun x => [(1, I d), (2, I x.2), (3, .ptr 0 0), (7, I x.1)]) (fun x => [(0, .cells 33 [I k, I n, .str s, .lst 4 (rowsT l)])]) (fun x => (l.length - x.1).toNat) [1, 2, 3, 4, 5, 6, 7]
    (0, left - 1) ⟨by omega, by dsimp only; omega, by dsimp only; omega, by dsimp only; omega, by dsimp only; rw [if_neg (by omega), show (64 : Int) - (left - 1) = 64 - left + 1 by omega]; rfl⟩ ⟨SVle.refl _, SVle.refl _, SVle.refl _, SVle.refl _, trivial⟩ ⟨rfl, trivial⟩ ?_
  rintro ⟨i, lf⟩ ⟨a1, a2, a3, a4, a5⟩
  dsimp only at a1 a2 a3 a4 a5
  refine run 400 rfl ?_
  refine at_split 66 rfl (fun q => ?_) (fun q => ?_)
  rotate_left
  · have q : ¬ i < ((rowsT l).length : Int) := by simpa using q
    rw [hlen0] at q
    refine run 400 rfl ?_
    have e : l.drop i.toNat = [] := List.drop_eq_nil_of_le (by omega)
    rw [e, mayL] at a5
    refine at_ret rfl rfl [] ⟨?_, rfl, rfl⟩ trivial
    rw [a5]
    show I lf = I _
    split
    · rw [show lf = -1 by omega]
    · rw [wk, if_pos rfl, show lf = 64 - (64 - lf) by omega]
      congr 1
      omega
  have q : i < ((rowsT l).length : Int) := by simpa using q
  rw [hlen0] at q
  refine run 400 rfl ?_
  refine at_ifd rfl (fun q2 => ?_) (fun q2 => ?_)
  rotate_left
  · refine run 400 rfl ?_
    refine at_ret rfl rfl [] ⟨?_, rfl, rfl⟩ trivial
    rw [a5, if_pos (by omega), show lf = -1 by omega]
  have hlt : i.toNat < l.length := by omega
  have hget := rowsT_get hlt
  have hmem := getD_mem hlt
  have hdrop := drop_getD hlt
  generalize l.getD i.toNat .zero = u at hget hmem hdrop
  rw [hdrop, if_neg (by omega), wk_cons (by omega)] at a5
  have hcall := ih u hmem (d + 1) lf (by omega) a4 (by omega) (by omega)
  have hw := wk_may (t := u) (d := d + 1) (left := lf) (by omega)
  generalize wk (mayT u (d + 1) (64 - lf)) = nl at hcall hw a5
  refine run 400 rfl ?_
  refine at_val (.rp (tr u) 0) (does_index ty_ok _ rfl rfl rfl (by omega) (show (rowsT l)[i.toNat]? = some (tr u) from hget) rfl) ?_
  refine run 400 rfl ?_
  refine at_fn hcall rfl ?_
  refine run 400 rfl ?_
  exact at_again (i + 1, nl) ⟨by dsimp only; omega, by dsimp only; omega, by dsimp only; omega, by dsimp only; omega, by dsimp only; rw [a5, show (i + 1).toNat = i.toNat + 1 by omega]⟩ (by dsimp only; omega) ⟨SVle.refl _, SVle.refl _, SVle.refl _, SVle.refl _, trivial⟩ ⟨rfl, trivial⟩

set_option maxRecDepth 100000 in
theorem walk_g1 (k n : Int) (s : ByteArray) (l : List Tm) (d left : Int) (hd : 0 ≤ d) (hl : left ≤ 64) (ih : ∀ u ∈ l, ∀ d left : Int, 0 ≤ left → left ≤ 64 → 0 ≤ d → d ≤ 17 → Gives Try.prog 69 [u.sv, I d, I left] (I (wk (mayT u d (64 - left))))) (h1 : decide (left < 1) = false) (h2 : decide (16 < d) = false) (h3 : (!(kidsF (Tm.mk k n s l).k == ((rowsT (Tm.mk k n s l).kids).length : Int))) = false) (h4 : (!((Tm.mk k n s l).k == 1)) = true) (h5 : (!(seq (Tm.mk k n s l).s .empty)) = false) (h6 : decide (1024 < ((Tm.mk k n s l).s.size : Int)) = false) (h7 : (!((Tm.mk k n s l).k == 2)) = false) (h9 : decide ((Tm.mk k n s l).n < 0) = false) (h10 : decide (1073741824 < (Tm.mk k n s l).n) = false) : Gives Try.prog 69 [(Tm.mk k n s l).sv, I d, I left] (I (wk (mayL l (d + 1) (64 - left + 1)))) := by
  have hd16 : d ≤ 16 := by simpa using h2
  have hl1 : 1 ≤ left := by simp at h1; omega
  have hlen2 : l.length ≤ 2 := by
    have : kidsF k = ((rowsT l).length : Int) := by simpa using h3
    rw [rowsT_len] at this
    have := kidsF_le k
    omega
  have hlen0 : ((rowsT l).length : Int) = l.length := by rw [rowsT_len]
  refine contract_of ty_ok [0, 1, 2, 3, 4, 5, 6, 7] Try.func69 rfl (by decide) Try.ntmps69 rfl fun z => ?_
  refine run 400 rfl ?_
  refine at_drawn 51 rfl rfl [(2, .no), (6, .no), (9, .sv (I (kidsF k))), (15, .no), (19, .yes), (25, .no), (31, .no), (35, .no), (46, .no)] [20, 21, 22] rfl ⟨h9, h7, h6, h5, h4, h3, kids94_fn _, h2, h1⟩ ?_
  refine run 400 rfl ?_
  refine at_ifd rfl (fun g => ?_) (fun g => ?_)
  · exact absurd g (by simpa using h10)
  refine run 400 rfl ?_
  refine at_loop (fun x : Int × Int => 0 ≤ x.1 ∧ x.1 ≤ l.length ∧ -1 ≤ x.2 ∧ x.2 ≤ 64 ∧ wk (mayL l (d + 1) (64 - left + 1)) = if x.2 < 0 then -1 else wk (mayL (l.drop x.1.toNat) (d + 1) (64 - x.2)))
    (fun x => [(1, I d), (2, I x.2), (3, .ptr 0 0), (7, I x.1)]) (fun x => [(0, .cells 33 [I k, I n, .str s, .lst 4 (rowsT l)])]) (fun x => (l.length - x.1).toNat) [1, 2, 3, 4, 5, 6, 7]
    (0, left - 1) ⟨by omega, by dsimp only; omega, by dsimp only; omega, by dsimp only; omega, by dsimp only; rw [if_neg (by omega), show (64 : Int) - (left - 1) = 64 - left + 1 by omega]; rfl⟩ ⟨SVle.refl _, SVle.refl _, SVle.refl _, SVle.refl _, trivial⟩ ⟨rfl, trivial⟩ ?_
  rintro ⟨i, lf⟩ ⟨a1, a2, a3, a4, a5⟩
  dsimp only at a1 a2 a3 a4 a5
  refine run 400 rfl ?_
  refine at_split 66 rfl (fun q => ?_) (fun q => ?_)
  rotate_left
  · have q : ¬ i < ((rowsT l).length : Int) := by simpa using q
    rw [hlen0] at q
    refine run 400 rfl ?_
    have e : l.drop i.toNat = [] := List.drop_eq_nil_of_le (by omega)
    rw [e, mayL] at a5
    refine at_ret rfl rfl [] ⟨?_, rfl, rfl⟩ trivial
    rw [a5]
    show I lf = I _
    split
    · rw [show lf = -1 by omega]
    · rw [wk, if_pos rfl, show lf = 64 - (64 - lf) by omega]
      congr 1
      omega
  have q : i < ((rowsT l).length : Int) := by simpa using q
  rw [hlen0] at q
  refine run 400 rfl ?_
  refine at_ifd rfl (fun q2 => ?_) (fun q2 => ?_)
  rotate_left
  · refine run 400 rfl ?_
    refine at_ret rfl rfl [] ⟨?_, rfl, rfl⟩ trivial
    rw [a5, if_pos (by omega), show lf = -1 by omega]
  have hlt : i.toNat < l.length := by omega
  have hget := rowsT_get hlt
  have hmem := getD_mem hlt
  have hdrop := drop_getD hlt
  generalize l.getD i.toNat .zero = u at hget hmem hdrop
  rw [hdrop, if_neg (by omega), wk_cons (by omega)] at a5
  have hcall := ih u hmem (d + 1) lf (by omega) a4 (by omega) (by omega)
  have hw := wk_may (t := u) (d := d + 1) (left := lf) (by omega)
  generalize wk (mayT u (d + 1) (64 - lf)) = nl at hcall hw a5
  refine run 400 rfl ?_
  refine at_val (.rp (tr u) 0) (does_index ty_ok _ rfl rfl rfl (by omega) (show (rowsT l)[i.toNat]? = some (tr u) from hget) rfl) ?_
  refine run 400 rfl ?_
  refine at_fn hcall rfl ?_
  refine run 400 rfl ?_
  exact at_again (i + 1, nl) ⟨by dsimp only; omega, by dsimp only; omega, by dsimp only; omega, by dsimp only; omega, by dsimp only; rw [a5, show (i + 1).toNat = i.toNat + 1 by omega]⟩ (by dsimp only; omega) ⟨SVle.refl _, SVle.refl _, SVle.refl _, SVle.refl _, trivial⟩ ⟨rfl, trivial⟩

set_option maxRecDepth 100000 in
theorem walk_g2 (k n : Int) (s : ByteArray) (l : List Tm) (d left : Int) (hd : 0 ≤ d) (hl : left ≤ 64) (ih : ∀ u ∈ l, ∀ d left : Int, 0 ≤ left → left ≤ 64 → 0 ≤ d → d ≤ 17 → Gives Try.prog 69 [u.sv, I d, I left] (I (wk (mayT u d (64 - left))))) (h1 : decide (left < 1) = false) (h2 : decide (16 < d) = false) (h3 : (!(kidsF (Tm.mk k n s l).k == ((rowsT (Tm.mk k n s l).kids).length : Int))) = false) (h4 : (!((Tm.mk k n s l).k == 1)) = false) (h6 : decide (1024 < ((Tm.mk k n s l).s.size : Int)) = false) (h7 : (!((Tm.mk k n s l).k == 2)) = true) (h8 : (!((Tm.mk k n s l).n == 0)) = false) (h9 : decide ((Tm.mk k n s l).n < 0) = false) (h10 : decide (1073741824 < (Tm.mk k n s l).n) = false) : Gives Try.prog 69 [(Tm.mk k n s l).sv, I d, I left] (I (wk (mayL l (d + 1) (64 - left + 1)))) := by
  have hd16 : d ≤ 16 := by simpa using h2
  have hl1 : 1 ≤ left := by simp at h1; omega
  have hlen2 : l.length ≤ 2 := by
    have : kidsF k = ((rowsT l).length : Int) := by simpa using h3
    rw [rowsT_len] at this
    have := kidsF_le k
    omega
  have hlen0 : ((rowsT l).length : Int) = l.length := by rw [rowsT_len]
  refine contract_of ty_ok [0, 1, 2, 3, 4, 5, 6, 7] Try.func69 rfl (by decide) Try.ntmps69 rfl fun z => ?_
  refine run 400 rfl ?_
  refine at_drawn 51 rfl rfl [(2, .no), (6, .no), (9, .sv (I (kidsF k))), (15, .no), (19, .no), (31, .no), (35, .yes), (41, .no), (46, .no)] [20, 21, 22] rfl ⟨h9, h8, h7, h6, h4, h3, kids94_fn _, h2, h1⟩ ?_
  refine run 400 rfl ?_
  refine at_ifd rfl (fun g => ?_) (fun g => ?_)
  · exact absurd g (by simpa using h10)
  refine run 400 rfl ?_
  refine at_loop (fun x : Int × Int => 0 ≤ x.1 ∧ x.1 ≤ l.length ∧ -1 ≤ x.2 ∧ x.2 ≤ 64 ∧ wk (mayL l (d + 1) (64 - left + 1)) = if x.2 < 0 then -1 else wk (mayL (l.drop x.1.toNat) (d + 1) (64 - x.2)))
    (fun x => [(1, I d), (2, I x.2), (3, .ptr 0 0), (7, I x.1)]) (fun x => [(0, .cells 33 [I k, I n, .str s, .lst 4 (rowsT l)])]) (fun x => (l.length - x.1).toNat) [1, 2, 3, 4, 5, 6, 7]
    (0, left - 1) ⟨by omega, by dsimp only; omega, by dsimp only; omega, by dsimp only; omega, by dsimp only; rw [if_neg (by omega), show (64 : Int) - (left - 1) = 64 - left + 1 by omega]; rfl⟩ ⟨SVle.refl _, SVle.refl _, SVle.refl _, SVle.refl _, trivial⟩ ⟨rfl, trivial⟩ ?_
  rintro ⟨i, lf⟩ ⟨a1, a2, a3, a4, a5⟩
  dsimp only at a1 a2 a3 a4 a5
  refine run 400 rfl ?_
  refine at_split 66 rfl (fun q => ?_) (fun q => ?_)
  rotate_left
  · have q : ¬ i < ((rowsT l).length : Int) := by simpa using q
    rw [hlen0] at q
    refine run 400 rfl ?_
    have e : l.drop i.toNat = [] := List.drop_eq_nil_of_le (by omega)
    rw [e, mayL] at a5
    refine at_ret rfl rfl [] ⟨?_, rfl, rfl⟩ trivial
    rw [a5]
    show I lf = I _
    split
    · rw [show lf = -1 by omega]
    · rw [wk, if_pos rfl, show lf = 64 - (64 - lf) by omega]
      congr 1
      omega
  have q : i < ((rowsT l).length : Int) := by simpa using q
  rw [hlen0] at q
  refine run 400 rfl ?_
  refine at_ifd rfl (fun q2 => ?_) (fun q2 => ?_)
  rotate_left
  · refine run 400 rfl ?_
    refine at_ret rfl rfl [] ⟨?_, rfl, rfl⟩ trivial
    rw [a5, if_pos (by omega), show lf = -1 by omega]
  have hlt : i.toNat < l.length := by omega
  have hget := rowsT_get hlt
  have hmem := getD_mem hlt
  have hdrop := drop_getD hlt
  generalize l.getD i.toNat .zero = u at hget hmem hdrop
  rw [hdrop, if_neg (by omega), wk_cons (by omega)] at a5
  have hcall := ih u hmem (d + 1) lf (by omega) a4 (by omega) (by omega)
  have hw := wk_may (t := u) (d := d + 1) (left := lf) (by omega)
  generalize wk (mayT u (d + 1) (64 - lf)) = nl at hcall hw a5
  refine run 400 rfl ?_
  refine at_val (.rp (tr u) 0) (does_index ty_ok _ rfl rfl rfl (by omega) (show (rowsT l)[i.toNat]? = some (tr u) from hget) rfl) ?_
  refine run 400 rfl ?_
  refine at_fn hcall rfl ?_
  refine run 400 rfl ?_
  exact at_again (i + 1, nl) ⟨by dsimp only; omega, by dsimp only; omega, by dsimp only; omega, by dsimp only; omega, by dsimp only; rw [a5, show (i + 1).toNat = i.toNat + 1 by omega]⟩ (by dsimp only; omega) ⟨SVle.refl _, SVle.refl _, SVle.refl _, SVle.refl _, trivial⟩ ⟨rfl, trivial⟩

theorem walk_fn : ∀ (t : Tm) (d left : Int), 0 ≤ left → left ≤ 64 → 0 ≤ d → d ≤ 17 → Gives Try.prog 69 [t.sv, I d, I left] (I (wk (mayT t d (64 - left)))) := by
  intro t
  induction t using Tm.ind with
  | h k n s l ih =>
    intro d left h0 h64 hd hd17
    have hr := right_eq (.mk k n s l)
    cases h1 : decide (left < 1) with
    | true => exact (walk_f0 (.mk k n s l) d left h1).le (SVle.of_eq (by simp at h1; rw [mayT, if_pos (by omega)]; rfl))
    | false => ?_
    have h1' : ¬ 64 < 64 - left + 1 := by simp at h1; omega
    cases h2 : decide (16 < d) with
    | true => exact (walk_f1 (.mk k n s l) d left h1 h2).le (SVle.of_eq (by simp at h2; rw [mayT, if_neg h1', if_pos (by omega)]; rfl))
    | false => ?_
    have h2' : ¬ 16 < d := by simpa using h2
    have no : rightF (.mk k n s l) = false → I (-1) = I (wk (mayT (.mk k n s l) d (64 - left))) := fun h => by rw [mayT, if_neg h1', if_neg h2', if_pos h]; rfl
    have yes : rightF (.mk k n s l) = true → I (wk (mayL l (d + 1) (64 - left + 1))) = I (wk (mayT (.mk k n s l) d (64 - left))) := fun h => by rw [mayT, if_neg h1', if_neg h2', if_neg (by simp [h])]
    cases h3 : (!(kidsF (Tm.mk k n s l).k == ((rowsT (Tm.mk k n s l).kids).length : Int))) with
    | true => exact (walk_f2 (.mk k n s l) d left h1 h2 h3).le (SVle.of_eq (no (by rw [hr]; simp only [Bool.not_eq_true'] at h3; simp [h3])))
    | false => ?_
    cases h4 : (!((Tm.mk k n s l).k == 1)) with
    | true =>
      cases h5 : (!(seq (Tm.mk k n s l).s .empty)) with
      | true =>
        exact (walk_f3 (.mk k n s l) d left h1 h2 h3 h4 h5).le (SVle.of_eq (no (by rw [hr]; simp only [Bool.not_eq_true', Bool.not_eq_false'] at h3 h4 h5; simp [*])))
      | false =>
        cases h6 : decide (1024 < ((Tm.mk k n s l).s.size : Int)) with
        | true =>
          exact (walk_f4 (.mk k n s l) d left h1 h2 h3 h4 h5 h6).le (SVle.of_eq (no (by rw [hr]; simp only [Bool.not_eq_true', Bool.not_eq_false'] at h3 h4 h5; simp [*])))
        | false =>
          cases h7 : (!((Tm.mk k n s l).k == 2)) with
          | true =>
            cases h8 : (!((Tm.mk k n s l).n == 0)) with
            | true =>
              exact (walk_f5 (.mk k n s l) d left h1 h2 h3 h4 h5 h6 h7 h8).le (SVle.of_eq (no (by rw [hr]; simp only [Bool.not_eq_true', Bool.not_eq_false'] at h3 h4 h5 h7 h8; simp [*])))
            | false =>
              cases h9 : decide ((Tm.mk k n s l).n < 0) with
              | true =>
                exact (walk_f6 (.mk k n s l) d left h1 h2 h3 h4 h5 h6 h7 h8 h9).le (SVle.of_eq (no (by rw [hr]; simp only [Bool.not_eq_true', Bool.not_eq_false'] at h3 h4 h5 h7 h8; simp [*])))
              | false =>
                cases h10 : decide (1073741824 < (Tm.mk k n s l).n) with
                | true =>
                  exact (walk_f7 (.mk k n s l) d left h1 h2 h3 h4 h5 h6 h7 h8 h9 h10).le (SVle.of_eq (no (by rw [hr]; simp only [Bool.not_eq_true', Bool.not_eq_false'] at h3 h4 h5 h7 h8; simp [*])))
                | false =>
                  exact (walk_g0 k n s l d left hd h64 ih h1 h2 h3 h4 h5 h6 h7 h8 h9 h10).le (SVle.of_eq (yes (by rw [hr]; simp only [Bool.not_eq_true', Bool.not_eq_false'] at h3 h4 h5 h7 h8; simp [*])))
          | false =>
            cases h9 : decide ((Tm.mk k n s l).n < 0) with
            | true =>
              exact (walk_f8 (.mk k n s l) d left h1 h2 h3 h4 h5 h6 h7 h9).le (SVle.of_eq (no (by rw [hr]; simp only [Bool.not_eq_true', Bool.not_eq_false'] at h3 h4 h5 h7; simp [*])))
            | false =>
              cases h10 : decide (1073741824 < (Tm.mk k n s l).n) with
              | true =>
                exact (walk_f9 (.mk k n s l) d left h1 h2 h3 h4 h5 h6 h7 h9 h10).le (SVle.of_eq (no (by rw [hr]; simp only [Bool.not_eq_true', Bool.not_eq_false'] at h3 h4 h5 h7; simp [*])))
              | false =>
                exact (walk_g1 k n s l d left hd h64 ih h1 h2 h3 h4 h5 h6 h7 h9 h10).le (SVle.of_eq (yes (by rw [hr]; simp only [Bool.not_eq_true', Bool.not_eq_false'] at h3 h4 h5 h7; simp [*])))
    | false =>
      cases h6 : decide (1024 < ((Tm.mk k n s l).s.size : Int)) with
      | true =>
        exact (walk_f10 (.mk k n s l) d left h1 h2 h3 h4 h6).le (SVle.of_eq (no (by rw [hr]; simp only [Bool.not_eq_false'] at h3 h4; simp [*])))
      | false =>
        cases h7 : (!((Tm.mk k n s l).k == 2)) with
        | true =>
          cases h8 : (!((Tm.mk k n s l).n == 0)) with
          | true =>
            exact (walk_f11 (.mk k n s l) d left h1 h2 h3 h4 h6 h7 h8).le (SVle.of_eq (no (by rw [hr]; simp only [Bool.not_eq_true', Bool.not_eq_false'] at h3 h4 h7 h8; simp [*])))
          | false =>
            cases h9 : decide ((Tm.mk k n s l).n < 0) with
            | true =>
              exact (walk_f12 (.mk k n s l) d left h1 h2 h3 h4 h6 h7 h8 h9).le (SVle.of_eq (no (by rw [hr]; simp only [Bool.not_eq_true', Bool.not_eq_false'] at h3 h4 h7 h8; simp [*])))
            | false =>
              cases h10 : decide (1073741824 < (Tm.mk k n s l).n) with
              | true =>
                exact (walk_f13 (.mk k n s l) d left h1 h2 h3 h4 h6 h7 h8 h9 h10).le (SVle.of_eq (no (by rw [hr]; simp only [Bool.not_eq_true', Bool.not_eq_false'] at h3 h4 h7 h8; simp [*])))
              | false =>
                exact (walk_g2 k n s l d left hd h64 ih h1 h2 h3 h4 h6 h7 h8 h9 h10).le (SVle.of_eq (yes (by rw [hr]; simp only [Bool.not_eq_true', Bool.not_eq_false'] at h3 h4 h7 h8; simp [*])))
        | false =>
          cases h9 : decide ((Tm.mk k n s l).n < 0) with
          | true =>
            exact (walk_f14 (.mk k n s l) d left h1 h2 h3 h4 h6 h7 h9).le (SVle.of_eq (no (by rw [hr]; simp only [Bool.not_eq_false'] at h3 h4 h7; simp [*])))
          | false =>
            cases h10 : decide (1073741824 < (Tm.mk k n s l).n) with
            | true =>
              exact (walk_f15 (.mk k n s l) d left h1 h2 h3 h4 h6 h7 h9 h10).le (SVle.of_eq (no (by rw [hr]; simp only [Bool.not_eq_false'] at h3 h4 h7; simp [*])))
            | false =>
              exfalso
              simp at h4 h7
              omega

theorem rmay_fn (t : Tm) : Gives Try.prog 40 [t.sv] (.bl (mayF t)) := by
  have hw := walk_fn t 1 64 (by omega) (by omega) (by omega) (by omega)
  have e : mayF t = decide (0 ≤ wk (mayT t 1 (64 - 64))) := by
    have := mayT_le t 1 0 (by omega) (by omega)
    unfold mayF wk
    rw [show (64 : Int) - 64 = 0 by omega]
    cases hm : (mayT t 1 0).1 with
    | false => rfl
    | true =>
      have := this.2.2 hm
      exact (decide_eq_true (by simp; omega)).symm
  rw [e]
  refine contract_of ty_ok [0, 1, 2, 3, 4, 5, 6, 7] Try.func40 rfl (by decide) Try.ntmps40 rfl fun z => ?_
  refine run 400 rfl ?_
  refine at_fn hw rfl ?_
  refine run 400 rfl ?_
  exact at_ret rfl rfl [] ⟨rfl, rfl, rfl⟩ trivial
end Go.Proofs.Ytmnmhehddbemkaa
namespace Go.Proofs.Ytmnmhehddbemkaa
open Go Go.Eng

theorem isnan_fn (n : Int) : Gives Try.prog 116 [I n] .ff := by
  refine Gives.le (a := .bl (!(n == n))) ?_ (fun _ _ x h => by
    have h : x = .bool (!(n == n)) := h
    rw [beq_self_eq_true] at h
    exact h)
  refine contract_of ty_ok [0, 1, 2, 3, 4, 5, 6, 7] Try.func116 rfl (by decide) Try.ntmps116 rfl fun z => ?_
  refine run 400 rfl ?_
  exact at_ret rfl rfl [] ⟨rfl, rfl, rfl⟩ trivial

theorem cmpI_fn (a b : Int) : Gives Try.prog 98 [I a, I b] (I (sgI a b)) := by
  refine contract_of ty_ok [0, 1, 2, 3, 4, 5, 6, 7] Try.func98 rfl (by decide) Try.ntmps98 rfl fun z => ?_
  refine run 400 rfl ?_
  refine at_fn (isnan_fn a) rfl ?_
  refine run 400 rfl ?_
  refine at_fn (isnan_fn b) rfl ?_
  refine run 400 rfl ?_
  refine at_ifd rfl (fun h => ?_) (fun h => ?_)
  · refine run 400 rfl ?_
    exact at_ret rfl rfl [] ⟨by rw [sgI, if_pos h], rfl, rfl⟩ trivial
  refine run 400 rfl ?_
  refine at_ifd rfl (fun h2 => ?_) (fun h2 => ?_)
  · refine run 400 rfl ?_
    exact at_ret rfl rfl [] ⟨by rw [sgI, if_neg h, if_pos h2], rfl, rfl⟩ trivial
  refine run 400 rfl ?_
  exact at_ret rfl rfl [] ⟨by rw [sgI, if_neg h, if_neg h2], rfl, rfl⟩ trivial

/-- The order of two strings. -/
theorem does_cmpstr {o : Oper} {env : List (Nat × SV)} {own : List (Nat × SO)} {x y : Operand} {c : Call} (a b : ByteArray) (ho : o.op = .call c) (hc : c.callee = .value (.func 132)) (ha : c.args = #[x, y]) (hx : ev env x = .str a) (hy : ev env y = .str b) :
    DoesV Try.prog o env own (I (Lib.compareBytes a.data.toList b.data.toList)) := by
  refine does_val fun cx g H n act w hd => ⟨.int .i64 (Lib.compareBytes a.data.toList b.data.toList), ?_, rfl⟩
  have e1 : act.eval x = .string a := by have := hd.ev x; rw [hx] at this; exact this
  have e2 : act.eval y = .string b := by have := hd.ev y; rw [hy] at this; exact this
  have e3 : act.eval (.func 132) = .func (.func 132) #[] #[] := rfl
  simp only [execOp, ho, hc, ha, resolve, e3, Deferred.ofValue]
  have hr := run_callFunc_extern Try.func132 (by kernel_rfl) (by kernel_rfl) (by kernel_rfl) (e := Extern.BytealgCompare.compare) (by kernel_rfl) #[.string a, .string b] w
  rw [Lib.run_compareString] at hr
  simpa [invoke, e1, e2] using hr
theorem bytesLess_cmp : ∀ a b : List UInt8, Lib.compareBytes a b = if Op.bytesLess a b then -1 else if !(Op.bytesLess a b || a == b) then 1 else 0
  | [], [] => rfl
  | [], _ :: _ => rfl
  | _ :: _, [] => rfl
  | x :: a, y :: b => by
    rw [Lib.compareBytes, Op.bytesLess, bytesLess_cmp a b]
    by_cases h1 : x < y
    · simp [h1]
    · by_cases h2 : y < x
      · have : x ≠ y := fun e => by rw [e] at h2; exact absurd h2 (UInt8.lt_irrefl y)
        simp [h1, h2, this]
      · have : x = y := UInt8.le_antisymm (UInt8.not_lt.1 h2) (UInt8.not_lt.1 h1)
        subst this
        simp [UInt8.lt_irrefl]
theorem cmpB_sgS (a b : ByteArray) : Lib.compareBytes a.data.toList b.data.toList = sgS a b := by
  rw [bytesLess_cmp, sgS, slt, seq, tl_data, tl_data]

theorem cmpS117_fn (a b : ByteArray) : Gives Try.prog 117 [.str a, .str b] (I (sgS a b)) := by
  rw [← cmpB_sgS]
  refine contract_of ty_ok [0, 1, 2, 3, 4, 5, 6, 7] Try.func117 rfl (by decide) Try.ntmps117 rfl fun z => ?_
  refine run 400 rfl ?_
  refine at_val (I (Lib.compareBytes a.data.toList b.data.toList)) (does_cmpstr a b rfl rfl rfl rfl rfl) ?_
  refine run 400 rfl ?_
  exact at_ret rfl rfl [] ⟨rfl, rfl, rfl⟩ trivial
theorem cmpS_fn (a b : ByteArray) : Gives Try.prog 99 [.str a, .str b] (I (sgS a b)) := by
  refine contract_of ty_ok [0, 1, 2, 3, 4, 5, 6, 7] Try.func99 rfl (by decide) Try.ntmps99 rfl fun z => ?_
  refine run 400 rfl ?_
  refine at_fn (cmpS117_fn a b) rfl ?_
  refine run 400 rfl ?_
  exact at_ret rfl rfl [] ⟨rfl, rfl, rfl⟩ trivial

theorem or4_fn (a b c d : Int) : Gives Try.prog 97 [.lst 1 (ints [a, b, c, d])] (I (orI a (orI b (orI c d)))) := by
  refine contract_of ty_ok [0, 1, 2, 3, 4, 5, 6, 7] Try.func97 rfl (by decide) Try.ntmps97 rfl fun z => ?_
  refine run 400 rfl ?_
  refine at_loop (fun i : Nat => i ≤ 4 ∧ ∀ j, j < i → [a, b, c, d].getD j 0 = 0) (fun i => [(3, I 0), (6, .lst 1 (ints [a, b, c, d])), (7, I 4), (8, I i)]) (fun _ => []) (fun i => 4 - i) [0, 1, 2, 3, 4, 5, 6, 7]
    0 ⟨by omega, fun j h => by omega⟩ ⟨SVle.refl _, SVle.refl _, SVle.refl _, SVle.refl _, trivial⟩ trivial ?_
  rintro i ⟨hi, hz⟩
  refine run 400 rfl ?_
  refine at_ifd rfl (fun g => ?_) (fun g => ?_)
  rotate_left
  · refine run 400 rfl ?_
    have e : i = 4 := by omega
    subst e
    have h0 : a = 0 := hz 0 (by omega)
    have h1 : b = 0 := hz 1 (by omega)
    have h2 : c = 0 := hz 2 (by omega)
    have h3 : d = 0 := hz 3 (by omega)
    exact at_ret rfl rfl [] ⟨by rw [h0, h1, h2, h3]; rfl, rfl, rfl⟩ trivial
  have hlt : i < 4 := by omega
  obtain ⟨v, hv⟩ : ∃ v, (ints [a, b, c, d])[i]? = some [.int .i64 v] ∧ [a, b, c, d].getD i 0 = v := by
    match i, hlt with
    | 0, _ => exact ⟨a, rfl, rfl⟩
    | 1, _ => exact ⟨b, rfl, rfl⟩
    | 2, _ => exact ⟨c, rfl, rfl⟩
    | 3, _ => exact ⟨d, rfl, rfl⟩
  refine run 400 rfl ?_
  refine at_val (.rp [.int .i64 v] 0) (does_index ty_ok _ rfl rfl rfl (by omega) (show (ints [a, b, c, d])[(i : Int).toNat]? = some [.int .i64 v] from hv.1) rfl) ?_
  refine run 400 rfl ?_
  refine at_if rfl (fun q => ?_) (fun q => ?_)
  · refine run 400 rfl ?_
    have q : v ≠ 0 := by simpa using q
    refine at_ret rfl rfl [] ⟨?_, rfl, rfl⟩ trivial
    have hz' := hz
    match i, hlt, hv.2, hz' with
    | 0, _, e, _ => simp at e; rw [e, orI_ne q]
    | 1, _, e, z => simp at e; rw [show a = 0 from z 0 (by omega), e, orI_00, orI_ne q]
    | 2, _, e, z => simp at e; rw [show a = 0 from z 0 (by omega), show b = 0 from z 1 (by omega), e, orI_00, orI_00, orI_ne q]
    | 3, _, e, z => simp at e; rw [show a = 0 from z 0 (by omega), show b = 0 from z 1 (by omega), show c = 0 from z 2 (by omega), e, orI_00, orI_00, orI_00]
  · have q : v = 0 := by simpa using q
    refine run 400 rfl ?_
    exact at_again (i + 1) ⟨by omega, fun j hj => by
      by_cases e : j = i
      · rw [e, hv.2, q]
      · exact hz j (by omega)⟩ (by omega) ⟨SVle.refl _, SVle.refl _, SVle.refl _, SVle.of_eq (by show I ((i : Int) + 1) = I ((i + 1 : Nat) : Int); rw [Int.natCast_add]; rfl), trivial⟩ trivial
end Go.Proofs.Ytmnmhehddbemkaa
namespace Go.Proofs.Ytmnmhehddbemkaa
open Go Go.Eng

theorem cmpL_fn (l l' : List Tm) (hl : l.length ≤ 1000000) (ih : ∀ t ∈ l, ∀ u : Tm, Gives Try.prog 77 [t.sv, u.sv] (I (ordT t u))) : Gives Try.prog 100 [.lst 4 (rowsT l), .lst 4 (rowsT l'), .clo 77 []] (I (orI (ordL l l') (sgI l.length l'.length))) := by
  have hl1 : ((rowsT l).length : Int) = l.length := by rw [rowsT_len]
  have hl2 : ((rowsT l').length : Int) = l'.length := by rw [rowsT_len]
  refine contract_of ty_ok [0, 1, 2, 3, 4, 5, 6, 7] Try.func100 rfl (by decide) Try.ntmps100 rfl fun z => ?_
  refine run 400 rfl ?_
  refine at_loop (fun i : Nat => i ≤ l.length ∧ i ≤ l'.length ∧ ordL (l.drop i) (l'.drop i) = ordL l l') (fun i => [(0, .lst 4 (rowsT l)), (1, .lst 4 (rowsT l')), (2, .clo 77 []), (11, .lst 4 (rowsT l)), (12, I (rowsT l).length), (13, I i)]) (fun _ => []) (fun i => l.length - i) [0, 1, 2, 3, 4, 5, 6, 7]
    0 ⟨by omega, by omega, rfl⟩ ⟨SVle.refl _, SVle.refl _, SVle.refl _, SVle.refl _, SVle.refl _, SVle.refl _, trivial⟩ trivial ?_
  rintro i ⟨hi, hi2, ho⟩
  refine run 400 rfl ?_
  refine at_ifd rfl (fun g => ?_) (fun g => ?_)
  rotate_left
  · rw [hl1] at g
    have hfin : ordL l l' = 0 := by
      rw [← ho, List.drop_eq_nil_of_le (by omega)]
      cases l'.drop i <;> simp [ordL]
    refine run 400 rfl ?_
    refine at_ifd rfl (fun q => ?_) (fun q => ?_)
    · rw [hl1, hl2] at q
      refine run 400 rfl ?_
      exact at_ret rfl rfl [] ⟨by rw [hfin, orI_00, sgI, if_pos q], rfl, rfl⟩ trivial
    · rw [hl1, hl2] at q
      refine run 400 rfl ?_
      exact at_ret rfl rfl [] ⟨by rw [hfin, orI_00, sgI, if_neg q, if_neg (by omega)], rfl, rfl⟩ trivial
  rw [hl1] at g
  have hlt : i < l.length := by omega
  have hget := rowsT_get hlt
  have hmem := getD_mem hlt
  rw [drop_getD hlt] at ho
  generalize l.getD i .zero = u at hget hmem ho
  refine run 400 rfl ?_
  refine at_val (.rp (tr u) 0) (does_index ty_ok _ rfl rfl rfl (by omega) (show (rowsT l)[(i : Int).toNat]? = some (tr u) from hget) rfl) ?_
  refine run 400 rfl ?_
  refine at_ifd rfl (fun q => ?_) (fun q => ?_)
  · rw [hl2] at q
    refine run 400 rfl ?_
    have e : l'.drop i = [] := List.drop_eq_nil_of_le (by omega)
    refine at_ret rfl rfl [] ⟨?_, rfl, rfl⟩ trivial
    rw [← ho, e]
    simp only [ordL]
    rw [orI_00, sgI, if_neg (by omega), if_pos (by omega)]
  rw [hl2] at q
  have hlt2 : i < l'.length := by omega
  have hget2 := rowsT_get hlt2
  rw [drop_getD hlt2] at ho
  generalize l'.getD i .zero = v at hget2 ho
  rw [ordL] at ho
  refine run 400 rfl ?_
  refine at_val (.rp (tr v) 0) (does_index ty_ok _ rfl rfl rfl (by omega) (show (rowsT l')[(i : Int).toNat]? = some (tr v) from hget2) rfl) ?_
  refine run 400 rfl ?_
  refine at_fn (ih u hmem v) rfl ?_
  refine run 400 rfl ?_
  refine at_if rfl (fun p => ?_) (fun p => ?_)
  · have p : ordT u v ≠ 0 := by simpa using p
    refine run 400 rfl ?_
    refine at_ret rfl rfl [] ⟨?_, rfl, rfl⟩ trivial
    rw [← ho, orI_ne p, orI_ne p]
  · have p : ordT u v = 0 := by simpa using p
    rw [p, orI_00] at ho
    refine run 400 rfl ?_
    exact at_again (i + 1) ⟨by omega, by omega, ho⟩ (by omega) ⟨SVle.refl _, SVle.refl _, SVle.refl _, SVle.refl _, SVle.refl _, SVle.of_eq (by show I ((i : Int) + 1) = I ((i + 1 : Nat) : Int); rw [Int.natCast_add]; rfl), trivial⟩ trivial

theorem orI_assoc (a b c : Int) : orI (orI a b) c = orI a (orI b c) := by
  unfold orI
  by_cases h : a = 0 <;> simp [h]

set_option maxRecDepth 100000 in
theorem tcmp_fn (a b : Tm) (h : Sm a) : Gives Try.prog 77 [a.sv, b.sv] (I (ordT a b)) := by
  induction a using Tm.ind generalizing b with
  | h k n s l ih =>
    obtain ⟨k', n', s', l'⟩ := b
    have hL : l.length ≤ 1000000 ∧ ∀ t ∈ l, Sm t := by
      cases h with
      | mk h1 h2 => exact ⟨h1, h2⟩
    have hc := cmpL_fn l l' hL.1 fun t ht u => ih t ht u (hL.2 t ht)
    have hT : ordT (.mk k n s l) (.mk k' n' s' l') = orI (sgI k k') (orI (sgI n n') (orI (sgS s s') (orI (ordL l l') (sgI l.length l'.length)))) := by
      rw [ordT, orI_assoc, orI_assoc, orI_assoc]
    have hor := or4_fn (sgI k k') (sgI n n') (sgS s s') (orI (ordL l l') (sgI l.length l'.length))
    rw [hT]
    generalize orI (ordL l l') (sgI l.length l'.length) = q at hc hor
    refine contract_of ty_ok [0, 1, 2, 3, 4, 5, 6, 7] Try.func77 rfl (by decide) Try.ntmps77 rfl fun z => ?_
    refine run 400 rfl ?_
    refine at_drawn 22 rfl rfl [(4, .sv (I (sgI k k'))), (9, .sv (I (sgI n n'))), (14, .sv (I (sgS s s'))), (19, .sv (I q)), (20, .gro (.tl 1 (ints [sgI k k', sgI n n', sgS s s', q]))), (21, .sv (I (orI (sgI k k') (orI (sgI n n') (orI (sgS s s') q)))))] [20, 21, 22] rfl
      ⟨hor.weak ⟨SVle.tl _ _, trivial⟩, doesG_build ty_ok _ rfl ⟨⟨rfl, rfl, _, rfl, SVles.refl _⟩, ⟨rfl, rfl, _, rfl, SVles.refl _⟩, ⟨rfl, rfl, _, rfl, SVles.refl _⟩, ⟨rfl, rfl, _, rfl, SVles.refl _⟩, trivial⟩ rfl rfl (by decide), hc, cmpS_fn s s', cmpI_fn n n', cmpI_fn k k'⟩ ?_
    refine run 400 rfl ?_
    exact at_ret rfl rfl [] ⟨rfl, rfl, rfl⟩ trivial

theorem tsame_fn (a b : Tm) (h : Sm a) : Gives Try.prog 45 [a.sv, b.sv] (.bl (same a b)) := by
  refine contract_of ty_ok [0, 1, 2, 3, 4, 5, 6, 7] Try.func45 rfl (by decide) Try.ntmps45 rfl fun z => ?_
  refine run 400 rfl ?_
  refine at_fn (tcmp_fn a b h) rfl ?_
  refine run 400 rfl ?_
  exact at_ret rfl rfl [] ⟨rfl, rfl, rfl⟩ trivial
theorem tless_fn (a b : Tm) (h : Sm a) : Gives Try.prog 47 [a.sv, b.sv] (.bl (decide (ordT a b < 0))) := by
  refine contract_of ty_ok [0, 1, 2, 3, 4, 5, 6, 7] Try.func47 rfl (by decide) Try.ntmps47 rfl fun z => ?_
  refine run 400 rfl ?_
  refine at_fn (tcmp_fn a b h) rfl ?_
  refine run 400 rfl ?_
  exact at_ret rfl rfl [] ⟨rfl, rfl, rfl⟩ trivial
end Go.Proofs.Ytmnmhehddbemkaa
/- The proof engine, part 14h: own cells that hold lists which may grow. -/
namespace Go.Eng

variable {E : Stc} {all rest : List Oper} {o : Oper} {s : List Fr} {env : List (Nat × SV)} {own own2 : List (Nat × SO)} {nx : List Nat}

/-- Own cells may be known less well. -/
def soLe : SO → SO → Prop
  | .cells t cs, .cells t' cs' => t = t' ∧ SVles cs cs'
  | .tok a, .tok b => a = b
  | .cells _ cs, .buf rw n => SVles cs (bufC rw n)
  | .buf rw n, .buf rw' n' => SVles (bufC rw n) (bufC rw' n')
  | .obj f, .obj f' => ∀ H o, f H o → f' H o
  | _, _ => False
def ownLe : List (Nat × SO) → List (Nat × SO) → Prop
  | [], [] => True
  | (k, a) :: l, (j, b) :: r => k = j ∧ soLe a b ∧ ownLe l r
  | _, _ => False
theorem ownLe_q : ∀ {l r : List (Nat × SO)}, ownLe l r → ∀ k b, ownq r k = some b → ∃ a, ownq l k = some a ∧ soLe a b
  | [], [], _, _, _, h => by simp [ownq] at h
  | (j, a) :: l, (j', b') :: r, hl, k, b, h => by
    obtain ⟨rfl, h1, h2⟩ := hl
    simp only [ownq] at h ⊢
    cases hb : Nat.beq j k with
    | true =>
      rw [hb, cond_true] at h
      simp only [Option.some.injEq] at h
      subst h
      exact ⟨a, rfl, h1⟩
    | false =>
      rw [hb, cond_false] at h
      exact ownLe_q h2 k b h
theorem ownOk_le {mine : Nat → Prop} {g : Nat → Value} {H : Hp} {w : World} {k : Nat} {a b : SO} (h : OwnOk mine g H w k a) (hl : soLe a b) : OwnOk mine g H w k b := by
  cases a with
  | cells t cs =>
    cases b with
    | cells t' cs' =>
      obtain ⟨rfl, hc⟩ := hl
      obtain ⟨q, vs, h1, h2, h3⟩ := h
      exact ⟨q, vs, h1, hc.dens g H vs h2, h3⟩
    | buf rw n =>
      obtain ⟨q, vs, h1, h2, h3⟩ := h
      exact .inl ⟨t, q, vs, h1, SVles.dens hl g H vs h2, h3⟩
    | tok z => exact hl.elim
    | obj f => exact hl.elim
  | tok z =>
    cases b with
    | cells t' cs' => exact hl.elim
    | tok y =>
      have hl : z = y := hl
      subst hl
      exact h
    | obj f => exact hl.elim
    | buf c n => exact hl.elim
  | buf rw n =>
    cases b with
    | buf rw' n' =>
      rcases h with ⟨t, q, vs, h1, h2, h3⟩ | ⟨h1, e⟩
      · exact .inl ⟨t, q, vs, h1, SVles.dens hl g H vs h2, h3⟩
      · refine .inr ⟨h1, ?_⟩
        have hl : SVles (bufC rw n) (bufC rw' n') := hl
        rw [e] at hl
        cases hc : bufC rw' n' with
        | nil => rfl
        | cons _ _ => rw [hc] at hl; exact hl.elim
    | cells t' cs' => exact hl.elim
    | tok y => exact hl.elim
    | obj f => exact hl.elim
  | obj f =>
    cases b with
    | obj f' =>
      obtain ⟨r, o, e, h1, h2, h3⟩ := h
      exact ⟨r, o, e, h1, fun H' hh => hl H' o (h2 H' hh), h3⟩
    | cells t' cs' => exact hl.elim
    | tok y => exact hl.elim
    | buf c n => exact hl.elim
theorem at_weakO {m : Md} (own' : List (Nat × SO)) (hl : ownLe own own') (kk : Sat E m s env own' nx) : Sat E m s env own nx := by
  refine sat_mono (fun a w hat => ?_) kk
  obtain ⟨hdf, g, H, hd⟩ := hat
  refine ⟨hdf, g, H, { hd with ok := fun k b hk => ?_, inj := fun i j hi hj => hd.inj i j ?_ ?_ }⟩
  · obtain ⟨a', h1, h2⟩ := ownLe_q hl k b hk
    exact ownOk_le (hd.ok k a' h1) h2
  · cases hq : ownq own' i with
    | none => rw [hq] at hi; cases hi
    | some b =>
      obtain ⟨a', h1, _⟩ := ownLe_q hl i b hq
      rw [h1]; rfl
  · cases hq : ownq own' j with
    | none => rw [hq] at hj; cases hj
    | some b =>
      obtain ⟨a', h1, _⟩ := ownLe_q hl j b hq
      rw [h1]; rfl

/-- A list in an own block of one cell gets a name. -/
theorem at_nameC {m : Md} (c k sz : Nat) {ty sz0 : Nat} {rows : List (List DV)} (hc : ownq own c = some (.cells ty [.tl sz0 rows])) (hs : sz0 = sz ∨ rows = []) (hso : setOwnK c (.cells ty [.gl k sz rows]) own some = some own2)
    (kk : Sat E m s env ((k, .tok sz) :: own2) nx) (hm : Nat.ble E.cx.m0 k = true := by rfl) (hE : freshE k env = true := by rfl) (hO : freshO k own = true := by rfl) (hne : Nat.beq k c = false := by rfl) : Sat E m s env own nx := by
  rw [setOwnK_eq] at hso
  simp only [Option.some.injEq] at hso
  subst hso
  have hkc : ¬ k = c := fun e => by rw [e, Nat.beq_refl] at hne; cases hne
  refine sat_mono (fun a w hat => ?_) kk
  obtain ⟨hdf, g, H, hdn⟩ := hat
  obtain ⟨b, vs, g1, g2, g3, g4, g5, g6⟩ := hdn.ok c _ hc
  obtain ⟨x, rfl⟩ : ∃ x, vs = [x] := by
    match vs, g2 with
    | [x], _ => exact ⟨x, rfl⟩
    | [], h => exact h.elim
    | _ :: _ :: _, h => exact h.2.elim
  obtain ⟨⟨ad, cp, e, h1, h2, h3⟩, ad', e'⟩ := g2.1
  have hx : DenD H (.lst sz rows) x := by
    refine ⟨ad, cp, e, h1, h2, fun p hp => ?_⟩
    rcases hs with rfl | rfl
    · exact h3 p hp
    · exact ⟨.inl rfl, trivial⟩
  have hcp : cp = rows.length := by
    rw [e] at e'
    simp only [Value.slice.injEq, true_and] at e'
    exact e'.2
  obtain ⟨hd3, hp⟩ := hdn.tok (k := k) (sz := sz) (rows := rows) (Nat.le_of_ble_eq_true hm) hE hO hx ⟨ad, rows.length, cp, e, fun h => ⟨by rw [(h2 h).1]; rfl, (h2 h).2⟩, h1, fun p hp hlt => absurd hlt (by omega)⟩
  have hiff : ∀ i, (ownq ((k, SO.tok sz) :: setOwn c (.cells ty [.gl k sz rows]) own) i).isSome = true → (ownq ((k, SO.tok sz) :: own) i).isSome = true := by
    intro i hi
    simp only [ownq] at hi ⊢
    cases hb : Nat.beq k i with
    | true => rfl
    | false =>
      rw [hb, cond_false] at hi
      rw [cond_false]
      rw [ownq_setOwn] at hi
      split at hi
      · rename_i e
        subst e
        rw [hc]; rfl
      · exact hi
  refine ⟨hdf, _, H, { hd3 with ok := fun j o' hj => ?_, inj := fun i j hi hj => hd3.inj i j (hiff i hi) (hiff j hj) }⟩
  simp only [ownq] at hj
  cases hb : Nat.beq k j with
  | true =>
    have hj' : ownq ((k, SO.tok sz) :: own) j = some o' := by simp only [ownq, hb, cond_true]; rw [hb, cond_true] at hj; exact hj
    exact hd3.ok j o' hj'
  | false =>
    rw [hb, cond_false, ownq_setOwn] at hj
    have hjk : j ≠ k := fun e => by rw [e, Nat.beq_refl] at hb; cases hb
    by_cases hjc : j = c
    · subst hjc
      rw [if_pos rfl, hc] at hj
      simp only [Option.map_some, Option.some.injEq] at hj
      subst hj
      exact ⟨b, [x], by rw [upd_ne _ _ _ j hjk]; exact g1, ⟨hp, trivial⟩, g3, g4, g5, g6⟩
    · rw [if_neg hjc] at hj
      exact hd3.ok j o' (by simp only [ownq, hb, cond_false]; exact hj)

theorem Dn.cons {cx : Cx} {g : Nat → Value} {H : Hp} {env : List (Nat × SV)} {own : List (Nat × SO)} {n : Nat} {tmps : Array Value} {w : World} {k : Nat} {so : SO}
    (h : Dn cx g H env own n tmps w) (hok : OwnOk cx.mine g H w k so) (hb : ∀ b, blkOf (g k) = some b → ∀ j o, ownq own j = some o → blkOf (g j) ≠ some b) : Dn cx g H env ((k, so) :: own) n tmps w := by
  refine { h with ok := fun j o hj => ?_, inj := fun i j hi hj b hbi hbj => ?_ }
  · simp only [ownq] at hj
    cases hb : Nat.beq k j with
    | true =>
      have := beq_true hb
      subst this
      simp only [hb, cond_true, Option.some.injEq] at hj
      subst hj
      exact hok
    | false =>
      simp only [hb, cond_false] at hj
      exact h.ok j o hj
  · have key : ∀ j, (ownq ((k, so) :: own) j).isSome = true → j = k ∨ (ownq own j).isSome = true := by
      intro j hj
      by_cases hjk : j = k
      · exact .inl hjk
      · have hbf : Nat.beq k j = false := by
          cases hb' : Nat.beq k j with
          | false => rfl
          | true => exact absurd (beq_true hb').symm hjk
        simp only [ownq, hbf, cond_false] at hj
        exact .inr hj
    rcases key i hi with rfl | oi <;> rcases key j hj with rfl | oj
    · rfl
    · cases ho : ownq own j with
      | none => rw [ho] at oj; cases oj
      | some o => exact absurd hbj (hb b hbi j o ho)
    · cases ho : ownq own i with
      | none => rw [ho] at oi; cases oi
      | some o => exact absurd hbi (hb b hbj i o ho)
    · exact h.inj i j oi oj b hbi hbj

def r3 (c k k' : Nat) : Nat → Nat := fun j => bif Nat.beq j 0 then c else bif Nat.beq j 1 then k else k'

/-- A call that may write an own block, in whose cells is a list with room of its own that may grow. -/
theorem at_growM (c k k' sz : Nat) {ty f : Nat} {cs cs' : List SV} {args : List SV} {sv : SV} (hC : Contract E.P f 2 [(0, .cells ty cs), (1, .tok sz)] args fun s post => s = sv ∧ post = [(0, .cells ty cs'), (2, .tok sz)])
    (hc : callK o.op env (fun f l => some (f, l)) none = some (f, rens (r2 c k) args)) (h0 : ownq own c = some (.cells ty (rens (r2 c k) cs))) (h1 : ownq own k = some (.tok sz)) (ho : lessK c own (fun o1 => lessK k o1 some) = some own2)
    (kk : Sat E (.ops all rest) s (put o.dst (ren (r3 c k k') sv) env) ((c, .cells ty (rens (r3 c k k') cs')) :: (k', .tok sz) :: own2) nx)
    (hne : Nat.beq c k = false := by rfl) (hck : Nat.beq c k' = false := by rfl) (hkk : Nat.beq k k' = false := by rfl) (hm : Nat.ble E.cx.m0 k' = true := by rfl) (hE : freshE k' env = true := by rfl) (hO : freshO k' own2 = true := by rfl)
    (l1 : sv.lt 3 = true := by rfl) (l2 : SV.lts 3 cs' = true := by rfl)
    (hg : guardK all o.guard env true false false = true := by rfl) (hd : dstLt o.dst E.n = true := by rfl) : Sat E (.ops all (o :: rest)) s env own nx := by
  intro a w hat
  have hwant := wanted_of (E := E) (own := own) hg a w hat
  simp only [lessK_eq, Option.some.injEq] at ho
  have nck := beq_false hne
  have nck' := beq_false hck
  have nkk' := beq_false hkk
  unfold wpList
  rw [if_pos hwant]
  refine .inl ?_
  obtain ⟨hdf, g, H, hdn⟩ := hat
  obtain ⟨vs, hv, hr⟩ := run_call (P := E.P) hdn hC.1 hc
  have hpre : pres (r2 c k) own [(0, .cells ty cs), (1, .tok sz)] := ⟨h0, h1, trivial⟩
  have hv' : Dens (fun j => g (r2 c k j)) H args vs := Dens.unren (g' := g) (r := r2 c k) (fun _ => rfl) args vs hv
  have key : ∀ i, (ownq [(0, SO.cells ty cs), (1, SO.tok sz)] i).isSome = true → i = 0 ∨ i = 1 := by
    intro i hi
    match i, hi with
    | 0, _ => exact .inl rfl
    | 1, _ => exact .inr rfl
    | i + 2, hi => exact absurd hi (by show ¬ (false = true); simp)
  have hok : ∀ j o, ownq [(0, SO.cells ty cs), (1, SO.tok sz)] j = some o → OwnOk (fun _ => True) (fun j => g (r2 c k j)) H w j o := by
    intro j o hj
    rcases key j (by rw [hj]; rfl) with rfl | rfl
    · have e : SO.cells ty cs = o := by simpa [ownq] using hj
      subst e
      obtain ⟨b, ws, e, q1, q2, q3, q4, _⟩ := hdn.ok c _ h0
      exact ⟨b, ws, e, Dens.unren (g' := g) (r := r2 c k) (fun _ => rfl) cs ws q1, q2, q3, q4, trivial⟩
    · have e : SO.tok sz = o := Option.some.inj hj
      subst e
      obtain ⟨ad, q, cp, e, q1, hle, q2⟩ := hdn.ok k _ h1
      refine ⟨ad, q, cp, e, q1, hle, fun p hpa hlt => ?_⟩
      obtain ⟨q3, _, q5⟩ := q2 p hpa hlt
      exact ⟨q3, trivial, q5⟩
  have hinj : InjOn (fun j => g (r2 c k j)) [(0, SO.cells ty cs), (1, SO.tok sz)] := by
    intro i j hi hj b hbi hbj
    have hi' : (ownq own (r2 c k i)).isSome = true := by
      rcases key i hi with rfl | rfl
      · show (ownq own c).isSome = true; rw [h0]; rfl
      · show (ownq own k).isSome = true; rw [h1]; rfl
    have hj' : (ownq own (r2 c k j)).isSome = true := by
      rcases key j hj with rfl | rfl
      · show (ownq own c).isSome = true; rw [h0]; rfl
      · show (ownq own k).isSome = true; rw [h1]; rfl
    have e := hdn.inj _ _ hi' hj' b hbi hbj
    rcases key i hi with rfl | rfl <;> rcases key j hj with rfl | rfl
    · rfl
    · exact absurd (show c = k from e) nck
    · exact absurd (show k = c from e).symm nck
    · rfl
  have hcall := hC.2 (fun j => g (r2 c k j)) H w vs hdn.hp hok hinj hv'
  unfold Oper.wp
  rw [hr]
  refine hcall.mono fun e w' he => ?_
  cases e with
  | panicked c => exact he.elim
  | outgrown => exact he.elim
  | returned x =>
    obtain ⟨g', H', sv', post, ⟨rfl, rfl⟩, hx, hok', hinj', hon, hb⟩ := he
    have hl2 : ∀ j o, ownq own2 j = some o → j ≠ c ∧ j ≠ k ∧ ownq own j = some o := by
      intro j o hj
      rw [← ho] at hj
      have e1 := rm1_less k (rm1 c own) j o hj
      have e2 := rm1_less c own j o e1.2
      exact ⟨e2.1, e1.1, e2.2⟩
    obtain ⟨hd2, hother⟩ := hdn.left (r := r2 c k) (own2 := own2) hpre hb hon (fun j o hj => ⟨(hl2 j o hj).2.2, fun i hi => by
      rcases key i hi with rfl | rfl
      · exact (hl2 j o hj).1
      · exact (hl2 j o hj).2.1⟩)
    obtain ⟨b, ws, e0, q1, q2, q3, q4, q5⟩ := hok' 0 (.cells ty cs') rfl
    obtain ⟨ad, q, cp, e2, p1, hle, p2⟩ := hok' 2 (.tok sz) rfl
    have hd3 := hd2.bind (k := k') (x := g' 2) (so := .tok sz) (Nat.le_of_ble_eq_true hm) hE hO ⟨ad, q, cp, by rw [upd_same, e2], p1, hle, fun p hpa hlt => by
      obtain ⟨q3, q4, q5⟩ := p2 p hpa hlt
      exact ⟨q3, (hother _ q4).1, q5⟩⟩ (fun b' hb' j o hj => by
      rw [e2] at hb'
      cases ad with
      | none => simp [blkOf] at hb'
      | some p =>
        simp only [blkOf] at hb'
        cases hlt : Nat.blt q cp with
        | false => rw [hlt] at hb'; cases hb'
        | true =>
          rw [hlt, cond_true, Option.some.injEq] at hb'
          subst hb'
          exact (hother _ (p2 p rfl (Nat.blt_eq.mp hlt)).2.1).2 j o hj)
    have f0 : g' 0 = g c := hb.fix 0 (show 0 < 2 by omega)
    have f1 : g' 1 = g k := hb.fix 1 (show 1 < 2 by omega)
    have hg3 : ∀ j, j < 3 → Eng.upd g k' (g' 2) (r3 c k k' j) = g' j := by
      intro j hj
      match j, hj with
      | 0, _ => show Eng.upd g k' (g' 2) c = _; rw [upd_ne _ _ _ c nck', f0]
      | 1, _ => show Eng.upd g k' (g' 2) k = _; rw [upd_ne _ _ _ k nkk', f1]
      | 2, _ => exact upd_same _ _ _
    have hd4 := hd3.cons (k := c) (so := .cells ty (rens (r3 c k k') cs')) ⟨b, ws, by rw [upd_ne _ _ _ c nck', ← f0, e0], Dens.ren hg3 cs' ws l2 q1, q2, q3, q4, (hother _ q5).1⟩ (fun b' hb' j o hj => by
      rw [upd_ne _ _ _ c nck', ← f0, e0] at hb'
      simp only [blkOf, Option.some.injEq] at hb'
      subst hb'
      simp only [ownq] at hj
      cases hjk : Nat.beq k' j with
      | true =>
        have := beq_true hjk
        subst this
        rw [upd_same]
        intro e3
        have := hinj' 0 2 rfl rfl b (by rw [e0]; rfl) e3
        cases this
      | false =>
        rw [hjk, cond_false] at hj
        rw [upd_ne _ _ _ j (fun e => by rw [e, Nat.beq_refl] at hjk; cases hjk)]
        exact (hother _ q5).2 j o hj)
    exact kk _ _ (At.put hdf hd4 (Den.ren hg3 sv' x l1 hx) fun d e => by rw [e] at hd; exact Nat.blt_eq.mp hd)

/-- A list with room of its own, in an own block, gets another name. -/
theorem at_renameC {m : Md} (c k k' sz i : Nat) {ty : Nat} {cs : List SV} {rows : List (List DV)} (hc : ownq own c = some (.cells ty cs)) (hi : cs[i]? = some (.gl k sz rows)) (hk : ownq own k = some (.tok sz)) (ho : lessK c own (fun o1 => lessK k o1 some) = some own2)
    (kk : Sat E m s (degE k' env) ((c, .cells ty (cs.set i (.gl k' sz rows))) :: (k', .tok sz) :: own2) nx) (hne : Nat.beq c k = false := by rfl) (hck : Nat.beq c k' = false := by rfl)
    (hm : Nat.ble E.cx.m0 k' = true := by rfl) (hE : freshE k' (degE k' env) = true := by rfl) (hO : freshO k' own2 = true := by rfl) (hcs : SV.noKs k' cs = true := by rfl) : Sat E m s env own nx := by
  simp only [lessK_eq, Option.some.injEq] at ho
  have nck := beq_false hne
  have nck' := beq_false hck
  refine sat_mono (fun a w hat => ?_) kk
  obtain ⟨hdf, g, H, hdn⟩ := hat
  have hl2 : ∀ j o, ownq own2 j = some o → j ≠ c ∧ j ≠ k ∧ ownq own j = some o := by
    intro j o hj
    rw [← ho] at hj
    have e1 := rm1_less k (rm1 c own) j o hj
    have e2 := rm1_less c own j o e1.2
    exact ⟨e2.1, e1.1, e2.2⟩
  obtain ⟨b, vs, e0, q1, q2, q3, q4, q5⟩ := hdn.ok c _ hc
  obtain ⟨x, hx, hd⟩ := Dens.get q1 hi
  obtain ⟨hx1, hx2⟩ := hd
  obtain ⟨ad, q, cp, e, p1, hle, p2⟩ := hdn.ok k _ hk
  have hd2 : Dn E.cx g H (degE k' env) own2 E.n a.tmps w := (hdn.le (degE_le k' env) (fun j o hj => (hl2 j o hj).2.2))
  have hdis : ∀ b', blkOf (g k) = some b' → ∀ j o, ownq own2 j = some o → blkOf (g j) ≠ some b' := fun b' hb' j o hj ej =>
    (hl2 j o hj).2.1 (hdn.inj j k (by rw [(hl2 j o hj).2.2]; rfl) (by rw [hk]; rfl) b' ej hb')
  obtain ⟨hd3, hp⟩ := hd2.tok (k := k') (sz := sz) (Nat.le_of_ble_eq_true hm) hE hO hx1 ⟨ad, q, cp, by rw [hx2, e], p1, hle, fun p hpa hlt => by
    obtain ⟨q3, q4, q5⟩ := p2 p hpa hlt
    exact ⟨q3, ⟨q4, hdis _ (by rw [e, hpa]; simp [blkOf, Nat.blt_eq.mpr hlt])⟩, q5⟩⟩
  have hset : ∀ (ds : List SV) (ws : List Value) (i : Nat), Dens (Eng.upd g k' x) H ds ws → ws[i]? = some x → Dens (Eng.upd g k' x) H (ds.set i (.gl k' sz rows)) ws := by
    intro ds
    induction ds with
    | nil =>
      intro ws i h1 h2
      cases ws with
      | nil => simp at h2
      | cons _ _ => exact h1.elim
    | cons d ds ih =>
      intro ws i h1 h2
      cases ws with
      | nil => exact h1.elim
      | cons v ws =>
        cases i with
        | zero =>
          simp only [List.getElem?_cons_zero, Option.some.injEq] at h2
          subst h2
          exact ⟨hp, h1.2⟩
        | succ i => exact ⟨h1.1, ih ws i h1.2 (by simpa using h2)⟩
  have q1' : Dens (Eng.upd g k' x) H cs vs := Dens.upd (k := k') (fun j hj => upd_ne _ _ _ j hj) cs vs hcs q1
  refine ⟨hdf, _, H, hd3.cons (k := c) ⟨b, vs, by rw [upd_ne _ _ _ c nck', e0], hset cs vs i q1' hx, q2, q3, q4, q5⟩ fun b' hb' j o hj => ?_⟩
  rw [upd_ne _ _ _ c nck', e0] at hb'
  simp only [blkOf, Option.some.injEq] at hb'
  subst hb'
  simp only [ownq] at hj
  cases hjk : Nat.beq k' j with
  | true =>
    have := beq_true hjk
    subst this
    rw [upd_same, hx2]
    intro e3
    exact nck (hdn.inj c k (by rw [hc]; rfl) (by rw [hk]; rfl) b (by rw [e0]; rfl) e3)
  | false =>
    rw [hjk, cond_false] at hj
    rw [upd_ne _ _ _ j (fun e => by rw [e, Nat.beq_refl] at hjk; cases hjk)]
    intro e3
    exact (hl2 j o hj).1 (hdn.inj j c (by rw [(hl2 j o hj).2.2]; rfl) (by rw [hc]; rfl) b e3 (by rw [e0]; rfl))
end Go.Eng
namespace Go.Proofs.Ytmnmhehddbemkaa
open Go Go.Eng

mutual
def nonT : Tm → List Int
  | .mk k n _ l => (if k = 2 then [n] else []) ++ nonL l
def nonL : List Tm → List Int
  | [] => []
  | t :: l => nonT t ++ nonL l
end
mutual
def hasT (x : Tm) : Tm → Bool
  | .mk k n s l => same (.mk k n s l) x || hasL x l
def hasL (x : Tm) : List Tm → Bool
  | [] => false
  | t :: l => hasT x t || hasL x l
end
theorem Sm.ks {k n : Int} {s : ByteArray} {l : List Tm} (h : Sm (.mk k n s l)) : l.length ≤ 1000000 ∧ ∀ t ∈ l, Sm t := by
  cases h with
  | mk h1 h2 => exact ⟨h1, h2⟩
mutual
theorem nonT_len : ∀ t : Tm, (nonT t).length ≤ szT t
  | .mk k n s l => by
    have := nonL_len l
    rw [nonT, szT, List.length_append]
    split <;> simp <;> omega
theorem nonL_len : ∀ l : List Tm, (nonL l).length ≤ szL l
  | [] => by simp [nonL, szL]
  | t :: l => by
    have := nonT_len t
    have := nonL_len l
    rw [nonL, szL, List.length_append]
    omega
end

abbrev szO (c : Nat) : List (Nat × SO) := [(0, .cells 3 [I c])]
theorem size1_fn (t : Tm) (c : Nat) (hc : c ≤ 1000000) : Contract Try.prog 76 1 (szO c) [t.sv, .ptr 0 0] fun s post => s = .tt ∧ post = szO (c + 1) := by
  refine contract_of ty_ok [1, 2, 3, 4, 5, 6, 7] Try.func76 rfl (by decide) Try.ntmps76 rfl fun z => ?_
  refine run 400 rfl ?_
  exact at_ret rfl rfl (szO (c + 1)) ⟨rfl, rfl⟩ ⟨rfl, trivial⟩

abbrev nnO (l : List Int) : List (Nat × SO) := [(0, .cells 22 [.gl 1 1 (ints l)]), (1, .tok 1)]
abbrev nnP (l : List Int) : List (Nat × SO) := [(0, .cells 22 [.gl 2 1 (ints l)]), (2, .tok 1)]
theorem non1_fn (t : Tm) (l : List Int) (hl : l.length ≤ 1000000) : Contract Try.prog 71 2 (nnO l) [t.sv, .ptr 0 0] fun s post => s = .tt ∧ post = nnP (l ++ if t.k = 2 then [t.n] else []) := by
  refine contract_of ty_ok [3, 4, 5, 6, 7] Try.func71 rfl (by decide) Try.ntmps71 rfl fun z => ?_
  refine run 400 rfl ?_
  refine at_if rfl (fun g => ?_) (fun g => ?_)
  · have g : t.k = 2 := by simpa using g
    rw [if_pos g]
    refine run 400 rfl ?_
    refine at_gro (.tl 1 (ints [t.n])) (doesG_build ty_ok _ rfl ⟨⟨rfl, rfl, _, rfl, SVles.refl _⟩, trivial⟩ rfl rfl (by decide)) ?_
    refine run 400 rfl ?_
    refine at_weakO [(3, .cells 33 [I t.k, I t.n, .str t.s, .lst 4 (rowsT t.kids)]), (0, .cells 22 [.lst 1 (ints l)]), (1, .tok 1)] ⟨rfl, ⟨rfl, SVles.refl _⟩, rfl, ⟨rfl, SVle.gl _ _ _, trivial⟩, rfl, rfl, trivial⟩ ?_
    refine at_grow 1 2 1 (ints l ++ ints [t.n]) rfl (doesU_append ty_ok rfl rfl rfl rfl rfl rfl rfl (by simp; omega) (by show _ * 8 ≤ _; simp; omega)) rfl ?_
    refine run 400 rfl ?_
    exact at_ret rfl rfl (nnP (l ++ [t.n])) ⟨rfl, rfl⟩ ⟨by show some (SO.cells 22 [.gl 2 1 (ints l ++ ints [t.n])]) = some (SO.cells 22 [.gl 2 1 (ints (l ++ [t.n]))]); simp, rfl, trivial⟩
  · have g : ¬ t.k = 2 := by simpa using g
    rw [if_neg g, List.append_nil]
    refine at_renameC 0 1 2 1 0 rfl rfl rfl rfl ?_
    refine run 400 rfl ?_
    exact at_ret rfl rfl (nnP l) ⟨rfl, rfl⟩ ⟨rfl, rfl, trivial⟩

abbrev hsO (x : Tm) : List (Nat × SO) := [(0, .cells 33 [I x.k, I x.n, .str x.s, .lst 4 (rowsT x.kids)])]
theorem has1_fn (t x : Tm) (h : Sm t) : Contract Try.prog 79 1 (hsO x) [t.sv, .ptr 0 0] fun s post => s = .bl (!same t x) ∧ post = hsO x := by
  refine contract_of ty_ok [1, 2, 3, 4, 5, 6, 7] Try.func79 rfl (by decide) Try.ntmps79 rfl fun z => ?_
  refine run 400 rfl ?_
  refine at_fn (tsame_fn t x h) rfl ?_
  refine run 400 rfl ?_
  exact at_ret rfl rfl (hsO x) ⟨rfl, rfl⟩ ⟨rfl, trivial⟩

set_option maxRecDepth 100000 in
theorem eachZ_fn : ∀ (t : Tm) (c : Nat), Sm t → c + szT t ≤ 1000000 → Contract Try.prog 70 1 (szO c) [t.sv, .clo 76 [.ptr 0 0]] fun s post => s = .tt ∧ post = szO (c + szT t) := by
  intro t
  induction t using Tm.ind with
  | h k n s l ih =>
    intro c hsm hc
    have hL := hsm.ks
    have hlen0 : ((rowsT l).length : Int) = l.length := by rw [rowsT_len]
    refine contract_of ty_ok [1, 2, 3, 4, 5, 6, 7] Try.func70 rfl (by decide) Try.ntmps70 rfl fun z => ?_
    refine run 400 rfl ?_
    rw [szT] at hc ⊢
    refine at_metF 0 (size1_fn (.mk k n s l) c (by omega)) rfl rfl rfl ?_
    refine run 400 rfl ?_
    refine at_loop (fun p : Nat × Nat => p.1 ≤ l.length ∧ p.2 + szL (l.drop p.1) = c + (1 + szL l)) (fun p => [(1, .clo 76 [.ptr 0 0]), (2, .ptr 1 0), (12, .lst 4 (rowsT l)), (13, I (rowsT l).length), (14, I p.1)]) (fun p => (1, .cells 33 [I k, I n, .str s, .lst 4 (rowsT l)]) :: szO p.2) (fun p => l.length - p.1) [2, 3, 4, 5, 6, 7]
      (0, c + 1) ⟨by dsimp only; omega, by dsimp only; rw [List.drop_zero]; omega⟩ ⟨SVle.refl _, SVle.refl _, SVle.refl _, SVle.refl _, SVle.refl _, trivial⟩ ⟨rfl, rfl, trivial⟩ ?_
    rintro ⟨i, q⟩ ⟨a1, a2⟩
    dsimp only at a1 a2
    refine run 400 rfl ?_
    refine at_ifd rfl (fun g => ?_) (fun g => ?_)
    rotate_left
    · dsimp only at g
      rw [hlen0] at g
      have e : i = l.length := by omega
      subst e
      rw [List.drop_length] at a2
      rw [szL] at a2
      refine run 400 rfl ?_
      exact at_ret rfl rfl (szO q) ⟨rfl, by rw [show q = c + (1 + szL l) by omega]⟩ ⟨rfl, trivial⟩
    dsimp only at g
    rw [hlen0] at g
    have hlt : i < l.length := by omega
    have hget := rowsT_get hlt
    have hmem := getD_mem hlt
    rw [drop_getD hlt] at a2
    generalize l.getD i .zero = u at hget hmem a2
    refine run 400 rfl ?_
    refine at_val (.rp (tr u) 0) (does_index ty_ok _ rfl rfl rfl (by omega) (show (rowsT l)[(i : Int).toNat]? = some (tr u) from hget) rfl) ?_
    refine run 400 rfl ?_
    rw [szL] at a2
    refine at_metF 0 (ih u hmem q (hL.2 u hmem) (by omega)) rfl rfl rfl ?_
    refine run 400 rfl ?_
    exact at_again (i + 1, q + szT u) ⟨by dsimp only; omega, by dsimp only; omega⟩ (by dsimp only; omega) ⟨SVle.refl _, SVle.refl _, SVle.refl _, SVle.refl _, SVle.of_eq (by show I ((i : Int) + 1) = I ((i + 1 : Nat) : Int); rw [Int.natCast_add]; rfl), trivial⟩ ⟨rfl, rfl, trivial⟩


set_option maxRecDepth 100000 in
theorem eachN_fn : ∀ (t : Tm) (c : List Int), Sm t → c.length + szT t ≤ 1000000 → Contract Try.prog 70 2 (nnO c) [t.sv, .clo 71 [.ptr 0 0]] fun s post => s = .tt ∧ post = nnP (c ++ nonT t) := by
  intro t
  induction t using Tm.ind with
  | h k n s l ih =>
    intro c hsm hc
    have hL := hsm.ks
    have hlen0 : ((rowsT l).length : Int) = l.length := by rw [rowsT_len]
    refine contract_of ty_ok [3, 4, 5, 6, 7] Try.func70 rfl (by decide) Try.ntmps70 rfl fun z => ?_
    refine run 400 rfl ?_
    rw [szT] at hc
    rw [nonT]
    refine at_growM 0 1 2 1 (non1_fn (.mk k n s l) c (by omega)) rfl rfl rfl rfl ?_
    refine run 400 rfl ?_
    refine at_loop (fun p : Nat × List Int => p.1 ≤ l.length ∧ p.2 ++ nonL (l.drop p.1) = c ++ ((if k = 2 then [n] else []) ++ nonL l) ∧ p.2.length + szL (l.drop p.1) ≤ 1000000) (fun p => [(1, .clo 71 [.ptr 0 0]), (2, .ptr 3 0), (12, .lst 4 (rowsT l)), (13, I (rowsT l).length), (14, I p.1)]) (fun p => (3, .cells 33 [I k, I n, .str s, .lst 4 (rowsT l)]) :: nnP p.2) (fun p => l.length - p.1) [4, 5, 6, 7]
      (0, c ++ (if k = 2 then [n] else [])) ⟨by dsimp only; omega, by dsimp only; rw [List.drop_zero, List.append_assoc], by dsimp only; rw [List.drop_zero, List.length_append]; split <;> simp <;> omega⟩ ⟨SVle.refl _, SVle.refl _, SVle.refl _, SVle.refl _, SVle.refl _, trivial⟩ ⟨rfl, rfl, rfl, trivial⟩ ?_
    rintro ⟨i, q⟩ ⟨a1, a2⟩
    dsimp only at a1 a2
    refine run 400 rfl ?_
    refine at_ifd rfl (fun g => ?_) (fun g => ?_)
    rotate_left
    · dsimp only at g
      rw [hlen0] at g
      have e : i = l.length := by omega
      subst e
      rw [List.drop_length] at a2
      rw [nonL, List.append_nil] at a2
      refine run 400 rfl ?_
      exact at_ret rfl rfl (nnP q) ⟨rfl, by rw [a2.1]⟩ ⟨rfl, rfl, trivial⟩
    dsimp only at g
    rw [hlen0] at g
    have hlt : i < l.length := by omega
    have hget := rowsT_get hlt
    have hmem := getD_mem hlt
    rw [drop_getD hlt] at a2
    generalize l.getD i .zero = u at hget hmem a2
    refine run 400 rfl ?_
    refine at_val (.rp (tr u) 0) (does_index ty_ok _ rfl rfl rfl (by omega) (show (rowsT l)[(i : Int).toNat]? = some (tr u) from hget) rfl) ?_
    refine run 400 rfl ?_
    rw [nonL, szL] at a2
    have hnl := nonT_len u
    refine at_growM 0 2 8 1 (ih u hmem q (hL.2 u hmem) (by omega)) rfl rfl rfl rfl ?_
    refine at_renameC 0 8 2 1 0 rfl rfl rfl rfl ?_
    refine run 400 rfl ?_
    exact at_again (i + 1, q ++ nonT u) ⟨by dsimp only; omega, by dsimp only; rw [← a2.1, List.append_assoc], by dsimp only; rw [List.length_append]; omega⟩ (by dsimp only; omega) ⟨SVle.refl _, SVle.refl _, SVle.refl _, SVle.refl _, SVle.of_eq (by show I ((i : Int) + 1) = I ((i + 1 : Nat) : Int); rw [Int.natCast_add]; rfl), trivial⟩ ⟨rfl, rfl, rfl, trivial⟩


set_option maxRecDepth 100000 in
theorem eachH_fn : ∀ (t : Tm) (x : Tm), Sm t →  Contract Try.prog 70 1 (hsO x) [t.sv, .clo 79 [.ptr 0 0]] fun s post => ∃ b : Bool, b = hasT x t ∧ s = cond b .ff .tt ∧ post = hsO x := by
  intro t
  induction t using Tm.ind with
  | h k n s l ih =>
    intro x hsm
    have hL := hsm.ks
    have hlen0 : ((rowsT l).length : Int) = l.length := by rw [rowsT_len]
    refine contract_of ty_ok [1, 2, 3, 4, 5, 6, 7] Try.func70 rfl (by decide) Try.ntmps70 rfl fun z => ?_
    refine run 400 rfl ?_
    rw [hasT]
    refine at_metF 0 (has1_fn (.mk k n s l) x hsm) rfl rfl rfl ?_
    refine run 400 rfl ?_
    refine at_if rfl (fun h => ?_) (fun h => ?_)
    · have h : same (.mk k n s l) x = true := by simpa using h
      refine run 400 rfl ?_
      exact at_ret rfl rfl (hsO x) ⟨true, by rw [h]; rfl, rfl, rfl⟩ ⟨rfl, trivial⟩
    have h : same (.mk k n s l) x = false := by simpa using h
    rw [h, Bool.false_or]
    refine run 400 rfl ?_
    refine at_loop (fun p : Nat × Unit => p.1 ≤ l.length ∧ hasL x (l.drop p.1) = hasL x l) (fun p => [(1, .clo 79 [.ptr 0 0]), (2, .ptr 1 0), (12, .lst 4 (rowsT l)), (13, I (rowsT l).length), (14, I p.1)]) (fun p => (1, .cells 33 [I k, I n, .str s, .lst 4 (rowsT l)]) :: hsO x) (fun p => l.length - p.1) [2, 3, 4, 5, 6, 7]
      (0, ()) ⟨by dsimp only; omega, rfl⟩ ⟨SVle.refl _, SVle.refl _, SVle.refl _, SVle.refl _, SVle.refl _, trivial⟩ ⟨rfl, rfl, trivial⟩ ?_
    rintro ⟨i, q⟩ ⟨a1, a2⟩
    dsimp only at a1 a2
    refine run 400 rfl ?_
    refine at_ifd rfl (fun g => ?_) (fun g => ?_)
    rotate_left
    · dsimp only at g
      rw [hlen0] at g
      have e : i = l.length := by omega
      subst e
      rw [List.drop_length] at a2
      rw [hasL] at a2
      refine run 400 rfl ?_
      exact at_ret rfl rfl (hsO x) ⟨false, a2, rfl, rfl⟩ ⟨rfl, trivial⟩
    dsimp only at g
    rw [hlen0] at g
    have hlt : i < l.length := by omega
    have hget := rowsT_get hlt
    have hmem := getD_mem hlt
    rw [drop_getD hlt] at a2
    generalize l.getD i .zero = u at hget hmem a2
    refine run 400 rfl ?_
    refine at_val (.rp (tr u) 0) (does_index ty_ok _ rfl rfl rfl (by omega) (show (rowsT l)[(i : Int).toNat]? = some (tr u) from hget) rfl) ?_
    refine run 400 rfl ?_
    rw [hasL] at a2
    refine at_met 0 (ih u hmem x (hL.2 u hmem)) rfl rfl (fun _ => rfl) ?_
    intro b hb
    cases b with
    | true =>
      refine run 400 rfl ?_
      exact at_ret rfl rfl (hsO x) ⟨true, by rw [← a2, ← hb]; rfl, rfl, rfl⟩ ⟨rfl, trivial⟩
    | false =>
      rw [← hb, Bool.false_or] at a2
      refine run 400 rfl ?_
      exact at_again (i + 1, ()) ⟨by dsimp only; omega, a2⟩ (by dsimp only; omega) ⟨SVle.refl _, SVle.refl _, SVle.refl _, SVle.refl _, SVle.of_eq (by show I ((i : Int) + 1) = I ((i + 1 : Nat) : Int); rw [Int.natCast_add]; rfl), trivial⟩ ⟨rfl, rfl, trivial⟩

end Go.Proofs.Ytmnmhehddbemkaa
namespace Go.Proofs.Ytmnmhehddbemkaa
open Go Go.Eng

/-- Whatever is compared with a. -/
def Anti {α : Type} (c : α → α → Int) (a : α) : Prop := ∀ b, c b a = - c a b
def Tr3 {α : Type} (c : α → α → Int) (a : α) : Prop := ∀ b d, c a b ≤ 0 → c b d ≤ 0 → c a d ≤ 0 ∧ (c a b < 0 ∨ c b d < 0 → c a d < 0)

theorem orI_neg (x y : Int) : orI (-x) (-y) = - orI x y := by
  unfold orI
  by_cases h : x = 0
  · simp [h]
  · rw [if_neg h, if_neg (by omega)]
theorem anti_or {α : Type} {c1 c2 : α → α → Int} {a : α} (h1 : Anti c1 a) (h2 : Anti c2 a) : Anti (fun x y => orI (c1 x y) (c2 x y)) a := by
  intro b
  show orI (c1 b a) (c2 b a) = - orI (c1 a b) (c2 a b)
  rw [h1 b, h2 b, orI_neg]
theorem orI_cases (x y : Int) : (x ≠ 0 ∧ orI x y = x) ∨ (x = 0 ∧ orI x y = y) := by
  by_cases h : x = 0
  · exact .inr ⟨h, if_pos h⟩
  · exact .inl ⟨h, if_neg h⟩
theorem tr_or {α : Type} {c1 c2 : α → α → Int} {a : α} (h1 : Tr3 c1 a) (h2 : Tr3 c2 a) : Tr3 (fun x y => orI (c1 x y) (c2 x y)) a := by
  intro b d
  show orI (c1 a b) (c2 a b) ≤ 0 → orI (c1 b d) (c2 b d) ≤ 0 → orI (c1 a d) (c2 a d) ≤ 0 ∧ (orI (c1 a b) (c2 a b) < 0 ∨ orI (c1 b d) (c2 b d) < 0 → orI (c1 a d) (c2 a d) < 0)
  intro g1 g2
  have k1 := h1 b d
  have k2 := h2 b d
  rcases orI_cases (c1 a b) (c2 a b) with ⟨e1, e2⟩ | ⟨e1, e2⟩ <;> rcases orI_cases (c1 b d) (c2 b d) with ⟨e3, e4⟩ | ⟨e3, e4⟩ <;> rcases orI_cases (c1 a d) (c2 a d) with ⟨e5, e6⟩ | ⟨e5, e6⟩ <;> rw [e2] at g1 <;> rw [e4] at g2 <;> rw [e2, e4, e6]
  · have := k1 g1 g2; omega
  · have := k1 g1 g2; omega
  · have := k1 g1 (by omega); omega
  · have := k1 g1 (by omega); omega
  · have := k1 (by omega) g2; omega
  · have := k1 (by omega) g2; omega
  · have := k1 (by omega) (by omega); omega
  · exact k2 g1 g2

theorem anti_sgI (a : Int) : Anti sgI a := by
  intro b
  unfold sgI
  repeat' split
  all_goals omega
theorem tr_sgI (a : Int) : Tr3 sgI a := by
  intro b d
  unfold sgI
  repeat' split
  all_goals omega
theorem anti_by {α β : Type} {c : β → β → Int} (f : α → β) {a : α} (h : Anti c (f a)) : Anti (fun x y => c (f x) (f y)) a := fun b => h (f b)
theorem tr_by {α β : Type} {c : β → β → Int} (f : α → β) {a : α} (h : Tr3 c (f a)) : Tr3 (fun x y => c (f x) (f y)) a := fun b d => h (f b) (f d)

/-- Lists, by their first difference; a front stands ahead. -/
def cLst {α : Type} (c : α → α → Int) : List α → List α → Int
  | [], [] => 0
  | [], _ :: _ => -1
  | _ :: _, [] => 1
  | x :: l, y :: m => orI (c x y) (cLst c l m)
theorem anti_lst {α : Type} {c : α → α → Int} : ∀ l : List α, (∀ x ∈ l, Anti c x) → Anti (cLst c) l
  | [], _, [] => rfl
  | [], _, _ :: _ => rfl
  | _ :: _, _, [] => rfl
  | x :: l, h, y :: m => by
    rw [cLst, cLst, h x (by simp) y, anti_lst l (fun z hz => h z (by simp [hz])) m, orI_neg]
theorem tr_lst {α : Type} {c : α → α → Int} : ∀ l : List α, (∀ x ∈ l, Tr3 c x) → Tr3 (cLst c) l
  | [], _, [], [] => by simp [cLst]
  | [], _, [], _ :: _ => by simp [cLst]
  | [], _, _ :: _, [] => by simp [cLst]
  | [], _, _ :: _, _ :: _ => by simp [cLst]
  | x :: l, _, [], d => by simp [cLst]
  | x :: l, _, y :: m, [] => by simp [cLst]
  | x :: l, h, y :: m, z :: d => by
    have h1 : Tr3 c x := h x (by simp)
    have h2 := tr_lst l fun z hz => h z (by simp [hz])
    have key : Tr3 (fun (p q : α × List α) => orI (c p.1 q.1) (cLst c p.2 q.2)) (x, l) := tr_or (c1 := fun (p q : α × List α) => c p.1 q.1) (c2 := fun (p q : α × List α) => cLst c p.2 q.2) (tr_by Prod.fst h1) (tr_by Prod.snd h2)
    exact key (y, m) (z, d)

theorem cmpB_lst : ∀ a b : List UInt8, Lib.compareBytes a b = cLst (fun x y => sgI (x.toNat : Int) y.toNat) a b
  | [], [] => rfl
  | [], _ :: _ => rfl
  | _ :: _, [] => rfl
  | x :: a, y :: b => by
    rw [Lib.compareBytes, cLst, cmpB_lst a b]
    show _ = orI (sgI _ _) _
    unfold sgI
    have e1 : (x < y) = ((x.toNat : Int) < y.toNat) := by rw [UInt8.lt_iff_toNat_lt]; simp
    have e2 : (y < x) = ((y.toNat : Int) < x.toNat) := by rw [UInt8.lt_iff_toNat_lt]; simp
    simp only [e1, e2]
    split
    · rfl
    · split
      · rfl
      · rfl
theorem sgS_lst (a b : ByteArray) : sgS a b = cLst (fun x y => sgI (x.toNat : Int) y.toNat) a.data.toList b.data.toList := by rw [← cmpB_sgS, cmpB_lst]
theorem anti_sgS (a : ByteArray) : Anti sgS a := by
  intro b
  rw [sgS_lst, sgS_lst]
  exact anti_lst _ (fun x _ => anti_by (fun x : UInt8 => (x.toNat : Int)) (anti_sgI _)) _
theorem tr_sgS (a : ByteArray) : Tr3 sgS a := by
  intro b d
  rw [sgS_lst, sgS_lst, sgS_lst]
  exact tr_lst _ (fun x _ => tr_by (fun x : UInt8 => (x.toNat : Int)) (tr_sgI _)) _ _

theorem sgI_succ (a b : Nat) : sgI ((a + 1 : Nat) : Int) ((b + 1 : Nat) : Int) = sgI a b := by
  unfold sgI
  repeat' split
  all_goals omega
theorem ordL_lst : ∀ l m : List Tm, orI (ordL l m) (sgI l.length m.length) = cLst ordT l m
  | [], [] => rfl
  | [], _ :: _ => by simp [ordL, cLst, orI, sgI] <;> omega
  | _ :: _, [] => by simp [ordL, cLst, orI, sgI] <;> omega
  | x :: l, y :: m => by
    rw [ordL, cLst, ← ordL_lst l m, orI_assoc]
    simp only [List.length_cons]
    rw [sgI_succ]
theorem ordT_lex (a b : Tm) : ordT a b = orI (sgI a.k b.k) (orI (sgI a.n b.n) (orI (sgS a.s b.s) (cLst ordT a.kids b.kids))) := by
  cases a; cases b
  rw [ordT, orI_assoc, orI_assoc, orI_assoc, ordL_lst]
theorem anti_ord (a : Tm) : Anti ordT a := by
  induction a using Tm.ind with
  | h k n s l ih =>
    intro b
    have h4 := anti_lst l ih
    have key := anti_or (c1 := fun x y : Tm => sgI x.k y.k) (anti_by (a := Tm.mk k n s l) Tm.k (anti_sgI k)) (anti_or (c1 := fun x y : Tm => sgI x.n y.n) (anti_by (a := Tm.mk k n s l) Tm.n (anti_sgI n)) (anti_or (c1 := fun x y : Tm => sgS x.s y.s) (anti_by (a := Tm.mk k n s l) Tm.s (anti_sgS s)) (anti_by (a := Tm.mk k n s l) Tm.kids h4))) b
    rw [ordT_lex, ordT_lex (.mk k n s l)]
    exact key
theorem tr_ord (a : Tm) : Tr3 ordT a := by
  induction a using Tm.ind with
  | h k n s l ih =>
    intro b d
    have h4 := tr_lst l ih
    have key := tr_or (c1 := fun x y : Tm => sgI x.k y.k) (tr_by (a := Tm.mk k n s l) Tm.k (tr_sgI k)) (tr_or (c1 := fun x y : Tm => sgI x.n y.n) (tr_by (a := Tm.mk k n s l) Tm.n (tr_sgI n)) (tr_or (c1 := fun x y : Tm => sgS x.s y.s) (tr_by (a := Tm.mk k n s l) Tm.s (tr_sgS s)) (tr_by (a := Tm.mk k n s l) Tm.kids h4))) b d
    rw [ordT_lex (.mk k n s l) b, ordT_lex b d, ordT_lex (.mk k n s l) d]
    exact key

theorem ord_anti (a b : Tm) : ordT b a = - ordT a b := anti_ord a b
theorem ord_trans {a b c : Tm} (h1 : ordT a b < 0) (h2 : ordT b c < 0) : ordT a c < 0 := (tr_ord a b c (by omega) (by omega)).2 (.inl h1)
theorem ord_irr (a : Tm) : ordT a a = 0 := ordT_self a
end Go.Proofs.Ytmnmhehddbemkaa
namespace Go.Proofs.Ytmnmhehddbemkaa
open Go Go.Eng
set_option maxRecDepth 100000

abbrev own33 (t : Tm) : SO := .cells 33 [I t.k, I t.n, .str t.s, .lst 4 (rowsT t.kids)]

theorem size_fn (t : Tm) (h : Sm t) (hs : szT t ≤ 1000000) : Gives Try.prog 43 [t.sv] (I (szT t)) := by
  refine contract_of ty_ok [0, 1, 2, 3, 4, 5, 6, 7] Try.func43 rfl (by decide) Try.ntmps43 rfl fun z => ?_
  refine run 400 rfl ?_
  refine at_metF 1 (eachZ_fn t 0 h (by omega)) rfl rfl rfl ?_
  refine run 400 rfl ?_
  exact at_ret rfl rfl [] ⟨by rw [Nat.zero_add], rfl, rfl⟩ trivial
theorem has_fn (t x : Tm) (h : Sm t) : Gives Try.prog 49 [t.sv, x.sv] (.bl (hasT x t)) := by
  cases hb : hasT x t with
  | true =>
    refine Gives.le (a := .tt) ?_ (SVle.tt rfl)
    refine contract_of ty_ok [0, 1, 2, 3, 4, 5, 6, 7] Try.func49 rfl (by decide) Try.ntmps49 rfl fun z => ?_
    refine run 400 rfl ?_
    refine at_met 1 (eachH_fn t x h) rfl rfl (fun _ => rfl) ?_
    intro b hb2
    rw [hb] at hb2
    subst hb2
    refine run 400 rfl ?_
    exact at_ret rfl rfl [] ⟨rfl, rfl, rfl⟩ trivial
  | false =>
    refine Gives.le (a := .ff) ?_ (SVle.ff rfl)
    refine contract_of ty_ok [0, 1, 2, 3, 4, 5, 6, 7] Try.func49 rfl (by decide) Try.ntmps49 rfl fun z => ?_
    refine run 400 rfl ?_
    refine at_met 1 (eachH_fn t x h) rfl rfl (fun _ => rfl) ?_
    intro b hb2
    rw [hb] at hb2
    subst hb2
    refine run 400 rfl ?_
    exact at_ret rfl rfl [] ⟨rfl, rfl, rfl⟩ trivial

theorem rsize_fn : ∀ (t : Tm), Sm t → szT t ≤ 1000000 → Gives Try.prog 44 [t.sv] (I (szT t)) := by
  intro t
  induction t using Tm.ind with
  | h k n s l ih =>
    intro hsm hc
    have hL := hsm.ks
    have hlen0 : ((rowsT l).length : Int) = l.length := by rw [rowsT_len]
    refine contract_of ty_ok [0, 1, 2, 3, 4, 5, 6, 7] Try.func44 rfl (by decide) Try.ntmps44 rfl fun z => ?_
    refine run 400 rfl ?_
    rw [szT] at hc ⊢
    refine at_loop (fun p : Nat × Nat => p.1 ≤ l.length ∧ p.2 + szL (l.drop p.1) = 1 + szL l) (fun p => [(1, .ptr 0 0), (3, I p.2), (4, I p.1)]) (fun _ => [(0, own33 (.mk k n s l))]) (fun p => l.length - p.1) [1, 2, 3, 4, 5, 6, 7]
      (0, 1) ⟨by dsimp only; omega, by dsimp only; rw [List.drop_zero]⟩ ⟨SVle.refl _, SVle.refl _, SVle.refl _, trivial⟩ ⟨rfl, trivial⟩ ?_
    rintro ⟨i, q⟩ ⟨a1, a2⟩
    dsimp only at a1 a2
    refine run 400 rfl ?_
    refine at_ifd rfl (fun g => ?_) (fun g => ?_)
    rotate_left
    · dsimp only at g
      rw [hlen0] at g
      have e : i = l.length := by omega
      subst e
      rw [List.drop_length, szL] at a2
      refine run 400 rfl ?_
      exact at_ret rfl rfl [] ⟨by rw [show q = 1 + szL l by omega], rfl, rfl⟩ trivial
    dsimp only at g
    rw [hlen0] at g
    have hlt : i < l.length := by omega
    have hget := rowsT_get hlt
    have hmem := getD_mem hlt
    rw [drop_getD hlt, szL] at a2
    generalize l.getD i .zero = u at hget hmem a2
    refine run 400 rfl ?_
    refine at_val (.rp (tr u) 0) (does_index ty_ok _ rfl rfl rfl (by omega) (show (rowsT l)[(i : Int).toNat]? = some (tr u) from hget) rfl) ?_
    refine run 400 rfl ?_
    refine at_fn (ih u hmem (hL.2 u hmem) (by omega)) rfl ?_
    refine run 400 rfl ?_
    exact at_again (i + 1, q + szT u) ⟨by dsimp only; omega, by dsimp only; omega⟩ (by dsimp only; omega) ⟨SVle.refl _, SVle.of_eq (by show I ((q : Int) + (szT u : Int)) = I ((q + szT u : Nat) : Int); rw [Int.natCast_add]), SVle.of_eq (by show I ((i : Int) + 1) = I ((i + 1 : Nat) : Int); rw [Int.natCast_add]; rfl), trivial⟩ ⟨rfl, trivial⟩

theorem rhas_fn (x : Tm) : ∀ (t : Tm), Sm t → Gives Try.prog 34 [t.sv, x.sv] (.bl (hasT x t)) := by
  intro t
  induction t using Tm.ind with
  | h k n s l ih =>
    intro hsm
    have hL := hsm.ks
    have hlen0 : ((rowsT l).length : Int) = l.length := by rw [rowsT_len]
    have hS := same_fn (.mk k n s l) x hsm
    rw [hasT]
    cases hb : same (.mk k n s l) x with
    | true =>
      rw [hb] at hS
      rw [Bool.true_or]
      refine Gives.le (a := .tt) ?_ (SVle.tt rfl)
      refine contract_of ty_ok [0, 1, 2, 3, 4, 5, 6, 7] Try.func34 rfl (by decide) Try.ntmps34 rfl fun z => ?_
      refine run 400 rfl ?_
      refine at_fn hS rfl ?_
      refine run 400 rfl ?_
      refine at_if rfl (fun _ => ?_) (fun q => by cases q)
      refine run 400 rfl ?_
      exact at_ret rfl rfl [] ⟨rfl, rfl, rfl⟩ trivial
    | false =>
      rw [hb] at hS
      rw [Bool.false_or]
      have key : ∀ b : Bool, hasL x l = b → Gives Try.prog 34 [(Tm.mk k n s l).sv, x.sv] (cond b .tt .ff) := by
        intro b hbb
        refine contract_of ty_ok [0, 1, 2, 3, 4, 5, 6, 7] Try.func34 rfl (by decide) Try.ntmps34 rfl fun z => ?_
        refine run 400 rfl ?_
        refine at_fn hS rfl ?_
        refine run 400 rfl ?_
        refine at_if rfl (fun q => by cases q) (fun _ => ?_)
        refine run 400 rfl ?_
        refine at_loop (fun i : Nat => i ≤ l.length ∧ hasL x (l.drop i) = b) (fun i => [(2, .ptr 0 0), (3, .ptr 1 0), (5, I i)]) (fun _ => [(0, own33 (.mk k n s l)), (1, own33 x)]) (fun i => l.length - i) [2, 3, 4, 5, 6, 7]
          0 ⟨by omega, by rw [List.drop_zero]; exact hbb⟩ ⟨SVle.refl _, SVle.refl _, SVle.refl _, trivial⟩ ⟨rfl, rfl, trivial⟩ ?_
        rintro i ⟨a1, a2⟩
        refine run 400 rfl ?_
        refine at_ifd rfl (fun g => ?_) (fun g => ?_)
        rotate_left
        · rw [hlen0] at g
          have e : i = l.length := by omega
          subst e
          rw [List.drop_length, hasL] at a2
          subst a2
          refine run 400 rfl ?_
          exact at_ret rfl rfl [] ⟨rfl, rfl, rfl⟩ trivial
        rw [hlen0] at g
        have hlt : i < l.length := by omega
        have hget := rowsT_get hlt
        have hmem := getD_mem hlt
        rw [drop_getD hlt, hasL] at a2
        generalize l.getD i .zero = u at hget hmem a2
        refine run 400 rfl ?_
        refine at_drawn 7 rfl rfl [(3, .val (.rp (tr u) 0)), (6, .sv (.bl (hasT x u)))] [20, 21, 22] rfl ⟨ih u hmem (hL.2 u hmem), does_index ty_ok _ rfl rfl rfl (by omega) (show (rowsT l)[(i : Int).toNat]? = some (tr u) from hget) rfl⟩ ?_
        refine run 400 rfl ?_
        refine at_if rfl (fun q => ?_) (fun q => ?_)
        · rw [q, Bool.true_or] at a2
          subst a2
          refine run 400 rfl ?_
          exact at_ret rfl rfl [] ⟨rfl, rfl, rfl⟩ trivial
        · rw [q, Bool.false_or] at a2
          refine run 400 rfl ?_
          exact at_again (i + 1) ⟨by omega, a2⟩ (by omega) ⟨SVle.refl _, SVle.refl _, SVle.of_eq (by show I ((i : Int) + 1) = I ((i + 1 : Nat) : Int); rw [Int.natCast_add]; rfl), trivial⟩ ⟨rfl, rfl, trivial⟩
      cases hbb : hasL x l with
      | true => exact (key true hbb).le (SVle.tt rfl)
      | false => exact (key false hbb).le (SVle.ff rfl)

/-- Terms in order, by the document. -/
def rsortF (l : List Tm) : List Tm := l.foldl addF []
theorem addF_len (L : List Tm) (t : Tm) : (addF L t).length ≤ L.length + 1 := by
  rcases (addF_P L t).2 with ⟨e, _⟩ | e
  · rw [e]; omega
  · omega
theorem addF_mem {L : List Tm} {t x : Tm} : x ∈ addF L t ↔ x ∈ L ∨ x = t := (addF_P L t).1 x
theorem rsort_fn (l : List Tm) (h : ∀ x ∈ l, Sm x) (hl : l.length ≤ 1000000) : Gives Try.prog 51 [.lst 4 (rowsT l)] (.lst 4 (rowsT (rsortF l))) := by
  have hlen : ((rowsT l).length : Int) = l.length := by rw [rowsT_len]
  refine contract_of ty_ok [0, 1, 2, 3, 4, 5, 6, 7] Try.func51 rfl (by decide) Try.ntmps51 rfl fun z => ?_
  refine run 400 rfl ?_
  refine at_loop (fun p : Nat × List Tm => p.1 ≤ l.length ∧ p.2.length ≤ p.1 ∧ (∀ x ∈ p.2, x ∈ l) ∧ (l.drop p.1).foldl addF p.2 = rsortF l) (fun p => [(0, .lst 4 (rowsT l)), (3, .lst 4 (rowsT p.2)), (4, I p.1)]) (fun _ => []) (fun p => l.length - p.1) [0, 1, 2, 3, 4, 5, 6, 7]
    (0, []) ⟨by dsimp only; omega, by simp, by simp, by rfl⟩ ⟨SVle.refl _, SVle.nils, SVle.refl _, trivial⟩ trivial ?_
  rintro ⟨i, q⟩ ⟨a1, a2, a3, a4⟩
  dsimp only at a1 a2 a3 a4
  refine run 400 rfl ?_
  refine at_ifd rfl (fun g => ?_) (fun g => ?_)
  rotate_left
  · dsimp only at g
    rw [hlen] at g
    have e : i = l.length := by omega
    subst e
    rw [List.drop_length] at a4
    have a4 : q = rsortF l := a4
    refine run 400 rfl ?_
    exact at_ret rfl rfl [] ⟨by rw [a4], rfl, rfl⟩ trivial
  dsimp only at g
  rw [hlen] at g
  have hlt : i < l.length := by omega
  have hget := rowsT_get hlt
  have hmem := getD_mem hlt
  rw [drop_getD hlt, List.foldl_cons] at a4
  generalize l.getD i .zero = u at hget hmem a4
  refine run 400 rfl ?_
  refine at_val (.rp (tr u) 0) (does_index ty_ok _ rfl rfl rfl (by omega) (show (rowsT l)[(i : Int).toNat]? = some (tr u) from hget) rfl) ?_
  refine run 400 rfl ?_
  refine at_fn (add_fn q u (fun x hx => h x (a3 x hx)) (by omega)) rfl ?_
  refine run 400 rfl ?_
  have hal := addF_len q u
  exact at_again (i + 1, addF q u) ⟨by dsimp only; omega, by dsimp only; omega, by
    intro x hx
    rcases addF_mem.1 hx with hx | hx
    · exact a3 x hx
    · subst hx; exact hmem, a4⟩ (by dsimp only; omega) ⟨SVle.refl _, SVle.refl _, SVle.of_eq (by show I ((i : Int) + 1) = I ((i + 1 : Nat) : Int); rw [Int.natCast_add]; rfl), trivial⟩ trivial
end Go.Proofs.Ytmnmhehddbemkaa
namespace Go.Proofs.Ytmnmhehddbemkaa
open Go Go.Eng
set_option maxRecDepth 100000

def insF : List Int → Int → List Int
  | [], n => [n]
  | m :: L, n => if m < n then m :: insF L n else if m = n then m :: L else n :: m :: L
theorem insF_split {L : List Int} {t : Int} : ∀ (i : Nat), (∀ x ∈ L.take i, x < t) → insF L t = L.take i ++ insF (L.drop i) t := by
  induction L with
  | nil => intro i _; simp
  | cons u L ih =>
    intro i h
    cases i with
    | zero => simp
    | succ i =>
      simp only [List.take_succ_cons, List.drop_succ_cons, List.cons_append]
      have hu := h u (by simp)
      rw [insF, if_pos hu, ih i fun x hx => h x (by simp [hx])]
theorem insF_mem {L : List Int} {t x : Int} : x ∈ insF L t ↔ x ∈ L ∨ x = t := by
  induction L with
  | nil => simp [insF]
  | cons u L ih =>
    rw [insF]
    split
    · rw [List.mem_cons, ih, List.mem_cons, or_assoc]
    · split
      · rename_i h; subst h; simp; intro h; exact .inl h
      · simp only [List.mem_cons]; constructor
        · rintro (h | h | h)
          · exact .inr h
          · exact .inl (.inl h)
          · exact .inl (.inr h)
        · rintro ((h | h) | h)
          · exact .inr (.inl h)
          · exact .inr (.inr h)
          · exact .inl h
theorem insF_len (L : List Int) (t : Int) : (insF L t).length ≤ L.length + 1 := by
  induction L with
  | nil => simp [insF]
  | cons u L ih =>
    rw [insF]
    split
    · simp; omega
    · split <;> simp

theorem ints_len (l : List Int) : (ints l).length = l.length := by simp
theorem ints_at {l : List Int} {n : Nat} (h : n < l.length) : (ints l)[n]? = some [.int .i64 (l.getD n 0)] := by
  simp [List.getElem?_map, List.getElem?_eq_getElem h, List.getD_eq_getElem?_getD]
theorem dropI {l : List Int} {n : Nat} (h : n < l.length) : l.drop n = l.getD n 0 :: l.drop (n + 1) := by
  rw [List.drop_eq_getElem_cons h, List.getD_eq_getElem?_getD, List.getElem?_eq_getElem h]
  rfl

theorem ins_fn (L : List Int) (t : Int) (hl : L.length ≤ 10000000) : Gives Try.prog 75 [.lst 1 (ints L), I t] (.lst 1 (ints (insF L t))) := by
  have hlen : ((ints L).length : Int) = L.length := by rw [ints_len]
  have hlen2 : (ints L).length = L.length := ints_len L
  refine contract_of ty_ok [0, 1, 2, 3, 4, 5, 6, 7] Try.func75 rfl (by decide) Try.ntmps75 rfl fun z => ?_
  refine run 400 rfl ?_
  refine at_loop (fun i : Int => 0 ≤ i ∧ i ≤ L.length ∧ ∀ x ∈ L.take i.toNat, x < t) (fun i => [(0, .lst 1 (ints L)), (1, I t), (5, I i)]) (fun _ => []) (fun i => (L.length - i).toNat) [1, 2, 3, 4, 5]
    0 ⟨by omega, by omega, by simp⟩ ⟨SVle.refl _, SVle.refl _, SVle.refl _, trivial⟩ trivial ?_
  rintro i ⟨a1, a2, a3⟩
  refine run 400 rfl ?_
  by_cases hlt : i.toNat < L.length
  · have hget := ints_at hlt
    have hgetD : L[i.toNat]? = some (L.getD i.toNat 0) := by rw [List.getD_eq_getElem?_getD, List.getElem?_eq_getElem hlt]; rfl
    have hdrop := dropI hlt
    generalize L.getD i.toNat 0 = u at hget hgetD hdrop
    refine at_true 11 rfl (decide_eq_true (by rw [hlen]; omega)) ?_
    refine run 400 rfl ?_
    refine at_val (.rp [.int .i64 u] 0) (does_index ty_ok _ rfl rfl rfl a1 hget rfl) ?_
    refine run 400 rfl ?_
    refine at_ifd rfl (fun h => ?_) (fun h => ?_)
    · refine run 400 rfl ?_
      exact at_again (i + 1) ⟨by omega, by omega, by
        intro x hx
        rw [show (i + 1).toNat = i.toNat + 1 by omega, List.take_add_one, hgetD] at hx
        rcases List.mem_append.1 hx with hx | hx
        · exact a3 x hx
        · simp at hx
          rw [hx]
          exact h⟩ (by omega) ⟨SVle.refl _, SVle.refl _, SVle.refl _, trivial⟩ trivial
    · refine run 400 rfl ?_
      refine at_true 25 rfl (decide_eq_true (by rw [hlen]; omega)) ?_
      refine run 400 rfl ?_
      refine at_val (.rp [.int .i64 u] 0) (does_index ty_ok _ rfl rfl rfl a1 hget rfl) ?_
      refine run 400 rfl ?_
      refine at_if rfl (fun h2 => ?_) (fun h2 => ?_)
      · have e : u = t := by simpa using h2
        subst e
        refine run 400 rfl ?_
        have e : insF L u = L := by
          rw [insF_split i.toNat a3, hdrop, insF, if_neg h, if_pos rfl, ← hdrop, List.take_append_drop]
        exact at_ret rfl rfl [] ⟨by rw [e], rfl, rfl⟩ trivial
      · refine run 400 rfl ?_
        refine at_gro (.tl 1 []) (doesG_build ty_ok _ rfl trivial rfl rfl (by decide)) ?_
        refine run 400 rfl ?_
        refine at_val (.lst 1 ((ints L).take i.toNat)) (does_slice_h ty_ok rfl rfl rfl (by omega) rfl) ?_
        refine at_new 5 1 ([] ++ (ints L).take i.toNat) (doesT_append ty_ok rfl rfl rfl rfl rfl rfl rfl (by simp; omega) (by show _ * 8 ≤ _; simp; omega)) ?_
        refine run 400 rfl ?_
        refine at_drawn_st 8 [5] rfl rfl [(2, .gro (.tl 1 [[.int .i64 t]])), (3, .eat 5 1 ([] ++ (ints L).take i.toNat ++ [[.int .i64 t]]) (some 7)), (6, .val (.lst 1 ((ints L).drop i.toNat))), (7, .use 20 1 ([] ++ (ints L).take i.toNat ++ [[.int .i64 t]] ++ (ints L).drop i.toNat))] [20, 21, 22] rfl
          ⟨doesU_append ty_ok rfl rfl rfl rfl rfl rfl rfl (by simp; omega) (by show _ * 8 ≤ _; simp; omega), does_slice_l ty_ok rfl rfl rfl (by omega) rfl, doesU_append ty_ok rfl rfl rfl rfl rfl rfl rfl (by simp; omega) (by show _ * 8 ≤ _; simp; omega), doesG_build ty_ok _ rfl ⟨⟨rfl, rfl, _, rfl, SVles.refl _⟩, trivial⟩ rfl rfl (by decide)⟩ ?_
        refine run 400 rfl ?_
        have e : insF L t = L.take i.toNat ++ t :: L.drop i.toNat := by
          rw [insF_split i.toNat a3, hdrop, insF, if_neg h, if_neg (by simpa using h2)]
        exact at_ret rfl rfl [] ⟨by rw [e]; simp [List.map_take, List.map_drop], rfl, rfl⟩ trivial
  · refine at_false 11 rfl (decide_eq_false (by rw [hlen]; omega)) ?_
    refine run 400 rfl ?_
    refine at_false 25 rfl (decide_eq_false (by rw [hlen]; omega)) ?_
    refine run 400 rfl ?_
    refine at_gro (.tl 1 []) (doesG_build ty_ok _ rfl trivial rfl rfl (by decide)) ?_
    refine run 400 rfl ?_
    refine at_val (.lst 1 ((ints L).take i.toNat)) (does_slice_h ty_ok rfl rfl rfl (by omega) rfl) ?_
    refine at_new 5 1 ([] ++ (ints L).take i.toNat) (doesT_append ty_ok rfl rfl rfl rfl rfl rfl rfl (by simp; omega) (by show _ * 8 ≤ _; simp; omega)) ?_
    refine run 400 rfl ?_
    refine at_drawn_st 8 [5] rfl rfl [(2, .gro (.tl 1 [[.int .i64 t]])), (3, .eat 5 1 ([] ++ (ints L).take i.toNat ++ [[.int .i64 t]]) (some 7)), (6, .val (.lst 1 ((ints L).drop i.toNat))), (7, .use 20 1 ([] ++ (ints L).take i.toNat ++ [[.int .i64 t]] ++ (ints L).drop i.toNat))] [20, 21, 22] rfl
      ⟨doesU_append ty_ok rfl rfl rfl rfl rfl rfl rfl (by simp; omega) (by show _ * 8 ≤ _; simp; omega), does_slice_l ty_ok rfl rfl rfl (by omega) rfl, doesU_append ty_ok rfl rfl rfl rfl rfl rfl rfl (by simp; omega) (by show _ * 8 ≤ _; simp; omega), doesG_build ty_ok _ rfl ⟨⟨rfl, rfl, _, rfl, SVles.refl _⟩, trivial⟩ rfl rfl (by decide)⟩ ?_
    refine run 400 rfl ?_
    have e : insF L t = L.take i.toNat ++ t :: L.drop i.toNat := by
      rw [insF_split i.toNat a3, List.drop_eq_nil_of_le (by omega), insF]
    exact at_ret rfl rfl [] ⟨by rw [e]; simp [List.map_take, List.map_drop], rfl, rfl⟩ trivial

mutual
/-- The nonces, by the document. -/
def rnonT : Tm → List Int
  | .mk k n _ l => rnonL l (if k = 2 then [n] else [])
def rnonL : List Tm → List Int → List Int
  | [], acc => acc
  | t :: l, acc => rnonL l ((rnonT t).foldl insF acc)
end
theorem foldI_len (l : List Int) : ∀ acc : List Int, (l.foldl insF acc).length ≤ acc.length + l.length := by
  induction l with
  | nil => intro acc; simp
  | cons n l ih =>
    intro acc
    have := ih (insF acc n)
    have := insF_len acc n
    simp only [List.foldl_cons, List.length_cons]
    omega
mutual
theorem rnonT_len : ∀ t : Tm, (rnonT t).length ≤ szT t
  | .mk k n s l => by
    have h1 := rnonL_len l (if k = 2 then [n] else [])
    have h2 : (if k = 2 then [n] else []).length ≤ 1 := by split <;> simp
    rw [rnonT, szT]
    omega
theorem rnonL_len : ∀ (l : List Tm) (acc : List Int), (rnonL l acc).length ≤ acc.length + szL l
  | [], acc => by simp [rnonL, szL]
  | t :: l, acc => by
    have := rnonL_len l ((rnonT t).foldl insF acc)
    have := foldI_len (rnonT t) acc
    have := rnonT_len t
    rw [rnonL, szL]
    omega
end

theorem szL_mem {l : List Tm} {t : Tm} (h : t ∈ l) : szT t ≤ szL l := by
  induction l with
  | nil => cases h
  | cons u l ih =>
    rw [szL]
    rcases List.mem_cons.1 h with rfl | h
    · omega
    · have := ih h; omega
theorem SVle.nilI : SVle (.tl 0 []) (.lst 1 (ints [])) := fun g H x h => SVle.tl 1 [] g H x (SVle.nil 1 g H x h)

theorem rnon_fn : ∀ (t : Tm), Sm t → szT t ≤ 1000000 → Gives Try.prog 42 [t.sv] (.lst 1 (ints (rnonT t))) := by
  intro t
  induction t using Tm.ind with
  | h k n s l ih =>
    intro hsm hc
    have hL := hsm.ks
    have hlen0 : ((rowsT l).length : Int) = l.length := by rw [rowsT_len]
    rw [szT] at hc
    rw [rnonT]
    refine contract_of ty_ok [0, 1, 2, 3, 4, 5, 6, 7] Try.func42 rfl (by decide) Try.ntmps42 rfl fun z => ?_
    refine run 400 rfl ?_
    refine at_join (fun _ : Unit => True) (fun _ => [(1, .ptr 0 0), (3, .lst 1 (ints (if k = 2 then [n] else [])))]) (fun _ => [(0, own33 (.mk k n s l))]) [1, 2, 3, 4, 5, 6, 7] ?_ ?_
    · refine at_if rfl (fun q => ?_) (fun q => ?_)
      · have q : k = 2 := by simpa using q
        refine run 400 rfl ?_
        refine at_gro (.tl 1 (ints [n])) (doesG_build ty_ok _ rfl ⟨⟨rfl, rfl, _, rfl, SVles.refl _⟩, trivial⟩ rfl rfl (by decide)) ?_
        refine run 400 rfl ?_
        exact at_joined () trivial ⟨SVle.refl _, by rw [if_pos q]; exact SVle.tl _ _, trivial⟩ ⟨rfl, trivial⟩
      · have q : ¬ k = 2 := by simpa using q
        refine run 400 rfl ?_
        exact at_joined () trivial ⟨SVle.refl _, by rw [if_neg q]; exact SVle.nilI, trivial⟩ ⟨rfl, trivial⟩
    intro _ _
    have hacc0 : (if k = 2 then [n] else []).length ≤ 1 := by split <;> simp
    generalize (if k = 2 then [n] else []) = acc0 at hacc0
    refine run 400 rfl ?_
    refine at_loop (fun p : Nat × List Int => p.1 ≤ l.length ∧ rnonL (l.drop p.1) p.2 = rnonL l acc0 ∧ p.2.length + szL (l.drop p.1) ≤ 1000001) (fun p => [(1, .ptr 0 0), (3, .lst 1 (ints p.2)), (4, I p.1)]) (fun _ => [(0, own33 (.mk k n s l))]) (fun p => l.length - p.1) [1, 2, 3, 4, 5, 6, 7]
      (0, acc0) ⟨by dsimp only; omega, rfl, by dsimp only; rw [List.drop_zero]; omega⟩ ⟨SVle.refl _, SVle.refl _, SVle.refl _, trivial⟩ ⟨rfl, trivial⟩ ?_
    rintro ⟨i, q⟩ ⟨a1, a2, a3⟩
    dsimp only at a1 a2 a3
    refine run 400 rfl ?_
    refine at_ifd rfl (fun g => ?_) (fun g => ?_)
    rotate_left
    · dsimp only at g
      rw [hlen0] at g
      have e : i = l.length := by omega
      subst e
      rw [List.drop_length, rnonL] at a2
      refine run 400 rfl ?_
      exact at_ret rfl rfl [] ⟨by rw [a2], rfl, rfl⟩ trivial
    dsimp only at g
    rw [hlen0] at g
    have hlt : i < l.length := by omega
    have hget := rowsT_get hlt
    have hmem := getD_mem hlt
    rw [drop_getD hlt] at a2 a3
    generalize l.getD i .zero = u at hget hmem a2 a3
    rw [rnonL] at a2
    rw [szL] at a3
    have hu := ih u hmem (hL.2 u hmem)
    have hsz := szL_mem hmem
    have hul := rnonT_len u
    have hui := hu (by omega)
    generalize rnonT u = w at a2 hul hui
    have hwl : ((ints w).length : Int) = w.length := by rw [ints_len]
    refine run 400 rfl ?_
    refine at_val (.rp (tr u) 0) (does_index ty_ok _ rfl rfl rfl (by omega) (show (rowsT l)[(i : Int).toNat]? = some (tr u) from hget) rfl) ?_
    refine run 400 rfl ?_
    refine at_fn hui rfl ?_
    refine run 400 rfl ?_
    refine at_loop (fun p : Nat × List Int => p.1 ≤ w.length ∧ (w.drop p.1).foldl insF p.2 = w.foldl insF q ∧ p.2.length ≤ q.length + p.1) (fun p => [(1, .ptr 0 0), (3, .lst 1 (ints p.2)), (4, I i), (5, .lst 1 (ints w)), (6, I p.1)]) (fun _ => [(0, own33 (.mk k n s l))]) (fun p => w.length - p.1) [1, 2, 3, 4, 5, 6, 7]
      (0, q) ⟨by dsimp only; omega, rfl, by dsimp only; omega⟩ ⟨SVle.refl _, SVle.refl _, SVle.refl _, SVle.refl _, SVle.refl _, trivial⟩ ⟨rfl, trivial⟩ ?_
    rintro ⟨j, r⟩ ⟨b1, b2, b3⟩
    dsimp only at b1 b2 b3
    refine run 400 rfl ?_
    refine at_ifd rfl (fun g2 => ?_) (fun g2 => ?_)
    rotate_left
    · dsimp only at g2
      rw [hwl] at g2
      have e : j = w.length := by omega
      subst e
      rw [List.drop_length] at b2
      have b2 : r = w.foldl insF q := b2
      refine run 400 rfl ?_
      exact at_again (i + 1, r) ⟨by dsimp only; omega, by dsimp only; rw [b2]; exact a2, by dsimp only; omega⟩ (by dsimp only; omega) ⟨SVle.refl _, SVle.refl _, SVle.of_eq (by show I ((i : Int) + 1) = I ((i + 1 : Nat) : Int); rw [Int.natCast_add]; rfl), trivial⟩ ⟨rfl, trivial⟩
    dsimp only at g2
    rw [hwl] at g2
    have hlt2 : j < w.length := by omega
    have hget2 := ints_at hlt2
    rw [dropI hlt2, List.foldl_cons] at b2
    generalize w.getD j 0 = v at hget2 b2
    have hil := insF_len r v
    refine run 400 rfl ?_
    refine at_val (.rp [.int .i64 v] 0) (does_index ty_ok _ rfl rfl rfl (by omega) (show (ints w)[(j : Int).toNat]? = some [.int .i64 v] from hget2) rfl) ?_
    refine run 400 rfl ?_
    refine at_fn (ins_fn r v (by omega)) rfl ?_
    refine run 400 rfl ?_
    exact at_again (j + 1, insF r v) ⟨by dsimp only; omega, b2, by dsimp only; omega⟩ (by dsimp only; omega) ⟨SVle.refl _, SVle.refl _, SVle.refl _, SVle.refl _, SVle.of_eq (by show I ((j : Int) + 1) = I ((j + 1 : Nat) : Int); rw [Int.natCast_add]; rfl), trivial⟩ ⟨rfl, trivial⟩
end Go.Proofs.Ytmnmhehddbemkaa
/- The proof engine: lists in own blocks of more than one cell; owned slices. -/
namespace Go.Eng
open Go.RowKit

theorem Dens.set {g : Nat → Value} {H : Hp} {x : Value} {s : SV} (hs : Den g H s x) : ∀ (ds : List SV) (ws : List Value) (i : Nat), Dens g H ds ws → ws[i]? = some x → Dens g H (ds.set i s) ws
  | [], [], _, h, _ => h
  | [], _ :: _, _, h, _ => h.elim
  | _ :: _, [], _, h, _ => h.elim
  | d :: ds, v :: ws, 0, h, hx => by
    simp only [List.getElem?_cons_zero, Option.some.injEq] at hx
    subst hx
    exact ⟨hs, h.2⟩
  | d :: ds, v :: ws, i + 1, h, hx => ⟨h.1, Dens.set hs ds ws i h.2 (by simpa using hx)⟩

section
variable {E : Stc} {s : List Fr} {env : List (Nat × SV)} {own own2 : List (Nat × SO)} {nx : List Nat}
/-- A list in an own block gets a name. -/
theorem at_nameI {m : Md} (c k sz i : Nat) {ty sz0 : Nat} {cs : List SV} {rows : List (List DV)} (hc : ownq own c = some (.cells ty cs)) (hi : cs[i]? = some (.tl sz0 rows)) (hs : sz0 = sz ∨ rows = []) (hso : setOwnK c (.cells ty (cs.set i (.gl k sz rows))) own some = some own2)
    (kk : Sat E m s env ((k, .tok sz) :: own2) nx) (hm : Nat.ble E.cx.m0 k = true := by rfl) (hE : freshE k env = true := by rfl) (hO : freshO k own = true := by rfl) (hne : Nat.beq k c = false := by rfl) (hcs : SV.noKs k cs = true := by rfl) : Sat E m s env own nx := by
  rw [setOwnK_eq] at hso
  simp only [Option.some.injEq] at hso
  subst hso
  have hkc : ¬ k = c := fun e => by rw [e, Nat.beq_refl] at hne; cases hne
  refine sat_mono (fun a w hat => ?_) kk
  obtain ⟨hdf, g, H, hdn⟩ := hat
  obtain ⟨b, vs, g1, g2, g3, g4, g5, g6⟩ := hdn.ok c _ hc
  obtain ⟨x, hxi, hxd⟩ := Dens.get g2 hi
  obtain ⟨⟨ad, cp, e, h1, h2, h3⟩, ad', e'⟩ := hxd
  have hx : DenD H (.lst sz rows) x := by
    refine ⟨ad, cp, e, h1, h2, fun p hp => ?_⟩
    rcases hs with rfl | rfl
    · exact h3 p hp
    · exact ⟨.inl rfl, trivial⟩
  have hcp : cp = rows.length := by
    rw [e] at e'
    simp only [Value.slice.injEq, true_and] at e'
    exact e'.2
  obtain ⟨hd3, hp⟩ := hdn.tok (k := k) (sz := sz) (rows := rows) (Nat.le_of_ble_eq_true hm) hE hO hx ⟨ad, rows.length, cp, e, fun h => ⟨by rw [(h2 h).1]; rfl, (h2 h).2⟩, h1, fun p hp hlt => absurd hlt (by omega)⟩
  have hiff : ∀ j, (ownq ((k, SO.tok sz) :: setOwn c (.cells ty (cs.set i (.gl k sz rows))) own) j).isSome = true → (ownq ((k, SO.tok sz) :: own) j).isSome = true := by
    intro j hi
    simp only [ownq] at hi ⊢
    cases hb : Nat.beq k j with
    | true => rfl
    | false =>
      rw [hb, cond_false] at hi
      rw [cond_false]
      rw [ownq_setOwn] at hi
      split at hi
      · rename_i e
        subst e
        rw [hc]; rfl
      · exact hi
  refine ⟨hdf, _, H, { hd3 with ok := fun j o' hj => ?_, inj := fun i j hi hj => hd3.inj i j (hiff i hi) (hiff j hj) }⟩
  simp only [ownq] at hj
  cases hb : Nat.beq k j with
  | true =>
    have hj' : ownq ((k, SO.tok sz) :: own) j = some o' := by simp only [ownq, hb, cond_true]; rw [hb, cond_true] at hj; exact hj
    exact hd3.ok j o' hj'
  | false =>
    rw [hb, cond_false, ownq_setOwn] at hj
    have hjk : j ≠ k := fun e => by rw [e, Nat.beq_refl] at hb; cases hb
    by_cases hjc : j = c
    · subst hjc
      rw [if_pos rfl, hc] at hj
      simp only [Option.map_some, Option.some.injEq] at hj
      subst hj
      exact ⟨b, vs, by rw [upd_ne _ _ _ j hjk]; exact g1, Dens.set hp _ _ i (Dens.upd (k := k) (fun j hj => upd_ne _ _ _ j hj) cs vs hcs g2) hxi, g3, g4, g5, g6⟩
    · rw [if_neg hjc] at hj
      exact hd3.ok j o' (by simp only [ownq, hb, cond_false]; exact hj)
end
end Go.Eng
/- The proof engine, part 17s: regions whose order is drawn, gone through in stages. -/
namespace Go.Eng

/-- The first m operations are done, the others are not. -/
def SatA (E : Stc) (ops : Array Oper) (m : Nat) (s : List Fr) (env : List (Nat × SV)) (own : List (Nat × SO)) : Prop :=
  ∀ (fuel : Nat) (listed : Array Bool) (a : Act) (w : World), listed.size = ops.size → (∀ i, i < m → listed.getD i false = true) → (∀ i, m ≤ i → listed.getD i false = false) → ops.size - m ≤ fuel → At E env own a w → wpAny E.P .any ops (KK E s) fuel listed a w

/-- Each operation from n on stands behind all ahead of n. -/
def barGo (n : Nat) : Nat → List Nat → List Oper → Bool
  | _, _, [] => true
  | i, ms, o :: os => bif (bif Nat.ble n i then Nat.beq (Nat.land (maskOf ms o.after.toList) (Nat.sub (Nat.pow 2 n) 1)) (Nat.sub (Nat.pow 2 n) 1) else true) then barGo n (i + 1) (ms ++ [maskOf ms o.after.toList]) os else false

theorem barGo_spec {all : List Oper} {n : Nat} : ∀ (os : List Oper) (i : Nat) (ms : List Nat), barGo n i ms os = true → ms.length = i → (∀ k, os[k]? = all[i + k]?) → (∀ (k x : Nat), ms[k]? = some x → ∀ j, x.testBit j = true → Reach (fun i => all[i]?) k j) →
    ∀ k o, os[k]? = some o → n ≤ i + k → ∀ j, j < n → Reach (fun i => all[i]?) (i + k) j
  | [], _, _, _, _, _, _, k, o, h => by simp at h
  | x :: xs, i, ms, hs, hl, hall, hm, k, o, h => by
    simp only [barGo] at hs
    cases hc : (bif Nat.ble n i then Nat.beq (Nat.land (maskOf ms x.after.toList) (Nat.sub (Nat.pow 2 n) 1)) (Nat.sub (Nat.pow 2 n) 1) else true) with
    | false => rw [hc] at hs; cases hs
    | true =>
      rw [hc, cond_true] at hs
      have hx : all[i]? = some x := by have := hall 0; simpa using this.symm
      have hmask := maskOf_spec (get := fun i => all[i]?) hm hx x.after.toList (fun _ h => h)
      cases k with
      | zero =>
        intro hn j hj
        rw [Nat.add_zero] at hn ⊢
        rw [Nat.ble_eq_true_of_le hn, cond_true] at hc
        have e : (maskOf ms x.after.toList) &&& (2 ^ n - 1) = 2 ^ n - 1 := beq_true hc
        refine hmask j ?_
        have h2 : (2 ^ n - 1).testBit j = true := by rw [Nat.testBit_two_pow_sub_one]; simpa using hj
        rw [← e, Nat.testBit_and, Bool.and_eq_true] at h2
        exact h2.1
      | succ k =>
        intro hn j hj
        have := barGo_spec xs (i + 1) (ms ++ [maskOf ms x.after.toList]) hs (by simp [hl]) (fun k => by have := hall (k + 1); rw [show i + 1 + k = i + (k + 1) from by omega]; simpa using this) (fun q y hq => by
          by_cases hlt : q < ms.length
          · rw [List.getElem?_append_left hlt] at hq
            exact hm q y hq
          · rw [List.getElem?_append_right (by omega)] at hq
            have : q - ms.length = 0 := by
              cases hz : q - ms.length with
              | zero => rfl
              | succ z => rw [hz] at hq; simp at hq
            rw [this] at hq
            simp only [List.getElem?_cons_zero, Option.some.injEq] at hq
            subst hq
            obtain rfl : q = i := by omega
            exact hmask) k o (by simpa using h) (by omega) j (by omega)
        rw [show i + (k + 1) = i + 1 + k from by omega]
        exact this
def barOk (n : Nat) (all : List Oper) : Bool := barGo n 0 [] all
theorem barOk_spec {n : Nat} {all : List Oper} (h : barOk n all = true) {i : Nat} {o : Oper} (ho : all[i]? = some o) (hn : n ≤ i) {j : Nat} (hj : j < n) : Reach (fun i => all[i]?) i j := by
  have := barGo_spec (all := all) all 0 [] h rfl (fun k => by simp) (fun k x hx => by simp at hx) i o ho (by omega) j (by omega)
  simpa using this

/-- A stage of a region, in whatever order. -/
theorem wpAny_stage (E : Stc) (ops : Array Oper) (pre suf : List Oper) (plan : List PE) (env0 : List (Nat × SV)) (own0 : List (Nat × SO)) (s : List Fr) (m0 : Nat)
    (hops : ops.toList = pre ++ suf) (hlen : plan.length = pre.length) (hdst : dstsOk pre = true) (htil : tilsLt pre.length plan) (hsuf : barOk pre.length (pre ++ suf) = true) (hah : aheadOk 0 (pre ++ suf) = true)
    (cert : ∀ i o p, m0 ≤ i → pre[i]? = some o → plan[i]? = some p → Cert E ops pre plan env0 own0 s i o p)
    (hK : SatA E ops pre.length s (envOf (fun _ => true) 0 pre plan env0) (ownOf (fun _ => true) 0 plan own0)) :
    ∀ (fuel : Nat) (listed : Array Bool) (a : Act) (w : World), listed.size = ops.size →
      (∃ i, i < pre.length ∧ listed.getD i false = false) → (∀ i, i < m0 → listed.getD i false = true) → (∀ i, pre.length ≤ i → listed.getD i false = false) →
          (∀ j oj k, pre[j]? = some oj → listed.getD j false = true → behind oj k = true → listed.getD k false = true) →
          (listed.toList.filter (!·)).length ≤ fuel → At E (envOf (fun i => listed.getD i false) 0 pre plan env0) (ownOf (fun i => listed.getD i false) 0 plan own0) a w →
      wpAny E.P .any ops (KK E s) fuel listed a w := by
  have hget : ∀ i : Nat, ops[i]? = (pre ++ suf)[i]? := fun i => by rw [← hops]; simp
  have hsize : ops.size = pre.length + suf.length := by rw [← Array.length_toList, hops, List.length_append]
  have hd : ∀ (listed : Array Bool) (i : Nat), listed.size = ops.size → i < ops.size → listed.getD i true = listed.getD i false := by
    intro listed i h1 h2
    simp [h1, h2]
  intro fuel
  induction fuel with
  | zero =>
    intro listed a w hls ⟨i, hi, hli⟩ _ _ _ hf _
    · exfalso
      have hil : i < listed.size := by omega
      have : false ∈ listed.toList := by
        have e : listed.getD i false = listed[i] := by simp [hil]
        rw [e] at hli
        rw [← hli]
        exact Array.mem_toList_iff.2 (Array.getElem_mem hil)
      have hm : false ∈ listed.toList.filter (!·) := List.mem_filter.2 ⟨this, rfl⟩
      have := List.length_pos_of_mem hm
      omega
  | succ fuel ih =>
    intro listed a w hls ⟨i, hi, hli⟩ hm0 hsf hcl hf hat
    · -- the first phase
      -- the least that is left may come
      have hleast : ∃ m, m < pre.length ∧ listed.getD m false = false ∧ ∀ j, j < m → listed.getD j false = true := by
        have : ∀ n, n ≤ pre.length → (∀ j, j < n → listed.getD j false = true) ∨ ∃ m, m < n ∧ listed.getD m false = false ∧ ∀ j, j < m → listed.getD j false = true := by
          intro n
          induction n with
          | zero => intro _; exact .inl fun j hj => absurd hj (Nat.not_lt_zero j)
          | succ n ihn =>
            intro hn
            rcases ihn (by omega) with h | ⟨m, hm, h1, h2⟩
            · cases hc : listed.getD n false with
              | true =>
                refine .inl fun j hj => ?_
                rcases Nat.lt_or_ge j n with h' | h'
                · exact h j h'
                · have : j = n := by omega
                  subst this
                  exact hc
              | false => exact .inr ⟨n, by omega, hc, h⟩
            · exact .inr ⟨m, by omega, h1, h2⟩
        rcases this pre.length (Nat.le_refl _) with h | ⟨m, hm, h1, h2⟩
        · rw [h i hi] at hli; cases hli
        · exact ⟨m, hm, h1, h2⟩
      obtain ⟨m, hm, hlm, hbm⟩ := hleast
      have hom : ops[m]? = some pre[m] := by
        rw [hget, List.getElem?_append_left hm]
        exact List.getElem?_eq_getElem hm
      have hmr : m ∈ Region.ready .any ops listed := by
        refine ready_iff.2 ⟨by rw [hd listed m hls (by omega)]; exact hlm, pre[m], hom, fun j hj => hbm j ?_⟩
        have := aheadOk_spec (pre ++ suf) 0 m pre[m] hah (by rw [← hget]; exact hom) j hj
        omega
      refine ⟨fun h0 => (by rw [h0] at hmr; cases hmr), fun j hj => ?_⟩
      obtain ⟨hj1, o, ho, hb⟩ := ready_iff.1 hj
      have hjl : j < ops.size := (Array.getElem?_eq_some_iff.1 ho).1
      rw [hd listed j hls hjl] at hj1
      have hjp : j < pre.length := by
        rcases Nat.lt_or_ge j pre.length with h | h
        · exact h
        · exfalso
          have hoj0 : (pre ++ suf)[j]? = some o := by rw [← hget]; exact ho
          have := reach_listed (get := fun i => (pre ++ suf)[i]?) (L := fun i => listed.getD i false) (fun i o k' hi hL hb' => by
            rcases Nat.lt_or_ge i pre.length with h' | h'
            · rw [List.getElem?_append_left h'] at hi
              exact hcl i o k' hi hL hb'
            · simp only [hsf i h'] at hL
              cases hL) (barOk_spec hsuf hoj0 h hm) (fun o' ho' k' hk' => by
            rw [hoj0] at ho'
            cases ho'
            exact hb k' hk')
          simp only [hlm] at this
          cases this
      have hoj : pre[j]? = some o := by
        rw [hget, List.getElem?_append_left hjp] at ho
        exact ho
      have hpj : plan[j]? = some plan[j] := List.getElem?_eq_getElem (by omega)
      have hjm : m0 ≤ j := by
        rcases Nat.lt_or_ge j m0 with h | h
        · rw [hm0 j h] at hj1; cases hj1
        · exact h
      have hc := cert j o plan[j] hjm hoj hpj (fun i => listed.getD i false) hj1 hb hcl a w hat
      refine wpOp_mono (fun a' w' hat' => ?_) hc
      have hsel : ∀ i, i < pre.length → (listed.setIfInBounds j true).getD i false = add (fun i => listed.getD i false) j i := by
        intro i hip
        by_cases e : i = j
        · subst e
          have : i < listed.size := by omega
          simp [this, add]
        · rw [getD_set_ne false (Ne.symm e)]
          have : Nat.beq i j = false := by
            cases hb : Nat.beq i j with
            | false => rfl
            | true => exact absurd (beq_true hb) e
          simp [add, this]
      have hat2 : At E (envOf (fun i => (listed.setIfInBounds j true).getD i false) 0 pre plan env0) (ownOf (fun i => (listed.setIfInBounds j true).getD i false) 0 plan own0) a' w' := by
        rw [envOf_congr (sel' := add (fun i => listed.getD i false) j) pre plan 0 env0 (fun i _ hi => hsel i (by omega)), ownOf_congr (sel' := add (fun i => listed.getD i false) j) hsel plan 0 own0 htil (by omega)]
        refine at_le hat' ?_ fun _ _ h => h
        have := envOf_add (sel := fun i => listed.getD i false) pre plan 0 j env0 o plan[j] hdst hoj hpj
        rw [Nat.zero_add] at this
        exact this
      have hcount : ((listed.setIfInBounds j true).toList.filter (!·)).length ≤ fuel := by
        have hjls : j < listed.toList.length := by simpa using (by omega : j < listed.size)
        have e1 : (listed.setIfInBounds j true).toList = listed.toList.set j true := by simp
        have e2 : listed.toList = listed.toList.take j ++ listed.toList[j] :: listed.toList.drop (j + 1) := by
          rw [← List.drop_eq_getElem_cons hjls, List.take_append_drop]
        have e3 : listed.toList.set j true = listed.toList.take j ++ true :: listed.toList.drop (j + 1) := List.set_eq_take_append_cons_drop.trans (if_pos hjls)
        have e4 : listed.toList[j] = false := by
          have : listed.getD j false = listed[j]'(by omega) := by simp [show j < listed.size by omega]
          rw [this] at hj1
          simpa using hj1
        rw [e1, e3]
        rw [e2, e4] at hf
        simp only [List.filter_append, List.filter_cons, List.length_append] at hf ⊢
        simp at hf ⊢
        omega
      by_cases hall : ∃ i, i < pre.length ∧ (listed.setIfInBounds j true).getD i false = false
      · refine ih _ a' w' (by simpa using hls) hall (fun i hi => getD_set_true (hm0 i hi)) (fun i hi => by rw [getD_set_ne false (by omega)]; exact hsf i hi) (fun i oi k hoi hli hk => ?_) hcount hat2
        by_cases e : i = j
        · subst e
          rw [hoj] at hoi
          cases hoi
          exact getD_set_true (hb k hk)
        · rw [getD_set_ne false (Ne.symm e)] at hli
          exact getD_set_true (hcl i oi k hoi hli hk)
      · have hle : ops.size - pre.length ≤ fuel := by
          have hle : suf.length ≤ ((listed.setIfInBounds j true).toList.filter (!·)).length := by
            have e5 : (listed.setIfInBounds j true).toList.drop pre.length = List.replicate suf.length false := by
              apply List.ext_getElem?
              intro i
              rw [List.getElem?_drop, List.getElem?_replicate]
              by_cases hi : i < suf.length
              · rw [if_pos hi]
                have hlt : pre.length + i < (listed.setIfInBounds j true).size := by simp; omega
                have : (listed.setIfInBounds j true).getD (pre.length + i) false = false := by
                  rw [getD_set_ne false (by omega)]; exact hsf _ (by omega)
                rw [Array.getElem?_toList, Array.getElem?_eq_getElem hlt]
                have e6 : (listed.setIfInBounds j true).getD (pre.length + i) false = (listed.setIfInBounds j true)[pre.length + i] := by
                  rw [Array.getD_eq_getD_getElem?, Array.getElem?_eq_getElem hlt]; rfl
                rw [← e6, this]
              · rw [if_neg hi]
                apply List.getElem?_eq_none
                simp
                omega
            have e7 : ((listed.setIfInBounds j true).toList.filter (!·)).length = (((listed.setIfInBounds j true).toList.take pre.length).filter (!·)).length + (((listed.setIfInBounds j true).toList.drop pre.length).filter (!·)).length := by
              rw [← List.length_append, ← List.filter_append, List.take_append_drop]
            rw [e7, e5]
            simp
          omega
        have htrue : ∀ i, i < pre.length → (listed.setIfInBounds j true).getD i false = true := fun i hi => by
          cases hc : (listed.setIfInBounds j true).getD i false with
          | true => rfl
          | false => exact absurd ⟨i, hi, hc⟩ hall
        refine hK fuel _ a' w' (by simpa using hls) htrue (fun i hi => by rw [getD_set_ne false (by omega)]; exact hsf i hi) hle ?_
        rw [envOf_congr (sel' := fun i => (listed.setIfInBounds j true).getD i false) pre plan 0 env0 (fun i _ hi => (htrue i (by omega)).symm), ownOf_congr (sel' := fun i => (listed.setIfInBounds j true).getD i false) (N := pre.length) (fun i hi => (htrue i hi).symm) plan 0 own0 htil (by omega)]
        exact hat2

/-- What is done already, as a part of a plan. -/
def dums (env0 : List (Nat × SV)) : List Oper → List PE
  | [] => []
  | o :: os => ⟨match o.dst with | some d => nth env0 d | none => .any, [], none, none, false⟩ :: dums env0 os
theorem dums_len (env0 : List (Nat × SV)) : ∀ l, (dums env0 l).length = l.length
  | [] => rfl
  | _ :: l => by simp [dums, dums_len env0 l]

def dumsK {α : Type} (env0 : List (Nat × SV)) : List Oper → (List PE → α) → α
  | [], k => k []
  | o :: os, k => dumsK env0 os fun r => match o.dst with
    | some d => nthK d (fun s => k (⟨s, [], none, none, false⟩ :: r)) env0
    | none => k (⟨.any, [], none, none, false⟩ :: r)
theorem dumsK_eq {α : Type} (env0 : List (Nat × SV)) : ∀ (l : List Oper) (k : List PE → α), dumsK env0 l k = k (dums env0 l)
  | [], _ => rfl
  | o :: os, k => by
    simp only [dumsK, dums, dumsK_eq env0 os]
    cases o.dst with
    | some d => simp only [nthK_eq]
    | none => rfl

/-- A stage: from m0 done to m1 done. -/
def planS (P : Program) (T : Nat → TI) (mm n : Nat) (all : List Oper) (m0 : Nat) (pre0 pre1 pre : List Oper) (ans : List (Nat × Ans)) (env0 : List (Nat × SV)) (own0 : List (Nat × SO)) (nx st : List Nat) : PlanR :=
  bif dstsOk pre then
    bif barOk pre.length all then
      bif aheadOk 0 all then
        rmOK st own0 fun ownR => dumsK env0 pre0 fun ds => planK P T mm n all pre ans env0 ownR own0 m0 pre1 ds nx [] fun ps ob =>
          bif newOk own0 ps && (disO ownR ps && (eatOk own0 ps && eatU ps)) then
            bif freshP mm pre ps env0 own0 0 ps then
              bif tilsB pre ps 0 ps then
                envOfK (fun _ => true) 0 pre ps env0 fun env => ownOfK ps own0 fun own => .ok ps env own ob
              else .stuck 105
            else .stuck 104
          else .stuck 103
      else .stuck 102
    else .stuck 101
  else .stuck 100

theorem satA_mono {E : Stc} {ops : Array Oper} {m : Nat} {s : List Fr} {env env' : List (Nat × SV)} {own own' : List (Nat × SO)} (h : ∀ a w, At E env own a w → At E env' own' a w) (k : SatA E ops m s env' own') : SatA E ops m s env own :=
  fun fuel listed a w h1 h2 h3 h4 hat => k fuel listed a w h1 h2 h3 h4 (h a w hat)

/-- At the front of a region. -/
theorem at_stages {E : Stc} {id : Nat} {ops : Array Oper} {s : List Fr} {env : List (Nat × SV)} {own : List (Nat × SO)} {nx : List Nat} (h : SatA E ops 0 s env own) (hm : E.P.follows .mixedOrders = true := by rfl) : Sat E (.code (.region id ops true)) s env own nx := by
  intro a w hat
  refine wp_region_any hm ?_
  refine h ops.size _ a w.drew (by simp) (fun i hi => absurd hi (Nat.not_lt_zero i)) (fun i _ => ?_) (by omega) ?_
  · rw [Array.getD_eq_getD_getElem?, Array.getElem?_replicate]
    split <;> rfl
  · obtain ⟨hdf, g, H, hd⟩ := hat
    exact ⟨hdf, g, H, hd.drew⟩

/-- At the end of a region. -/
theorem at_stage_end {E : Stc} {ops : Array Oper} {m : Nat} {s : List Fr} {env : List (Nat × SV)} {own : List (Nat × SO)} (nx : List Nat) (hm : m = ops.size) (h : Sat E .norm s env own nx) : SatA E ops m s env own := by
  subst hm
  intro fuel listed a w hls h1 _ _ hat
  have hr : Region.ready .any ops listed = [] := by
    apply List.eq_nil_iff_forall_not_mem.2
    intro j hj
    obtain ⟨hj1, o, ho, _⟩ := ready_iff.1 hj
    have hlt : j < ops.size := (Array.getElem?_eq_some_iff.1 ho).1
    have := h1 j hlt
    have e : listed.getD j true = listed.getD j false := by simp [hls, hlt]
    rw [e, this] at hj1
    cases hj1
  cases fuel with
  | zero => exact ⟨hr, h a w hat⟩
  | succ fuel => exact ⟨fun _ => h a w hat, by rw [hr]; simp⟩

theorem envOf_dums {E : List (Nat × SV)} : ∀ (l : List Oper) (ps : List PE) (i0 _m : Nat) (sel : Nat → Bool) (env : List (Nat × SV)), (∀ i p, ps[i]? = some p → sel (i0 + i) = true → ∀ o d, l[i]? = some o → o.dst = some d → SVle (nth E d) p.sv) → leE E env → leE E (envOf sel i0 l ps env)
  | [], _, _, _, _, env, _, h => by simpa [envOf] using h
  | o :: os, [], i0, m, sel, env, hp, h => by
    intro t
    simp only [envOf, nth_put]
    split
    · exact SVle.any _
    · exact envOf_dums os [] (i0 + 1) m sel env (fun i p hq => by simp at hq) h t
  | o :: os, p :: ps, i0, m, sel, env, hp, h => by
    intro t
    simp only [envOf, nth_put]
    split
    · rename_i hd
      cases hs : sel i0 with
      | false => exact SVle.any _
      | true => exact hp 0 p rfl (by simpa using hs) o t rfl hd
    · exact envOf_dums os ps (i0 + 1) m sel env (fun i q hq hsel o' d ho' hd' => hp (i + 1) q (by simpa using hq) (by rw [show i0 + (i + 1) = i0 + 1 + i from by omega]; exact hsel) o' d (by simpa using ho') hd') h t

theorem ownOf_none {sel : Nat → Bool} : ∀ (ps : List PE) (i0 : Nat) (own : List (Nat × SO)), (∀ i p, ps[i]? = some p → sel (i0 + i) = true → p.new = [] ∧ p.eats = none) → ownOf sel i0 ps own = own
  | [], _, _, _ => rfl
  | p :: ps, i0, own, h => by
    simp only [ownOf]
    have h1 := h 0 p rfl
    have ih := fun own => ownOf_none (sel := sel) ps (i0 + 1) own (fun i q hq hs => h (i + 1) q (by simpa using hq) (by rw [show i0 + (i + 1) = i0 + 1 + i from by omega]; exact hs))
    cases hs : sel i0 with
    | false => simp [ih]
    | true =>
      obtain ⟨h2, h3⟩ := h1 (by simpa using hs)
      rw [h2, h3]
      cases tilOk sel p.til <;> simp [eatO, ih]

theorem dums_get (env0 : List (Nat × SV)) : ∀ (l : List Oper) (i : Nat) (o : Oper), l[i]? = some o → (dums env0 l)[i]? = some ⟨match o.dst with | some d => nth env0 d | none => .any, [], none, none, false⟩
  | [], _, _, h => by simp at h
  | x :: xs, 0, o, h => by
    simp only [List.getElem?_cons_zero, Option.some.injEq] at h
    subst h
    rfl
  | x :: xs, i + 1, o, h => by
    simp only [dums, List.getElem?_cons_succ]
    exact dums_get env0 xs i o (by simpa using h)

theorem at_stageG {E : Stc} {ops : Array Oper} {s : List Fr} {env : List (Nat × SV)} {own : List (Nat × SO)} {all pre0 pre1 suf : List Oper} {ps : List PE} {env' : List (Nat × SV)} {own' : List (Nat × SO)} {ob : List Prop} {m0 m1 : Nat}
    (st : List Nat) (hall : ops.toList = all) (hsplit : all = (pre0 ++ pre1) ++ suf) (h0 : pre0.length = m0) (h01 : (pre0 ++ pre1).length = m1) (ans : List (Nat × Ans)) (nx0 : List Nat) (h : planS E.P E.T E.cx.m0 E.n all m0 pre0 pre1 (pre0 ++ pre1) ans env own nx0 st = .ok ps env' own' ob) (ho : All ob)
    (hS : SatA E ops m1 s env' own') : SatA E ops m0 s env own := by
  subst hall
  generalize hpre : pre0 ++ pre1 = pre at h hsplit h01
  unfold planS at h
  cases h1 : dstsOk pre with
  | false => simp [h1] at h
  | true =>
    cases h2 : barOk pre.length ops.toList with
    | false => simp [h1, h2] at h
    | true =>
      cases h3 : aheadOk 0 ops.toList with
      | false => simp [h1, h2, h3] at h
      | true =>
        simp only [h1, h2, h3, cond_true, envOfK_eq, ownOfK_eq 0, rmOK_eq, dumsK_eq] at h
        have key := planK_sound E ops.toList pre ans env (rmO st own) own _ ps env' own' ob ((newOk own ps && (disO (rmO st own) ps && (eatOk own ps && eatU ps))) = true ∧ freshP E.cx.m0 pre ps env own 0 ps = true ∧ tilsB pre ps 0 ps = true ∧ env' = envOf (fun _ => true) 0 pre ps env ∧ own' = ownOf (fun _ => true) 0 ps own) (fun qs ob1 hq ha => by
          cases h4 : (newOk own qs && (disO (rmO st own) qs && (eatOk own qs && eatU qs))) with
          | false => simp [h4] at hq
          | true =>
            cases h5 : freshP E.cx.m0 pre qs env own 0 qs with
            | false => simp [h4, h5] at hq
            | true =>
              cases h6 : tilsB pre qs 0 qs with
              | false => simp [h4, h5, h6] at hq
              | true =>
                simp only [h4, h5, h6, cond_true, PlanR.ok.injEq] at hq
                obtain ⟨e1, e2, e3, e4⟩ := hq
                subst e1; subst e4
                exact ⟨rfl, ha, h4, h5, h6, e2.symm, e3.symm⟩) pre1 m0 (dums env pre0) nx0 [] (by rw [dums_len, h0]) h ho
        obtain ⟨_, ⟨q, hq⟩, hlen0, hlocs, hn, hf, htl, e1, e2⟩ := key
        have hlp : pre.length = m0 + pre1.length := by rw [← hpre, List.length_append, h0]
        have hlen : ps.length = pre.length := by rw [hlen0, hlp]
        rw [Bool.and_eq_true, Bool.and_eq_true, Bool.and_eq_true] at hn
        obtain ⟨hn, hdis, heat, hu⟩ := hn
        subst e1; subst e2
        have hget : ∀ i, m0 ≤ i → pre[i]? = pre1[i - m0]? := fun i hi => by rw [← hpre, List.getElem?_append_right (by omega), h0]
        have cert : ∀ i o p, m0 ≤ i → pre[i]? = some o → ps[i]? = some p → Cert E ops pre ps env own s i o p := by
          intro i o p hi hio hip
          obtain ⟨hd, p', hp', hl⟩ := locs_get pre1 m0 (i - m0) o hlocs (by rw [← hget i hi]; exact hio)
          rw [show m0 + (i - m0) = i from by omega] at hp' hl
          rw [hip] at hp'
          cases hp'
          exact cert_of_loc hsplit hlen (fun k o h => rmO_own h) hdis hn heat hu (by rw [← hsplit]; exact h3) hf hio hip hd hl
        have htl' : tilsLt pre.length ps := fun p hp j hj => by
          obtain ⟨i, hi⟩ := List.getElem?_of_mem hp
          exact (tilsB_spec ps 0 i p j htl hi hj).1
        have hsz : ops.size = pre.length + suf.length := by rw [← Array.length_toList, hsplit, List.length_append]
        intro fuel listed a w hls hl1 hl2 hfu hat
        have hat' : At E (envOf (fun i => listed.getD i false) 0 pre ps env) (ownOf (fun i => listed.getD i false) 0 ps own) a w := by
          have hdum : ∀ i p, ps[i]? = some p → listed.getD i false = true → i < m0 ∧ ∃ o, pre0[i]? = some o ∧ p = ⟨match o.dst with | some d => nth env d | none => .any, [], none, none, false⟩ := by
            intro i p hp hs
            have hi : i < m0 := by
              rcases Nat.lt_or_ge i m0 with h | h
              · exact h
              · rw [hl2 i h] at hs; cases hs
            refine ⟨hi, pre0[i]'(by omega), List.getElem?_eq_getElem _, ?_⟩
            rw [hq, List.getElem?_append_left (by rw [dums_len]; omega), dums_get env pre0 i _ (List.getElem?_eq_getElem (by omega))] at hp
            exact (Option.some.inj hp).symm
          refine at_le hat ?_ ?_
          · refine envOf_dums pre ps 0 m0 _ env (fun i p hp hs o d hio hd => ?_) (fun _ => SVle.refl _)
            rw [Nat.zero_add] at hs
            obtain ⟨hi, o', ho', rfl⟩ := hdum i p hp hs
            have : pre[i]? = some o' := by rw [← hpre, List.getElem?_append_left (by omega)]; exact ho'
            rw [this] at hio
            cases hio
            rw [hd]
            exact SVle.refl _
          · rw [ownOf_none ps 0 own (fun i p hp hs => by
              rw [Nat.zero_add] at hs
              obtain ⟨_, o', _, rfl⟩ := hdum i p hp hs
              exact ⟨rfl, rfl⟩)]
            exact fun _ _ h => h
        have hS' : SatA E ops pre.length s (envOf (fun _ => true) 0 pre ps env) (ownOf (fun _ => true) 0 ps own) := by rw [h01]; exact hS
        by_cases hp1 : pre1.length = 0
        · -- nothing is to be done
          have e : pre.length = m0 := by omega
          refine hS' fuel listed a w hls (fun i hi => hl1 i (by omega)) (fun i hi => hl2 i (by omega)) (by omega) ?_
          rw [envOf_congr (sel' := fun i => listed.getD i false) pre ps 0 env (fun i _ hi => (hl1 i (by omega)).symm), ownOf_congr (sel' := fun i => listed.getD i false) (N := pre.length) (fun i hi => (hl1 i (by omega)).symm) ps 0 own htl' (by omega)]
          exact hat'
        · refine wpAny_stage E ops pre suf ps env own s m0 hsplit hlen h1 htl' (by rw [← hsplit]; exact h2) (by rw [← hsplit]; exact h3) cert hS' fuel listed a w hls ⟨m0, by omega, hl2 m0 (Nat.le_refl _)⟩ hl1 (fun i hi => hl2 i (by omega)) (fun j oj k hoj hj hb => ?_) ?_ hat'
          · have hjm : j < m0 := by
              rcases Nat.lt_or_ge j m0 with h | h
              · exact h
              · rw [hl2 j h] at hj; cases hj
            have hjl : j < pre.length := by omega
            have := aheadOk_spec ops.toList 0 j oj h3 (by rw [hsplit, List.getElem?_append_left hjl]; exact hoj) k hb
            exact hl1 k (by omega)
          · have e5 : listed.toList = List.replicate m0 true ++ List.replicate (ops.size - m0) false := by
              apply List.ext_getElem?
              intro i
              rw [Array.getElem?_toList, List.getElem?_append, List.length_replicate, List.getElem?_replicate, List.getElem?_replicate]
              by_cases hi : i < ops.size
              · have e6 : listed.getD i false = listed[i]'(by omega) := by rw [Array.getD_eq_getD_getElem?, Array.getElem?_eq_getElem (by omega)]; rfl
                rw [Array.getElem?_eq_getElem (by omega), ← e6]
                by_cases hm : i < m0
                · rw [if_pos hm, if_pos hm, hl1 i hm]
                · rw [if_neg hm, if_pos (by omega), hl2 i (by omega)]
              · rw [Array.getElem?_eq_none (by omega)]
                by_cases hm : i < m0
                · omega
                · rw [if_neg hm, if_neg (by omega)]
            rw [e5]
            simpa using hfu

/-- A stage whose operations come in whatever order: from m0 on up to m1; st: which own blocks are written. -/
theorem at_stage {E : Stc} {ops : Array Oper} {s : List Fr} {env : List (Nat × SV)} {own : List (Nat × SO)} {all pre0 pre1 rest suf : List Oper} {ps : List PE} {env' : List (Nat × SV)} {own' : List (Nat × SO)} {ob : List Prop} {m0 m1 : Nat}
    (d : Nat) (st : List Nat) (hall : ops.toList = all) (hs0 : splitK m0 all Prod.mk = (pre0, rest)) (hs1 : splitK d rest Prod.mk = (pre1, suf)) (h0 : pre0.length = m0) (h01 : (pre0 ++ pre1).length = m1) (ans : List (Nat × Ans)) (nx0 : List Nat)
    (h : planS E.P E.T E.cx.m0 E.n all m0 pre0 pre1 (pre0 ++ pre1) ans env own nx0 st = .ok ps env' own' ob) (ho : All ob) (hS : SatA E ops m1 s env' own') : SatA E ops m0 s env own :=
  at_stageG st hall (by rw [splitK_pair hs0, splitK_pair hs1, List.append_assoc]) h0 h01 ans nx0 h ho hS

theorem letsOut_then {Q : Exit → Act → World → Prop} {A : Act → World → Prop} (h : LetsOut (Exit.then A Q)) : LetsOut Q := h

theorem wp_then {P : Program} {o : Oper} {a : Act} {w : World} {A : Act → World → Prop} {K K' : Act → World → Prop} {Q : Exit → Act → World → Prop} (h : ∀ a w, K a w → K' a w) (hh : o.wp P a w K (Exit.then A Q)) : o.wp P a w K' Q := by
  have h2 := Oper.wp_mono h hh
  unfold Oper.wp at *
  generalize (execOp a.eval o).run P w = r at *
  cases r with
  | ok n w' =>
    cases n <;> simp only [Oper.upon] at h2 ⊢ <;>
      first
        | exact h2
        | exact Calls.mono h2 (fun e w'' he => by cases e <;> exact he)
  | halt x w' => cases x <;> simp only [Oper.upon] at h2 ⊢ <;> exact h2

/-- One operation that all others wait for. -/
theorem at_forced {E : Stc} {ops : Array Oper} {s : List Fr} {env : List (Nat × SV)} {own : List (Nat × SO)} (nx : List Nat) {all pre0 suf : List Oper} {o : Oper} {m0 : Nat} {α : Type} (φ : α → Prop) (σ : α → List (Nat × SV)) (τ : α → List (Nat × SO))
    (hall : ops.toList = all) (hs0 : splitK m0 all Prod.mk = (pre0, o :: suf)) (h0 : pre0.length = m0) (hbar : barOk (m0 + 1) all = true) (hah : aheadOk 0 all = true)
    (h : Sat E (.ops all [o]) (.lp (Joined φ σ τ) :: s) env own nx) (k : ∀ y, φ y → SatA E ops (m0 + 1) s (σ y) (τ y)) : SatA E ops m0 s env own := by
  subst hall
  have hsp := splitK_pair hs0
  have hget : ∀ i : Nat, ops[i]? = ops.toList[i]? := fun i => by simp
  have hop : ops[m0]? = some o := by
    rw [hget, hsp, List.getElem?_append_right (by omega), h0, Nat.sub_self]
    rfl
  have hm : m0 < ops.size := (Array.getElem?_eq_some_iff.1 hop).1
  intro fuel listed a w hls hl1 hl2 hfu hat
  have hd : ∀ i, i < ops.size → listed.getD i true = listed.getD i false := fun i hi => by simp [hls, hi]
  have hready : ∀ j, j ∈ Region.ready .any ops listed ↔ j = m0 := by
    intro j
    rw [ready_iff]
    constructor
    · rintro ⟨hj1, o', ho, hb⟩
      have hjl : j < ops.size := (Array.getElem?_eq_some_iff.1 ho).1
      rw [hd j hjl] at hj1
      have hge : m0 ≤ j := by
        rcases Nat.lt_or_ge j m0 with h | h
        · rw [hl1 j h] at hj1; cases hj1
        · exact h
      rcases Nat.lt_or_ge m0 j with h | h
      · exfalso
        have hoj0 : ops.toList[j]? = some o' := by rw [← hget]; exact ho
        have := reach_listed (get := fun i => ops.toList[i]?) (L := fun i => listed.getD i false) (fun i oi k' hi hL hb' => hl1 k' (by
          have hlt' := aheadOk_spec ops.toList 0 i oi hah hi k' hb'
          rcases Nat.lt_or_ge i m0 with h' | h'
          · omega
          · simp only [hl2 i h'] at hL
            cases hL)) (barOk_spec hbar hoj0 (by omega) (Nat.lt_succ_self m0)) (fun o'' ho' k' hk' => by
          rw [hoj0] at ho'
          cases ho'
          exact hb k' hk')
        simp only [hl2 _ (Nat.le_refl _)] at this
        cases this
      · omega
    · rintro rfl
      refine ⟨by rw [hd _ hm]; exact hl2 _ (Nat.le_refl _), o, hop, fun j hj => hl1 j ?_⟩
      have := aheadOk_spec ops.toList 0 j.succ.pred
      have := aheadOk_spec ops.toList 0 _ o hah (by rw [← hget]; exact hop) j hj
      omega
  cases fuel with
  | zero => omega
  | succ fuel =>
    refine ⟨fun e => ?_, fun j hj => ?_⟩
    · have := (hready m0).2 rfl
      rw [e] at this
      cases this
    · obtain rfl := (hready j).1 hj
      have hw := h a w hat
      have key : ∀ a w, KK E (.lp (Joined φ σ τ) :: s) .normal a w → wpAny E.P .any ops (KK E s) fuel (listed.setIfInBounds j true) a w := by
        rintro a w ⟨env1, own1, ⟨y, hy, he, ho⟩, hat1⟩
        refine k y hy fuel _ a w (by simpa using hls) (fun i hi => ?_) (fun i hi => ?_) (by omega) (at_sub hat1 he ho)
        · by_cases e : i = j
          · subst e
            have : i < listed.size := by omega
            simp [this]
          · rw [getD_set_ne false (Ne.symm e)]; exact hl1 i (by omega)
        · rw [getD_set_ne false (by omega)]; exact hl2 i (by omega)
      unfold wpOp
      rw [hop]
      simp only
      unfold wpList at hw
      rw [Array.toArray_toList] at hw
      split
      · rename_i hwant
        rw [if_pos hwant] at hw
        exact hw.imp (wp_then key) (fun h => ⟨h.1, letsOut_then h.2⟩)
      · rename_i hwant
        rw [if_neg hwant] at hw
        exact key _ _ hw

/-- Between stages the state may be looked at in other words. -/
theorem at_between {E : Stc} {ops : Array Oper} {m : Nat} {s : List Fr} {env : List (Nat × SV)} {own : List (Nat × SO)} (nx : List Nat) {α : Type} (φ : α → Prop) (σ : α → List (Nat × SV)) (τ : α → List (Nat × SO))
    (h : Sat E .norm (.lp (Joined φ σ τ) :: s) env own nx) (k : ∀ y, φ y → SatA E ops m s (σ y) (τ y)) : SatA E ops m s env own := by
  intro fuel listed a w h1 h2 h3 h4 hat
  obtain ⟨env1, own1, ⟨y, hy, he, ho⟩, hat1⟩ := h a w hat
  exact k y hy fuel listed a w h1 h2 h3 h4 (at_sub hat1 he ho)

end Go.Eng
