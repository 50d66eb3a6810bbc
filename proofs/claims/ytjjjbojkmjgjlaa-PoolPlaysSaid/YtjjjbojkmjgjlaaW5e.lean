import Derived.Test.YtjjjbojkmjgjlaaW5c
namespace Go.Proofs.Ytjjjbojkmjgjlaa
open Go Go.Eng

abbrev ints (l : List Int) : List (List DV) := l.map fun n => [.int .i64 n]
theorem ints_get {l : List Int} {n : Int} (h0 : 0 ≤ n) (h1 : n < l.length) : (ints l)[n.toNat]? = some [.int .i64 (l.getD n.toNat 0)] := by
  have : n.toNat < l.length := by omega
  simp [List.getElem?_map, List.getElem?_eq_getElem this, List.getD_eq_getElem?_getD]

structure DS where
  i : Int
  n : Int
  c : Int
  t : Int
  last : Int
  conn : Int
def DS.ok (l : List Int) (x : DS) : Prop := 0 ≤ x.i ∧ x.i ≤ l.length ∧ 1 ≤ x.n ∧ x.n ≤ 1 + x.i ∧ 1 ≤ x.c ∧ x.c ≤ 1 + x.i ∧ 0 ≤ x.t ∧ x.t ≤ 1099511627776 ∧ x.last < x.n ∧ x.conn < x.c

set_option maxRecDepth 100000 in
theorem drawOnce_fn (l : List Int) (hl : l.length ≤ 9223372036854775807) : Gives Try.prog 4 [.lst 1 (ints l)] .tt := by
  refine contract_of ty_ok [0, 1, 2, 3, 4, 5, 6, 7] Try.func4 rfl (by decide) Try.ntmps4 rfl fun z => ?_
  refine run 400 rfl ?_
  refine at_fn known_fn rfl ?_
  refine run 400 rfl ?_
  refine at_ifd rfl (fun h1 => ?_) (fun h1 => ?_)
  · refine run 400 rfl ?_
    exact at_ret rfl rfl [] ⟨rfl, rfl, rfl⟩ trivial
  have hlen : (ints l).length = l.length := by simp
  rw [hlen] at h1
  refine run 400 rfl ?_
  refine at_fn new_fn rfl ?_
  refine run 400 rfl ?_
  refine at_loop (fun x : DS => x.ok l) (fun x => [(0, .lst 1 (ints l)), (3, .ptr 0 0), (4, I x.last), (5, I x.conn), (6, I x.i)]) (fun x => [(0, .cells 25 [I x.n, I x.c, I x.t])]) (fun x => (l.length - x.i).toNat) [1, 2, 3, 4, 5, 6]
    ⟨0, 1, 1, 0, 0, 0⟩ (by simp [DS.ok]) ⟨SVle.refl _, SVle.refl _, SVle.refl _, SVle.refl _, SVle.refl _, trivial⟩ ⟨rfl, trivial⟩ ?_
  rintro ⟨i, n, c, t, last, conn⟩ ⟨a1, a2, a3, a4, a5, a6, a7, a8, a9, a10⟩
  dsimp only at a1 a2 a3 a4 a5 a6 a7 a8 a9 a10
  refine run 400 rfl ?_
  refine at_ifd rfl (fun h2 => ?_) (fun h2 => ?_)
  rotate_left
  · refine run 400 rfl ?_
    refine run 400 rfl ?_
    exact at_ret rfl rfl [] ⟨rfl, rfl, rfl⟩ trivial
  rw [hlen] at h2
  dsimp only at h2
  have hget := ints_get a1 h2
  generalize l.getD i.toNat 0 = d at hget
  refine run 400 rfl ?_
  refine at_val (.rp [.int .i64 d] 0) (does_index ty_ok _ rfl rfl rfl a1 hget rfl) ?_
  refine run 400 rfl ?_
  refine at_fn (within9 d 3 (by omega)) rfl ?_
  refine run 400 rfl ?_
  refine at_join (fun y : DS => y.ok l ∧ y.i = i + 1 ∧ t ≤ y.t) (fun x => [(0, .lst 1 (ints l)), (3, .ptr 0 0), (7, .ptr 1 0), (4, I x.last), (5, I x.conn), (6, I i)])
    (fun x => [(0, .cells 25 [I x.n, I x.c, I x.t]), (1, .cells 25 [I n, I c, I t])]) [2, 3, 4, 5, 6] ?_ ?_
  · refine at_if rfl (fun h3 => ?_) (fun h3 => ?_)
    · refine run 400 rfl ?_
      refine at_fn (nonce_yes n c t (by omega)) rfl ?_
      refine run 400 rfl ?_
      refine at_false 66 rfl (decide_eq_false (by first | omega | (dsimp only; omega))) ?_
      refine run 400 rfl ?_
      refine at_false 73 rfl (by simp) ?_
      refine run 400 rfl ?_
      refine at_if rfl (fun h4 => by simp at h4) (fun h4 => ?_)
      refine run 400 rfl ?_
      refine at_drawn 3 rfl rfl [] [20, 21, 22] rfl trivial ?_
      refine run 400 rfl ?_
      exact at_joined ⟨i + 1, n + 1, c, t, n, conn⟩ ⟨by unfold DS.ok; dsimp only; omega, rfl, by dsimp only; omega⟩ ⟨SVle.refl _, SVle.refl _, SVle.refl _, SVle.refl _, SVle.refl _, SVle.refl _, trivial⟩ ⟨rfl, rfl, trivial⟩
    refine run 400 rfl ?_
    refine at_if rfl (fun h4 => ?_) (fun h4 => ?_)
    · refine run 400 rfl ?_
      refine at_fn (conn_yes n c t (by omega)) rfl ?_
      refine run 400 rfl ?_
      refine at_false 97 rfl (decide_eq_false (by first | omega | (dsimp only; omega))) ?_
      refine run 400 rfl ?_
      refine at_false 104 rfl (by simp) ?_
      refine run 400 rfl ?_
      refine at_if rfl (fun h4 => by simp at h4) (fun h4 => ?_)
      refine run 400 rfl ?_
      refine at_drawn 3 rfl rfl [] [20, 21, 22] rfl trivial ?_
      refine run 400 rfl ?_
      exact at_joined ⟨i + 1, n, c + 1, t, last, c⟩ ⟨by unfold DS.ok; dsimp only; omega, rfl, by dsimp only; omega⟩ ⟨SVle.refl _, SVle.refl _, SVle.refl _, SVle.refl _, SVle.refl _, SVle.refl _, trivial⟩ ⟨rfl, rfl, trivial⟩
    refine run 400 rfl ?_
    have hu : t ≤ unF t d ∧ unF t d ≤ 1099511627776 := by
      unfold unF
      split
      · omega
      · split <;> omega
    refine at_drawn 6 rfl rfl [(3, .val (.rp [.int .i64 d] 0)), (5, .sv (src n c (unF t d)))] [20, 21, 22] rfl ⟨tick_fn n c t d (by omega), does_index ty_ok _ rfl rfl rfl a1 hget rfl⟩ ?_
    refine run 400 rfl ?_
    refine at_false 44 rfl (by simp) ?_
    refine run 400 rfl ?_
    refine at_if rfl (fun h4 => by simp at h4) (fun h4 => ?_)
    refine run 400 rfl ?_
    exact at_joined ⟨i + 1, n, c, unF t d, last, conn⟩ ⟨by unfold DS.ok; dsimp only; omega, rfl, by dsimp only; omega⟩ ⟨SVle.refl _, SVle.refl _, SVle.refl _, SVle.refl _, SVle.refl _, SVle.refl _, trivial⟩ ⟨rfl, rfl, trivial⟩
  rintro ⟨i2, n2, c2, t2, last2, conn2⟩ ⟨⟨b1, b2, b3, b4, b5, b6, b7, b8, b9, b10⟩, b11, b12⟩
  dsimp only at b1 b2 b3 b4 b5 b6 b7 b8 b9 b10 b11 b12
  subst b11
  refine run 400 rfl ?_
  have hu : t2 ≤ unF t2 (d % 100) ∧ unF t2 (d % 100) ≤ 1099511627776 ∧ (t2 < unF t2 (d % 100) ∨ t2 = unF t2 (d % 100)) := by
    unfold unF
    split
    · omega
    · split <;> omega
  refine at_drawn 8 rfl rfl [(4, .val (.rp [.int .i64 d] 0)), (6, .sv (I (d % 100))), (7, .sv (I (unF t2 (d % 100))))] [20, 21, 22] rfl
    ⟨until_fn t2 (d % 100) (by omega), within9 d 100 (by omega), does_index ty_ok _ rfl rfl rfl a1 hget rfl⟩ ?_
  generalize unF t2 (d % 100) = u at hu
  refine run 400 rfl ?_
  refine at_false 126 rfl (decide_eq_false (by first | omega | (dsimp only; omega))) ?_
  refine run 400 rfl ?_
  refine at_false 131 rfl (decide_eq_false (by first | omega | (dsimp only; omega))) ?_
  refine run 400 rfl ?_
  refine at_false 137 rfl (decide_eq_false (by first | omega | (dsimp only; omega))) ?_
  refine run 400 rfl ?_
  refine at_false 141 rfl (decide_eq_false (by first | omega | (dsimp only; omega))) ?_
  refine run 400 rfl ?_
  refine at_fn (live_fn u u) rfl ?_
  refine run 400 rfl ?_
  refine at_false 146 rfl (decide_eq_false (by first | omega | (dsimp only; omega))) ?_
  refine run 400 rfl ?_
  refine at_split 151 rfl (fun h5 => ?_) (fun h5 => ?_)
  · refine run 400 rfl ?_
    refine at_fn (live_fn t2 u) rfl ?_
    refine run 400 rfl ?_
    refine at_if rfl (fun h6 => by simp at h5 h6; omega) (fun h6 => ?_)
    refine run 400 rfl ?_
    exact at_again ⟨i + 1, n2, c2, t2, last2, conn2⟩ ⟨b1, b2, b3, b4, b5, b6, b7, b8, b9, b10⟩ (by dsimp only; omega) ⟨SVle.refl _, SVle.refl _, SVle.refl _, SVle.refl _, SVle.refl _, trivial⟩ ⟨rfl, trivial⟩
  · refine run 400 rfl ?_
    exact at_again ⟨i + 1, n2, c2, t2, last2, conn2⟩ ⟨b1, b2, b3, b4, b5, b6, b7, b8, b9, b10⟩ (by dsimp only; omega) ⟨SVle.refl _, SVle.refl _, SVle.refl _, SVle.refl _, SVle.refl _, trivial⟩ ⟨rfl, trivial⟩
end Go.Proofs.Ytjjjbojkmjgjlaa
