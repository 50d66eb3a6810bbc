import Derived.Test.YtmnmhehddbemkaaSee
import Derived.Test.YtmnmhehddbemkaaIfc
import Derived.Test.YtmnmhehddbemkaaT2
namespace Go.Proofs.Ytmnmhehddbemkaa
open Go Go.Eng

abbrev I (n : Int) : SV := .int .i64 n

/-- A term. -/
inductive Tm where
  | mk (k n : Int) (s : ByteArray) (kids : List Tm)
abbrev Tm.k : Tm → Int | .mk k _ _ _ => k
abbrev Tm.n : Tm → Int | .mk _ n _ _ => n
abbrev Tm.s : Tm → ByteArray | .mk _ _ s _ => s
abbrev Tm.kids : Tm → List Tm | .mk _ _ _ l => l
mutual
def Tm.row : Tm → List DV
  | .mk k n s l => [.int .i64 k, .int .i64 n, .str s, .lst 4 (rowsT l)]
def rowsT : List Tm → List (List DV)
  | [] => []
  | t :: l => t.row :: rowsT l
end
abbrev Tm.sv (t : Tm) : SV := .agg [I t.k, I t.n, .str t.s, .lst 4 (rowsT t.kids)]
theorem rowsT_map : ∀ l : List Tm, rowsT l = l.map Tm.row
  | [] => by rw [rowsT]; rfl
  | t :: l => by rw [rowsT, rowsT_map l]; rfl
theorem rowsT_len (l : List Tm) : (rowsT l).length = l.length := by rw [rowsT_map, List.length_map]
theorem row_eq (t : Tm) : t.row = [.int .i64 t.k, .int .i64 t.n, .str t.s, .lst 4 (rowsT t.kids)] := by
  cases t
  rw [Tm.row]
theorem row_len (t : Tm) : t.row.length = 4 := by rw [row_eq]; rfl
def Tm.zero : Tm := .mk 0 0 .empty []
theorem rowsT_get {l : List Tm} {n : Nat} (h : n < l.length) : (rowsT l)[n]? = some [.int .i64 (l.getD n .zero).k, .int .i64 (l.getD n .zero).n, .str (l.getD n .zero).s, .lst 4 (rowsT (l.getD n .zero).kids)] := by
  rw [rowsT_map, List.getElem?_map, List.getElem?_eq_getElem h, List.getD_eq_getElem?_getD, List.getElem?_eq_getElem h]
  simp only [Option.map_some, Option.getD_some, row_eq]

def kidsF (k : Int) : Int := if k = 1 then 0 else if k = 2 then 0 else if k = 3 then 1 else if k = 4 then 1 else if k = 5 then 2 else if k = 6 then 2 else if k = 7 then 2 else -1

theorem kids93_fn (k : Int) : Gives Try.prog 93 [I k] (I (kidsF k)) := by
  refine contract_of ty_ok [0, 1, 2, 3, 4, 5, 6, 7] Try.func93 rfl (by decide) Try.ntmps93 rfl fun z => ?_
  refine run 400 rfl ?_
  refine at_split 4 rfl (fun h1 => ?_) (fun h1 => ?_)
  · refine run 400 rfl ?_
    simp at h1
    exact at_ret rfl rfl [] ⟨by rw [kidsF, if_pos h1], rfl, rfl⟩ trivial
  refine run 400 rfl ?_
  refine at_split 4 rfl (fun h2 => ?_) (fun h2 => ?_)
  · refine run 400 rfl ?_
    simp at h1 h2
    exact at_ret rfl rfl [] ⟨by rw [kidsF, if_neg h1, if_pos h2], rfl, rfl⟩ trivial
  refine run 400 rfl ?_
  refine at_split 7 rfl (fun h3 => ?_) (fun h3 => ?_)
  · refine run 400 rfl ?_
    simp at h1 h2 h3
    exact at_ret rfl rfl [] ⟨by rw [kidsF, if_neg h1, if_neg h2, if_pos h3], rfl, rfl⟩ trivial
  refine run 400 rfl ?_
  refine at_split 7 rfl (fun h4 => ?_) (fun h4 => ?_)
  · refine run 400 rfl ?_
    simp at h1 h2 h3 h4
    exact at_ret rfl rfl [] ⟨by rw [kidsF, if_neg h1, if_neg h2, if_neg h3, if_pos h4], rfl, rfl⟩ trivial
  refine run 400 rfl ?_
  refine at_split 10 rfl (fun h5 => ?_) (fun h5 => ?_)
  · refine run 400 rfl ?_
    simp at h1 h2 h3 h4 h5
    exact at_ret rfl rfl [] ⟨by rw [kidsF, if_neg h1, if_neg h2, if_neg h3, if_neg h4, if_pos h5], rfl, rfl⟩ trivial
  refine run 400 rfl ?_
  refine at_split 10 rfl (fun h6 => ?_) (fun h6 => ?_)
  · refine run 400 rfl ?_
    simp at h1 h2 h3 h4 h5 h6
    exact at_ret rfl rfl [] ⟨by rw [kidsF, if_neg h1, if_neg h2, if_neg h3, if_neg h4, if_neg h5, if_pos h6], rfl, rfl⟩ trivial
  refine run 400 rfl ?_
  refine at_split 10 rfl (fun h7 => ?_) (fun h7 => ?_)
  · refine run 400 rfl ?_
    simp at h1 h2 h3 h4 h5 h6 h7
    exact at_ret rfl rfl [] ⟨by rw [kidsF, if_neg h1, if_neg h2, if_neg h3, if_neg h4, if_neg h5, if_neg h6, if_pos h7], rfl, rfl⟩ trivial
  refine run 400 rfl ?_
  simp at h1 h2 h3 h4 h5 h6 h7
  exact at_ret rfl rfl [] ⟨by rw [kidsF, if_neg h1, if_neg h2, if_neg h3, if_neg h4, if_neg h5, if_neg h6, if_neg h7], rfl, rfl⟩ trivial

theorem kids94_fn (k : Int) : Gives Try.prog 94 [I k] (I (kidsF k)) := by
  refine contract_of ty_ok [0, 1, 2, 3, 4, 5, 6, 7] Try.func94 rfl (by decide) Try.ntmps94 rfl fun z => ?_
  refine run 400 rfl ?_
  refine at_split 4 rfl (fun h1 => ?_) (fun h1 => ?_)
  · refine run 400 rfl ?_
    simp at h1
    exact at_ret rfl rfl [] ⟨by rw [kidsF, if_pos h1], rfl, rfl⟩ trivial
  refine run 400 rfl ?_
  refine at_split 4 rfl (fun h2 => ?_) (fun h2 => ?_)
  · refine run 400 rfl ?_
    simp at h1 h2
    exact at_ret rfl rfl [] ⟨by rw [kidsF, if_neg h1, if_pos h2], rfl, rfl⟩ trivial
  refine run 400 rfl ?_
  refine at_split 7 rfl (fun h3 => ?_) (fun h3 => ?_)
  · refine run 400 rfl ?_
    simp at h1 h2 h3
    exact at_ret rfl rfl [] ⟨by rw [kidsF, if_neg h1, if_neg h2, if_pos h3], rfl, rfl⟩ trivial
  refine run 400 rfl ?_
  refine at_split 7 rfl (fun h4 => ?_) (fun h4 => ?_)
  · refine run 400 rfl ?_
    simp at h1 h2 h3 h4
    exact at_ret rfl rfl [] ⟨by rw [kidsF, if_neg h1, if_neg h2, if_neg h3, if_pos h4], rfl, rfl⟩ trivial
  refine run 400 rfl ?_
  refine at_split 10 rfl (fun h5 => ?_) (fun h5 => ?_)
  · refine run 400 rfl ?_
    simp at h1 h2 h3 h4 h5
    exact at_ret rfl rfl [] ⟨by rw [kidsF, if_neg h1, if_neg h2, if_neg h3, if_neg h4, if_pos h5], rfl, rfl⟩ trivial
  refine run 400 rfl ?_
  refine at_split 10 rfl (fun h6 => ?_) (fun h6 => ?_)
  · refine run 400 rfl ?_
    simp at h1 h2 h3 h4 h5 h6
    exact at_ret rfl rfl [] ⟨by rw [kidsF, if_neg h1, if_neg h2, if_neg h3, if_neg h4, if_neg h5, if_pos h6], rfl, rfl⟩ trivial
  refine run 400 rfl ?_
  refine at_split 10 rfl (fun h7 => ?_) (fun h7 => ?_)
  · refine run 400 rfl ?_
    simp at h1 h2 h3 h4 h5 h6 h7
    exact at_ret rfl rfl [] ⟨by rw [kidsF, if_neg h1, if_neg h2, if_neg h3, if_neg h4, if_neg h5, if_neg h6, if_pos h7], rfl, rfl⟩ trivial
  refine run 400 rfl ?_
  simp at h1 h2 h3 h4 h5 h6 h7
  exact at_ret rfl rfl [] ⟨by rw [kidsF, if_neg h1, if_neg h2, if_neg h3, if_neg h4, if_neg h5, if_neg h6, if_neg h7], rfl, rfl⟩ trivial

end Go.Proofs.Ytmnmhehddbemkaa
