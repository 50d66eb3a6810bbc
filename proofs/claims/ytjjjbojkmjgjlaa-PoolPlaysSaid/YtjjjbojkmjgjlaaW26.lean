import Derived.Test.YtjjjbojkmjgjlaaW5c
import Derived.Test.YtjjjbojkmjgjlaaMk
namespace Go.Proofs.Ytjjjbojkmjgjlaa
open Go Go.Eng

/-- A message. -/
structure Mg where
  c : Int
  f : Int
  h : ByteArray
  b : Bool
  d : ByteArray
abbrev Mg.row (m : Mg) : List DV := [.int .i64 m.c, .int .i64 m.f, .str m.h, .bl m.b, .str m.d]
abbrev Mg.sv (m : Mg) : SV := .agg [.int .i64 m.c, .int .i64 m.f, .str m.h, .bl m.b, .str m.d]
abbrev msgs (l : List Mg) : List (List DV) := l.map Mg.row
abbrev Mg.zero : Mg := ⟨0, 0, .empty, false, .empty⟩

theorem msgs_row {l : List Mg} : ∀ r ∈ msgs l, r.length = 5 := by
  intro r hr
  obtain ⟨m, _, rfl⟩ := List.mem_map.1 hr
  rfl

theorem twin_fn (l : List Mg) (hl : l.length ≤ 1000000) : Gives Try.prog 39 [.lst 5 (msgs l)] (.tl 5 (msgs l)) := by
  have hlen : (msgs l).length = l.length := by simp
  refine contract_of ty_ok [0, 1, 2, 3, 4, 5, 6, 7] Try.func39 rfl (by decide) Try.ntmps39 rfl fun z => ?_
  refine run 400 rfl ?_
  refine at_make 0 5 ty_ok rfl rfl rfl (by omega) (show ((56 : Nat) : Int) * ((msgs l).length : Int) ≤ 281474976710656 by omega) (by omega) ?_
  refine run 400 rfl ?_
  refine at_copy (k := 0) (n := (msgs l).length) (sz := 5) (rows := msgs l) ty_ok rfl rfl rfl rfl rfl rfl rfl rfl (by simp) ?_
  refine at_publish 0 5 (msgs l) rfl msgs_row (own2 := []) (fun j o h => by simp [ownq] at h) (by repeat' (first | exact trivial | refine ⟨rfl, ?_⟩)) ?_
  refine run 400 rfl ?_
  exact at_ret rfl rfl [] ⟨rfl, rfl, rfl⟩ trivial

def sendF (l : List Mg) (m : Mg) : List Mg := if 32 ≤ l.length then l else l ++ [m]

theorem send_full (l : List Mg) (m : Mg) (hl : l.length ≤ 100000) (h : 32 ≤ l.length) : Gives Try.prog 29 [.lst 5 (msgs l), m.sv] (.tl 5 (msgs l)) := by
  have hlen : (msgs l).length = l.length := by simp
  refine contract_of ty_ok [0, 1, 2, 3, 4, 5, 6, 7] Try.func29 rfl (by decide) Try.ntmps29 rfl fun z => ?_
  refine run 400 rfl ?_
  refine at_ifd rfl (fun h1 => ?_) (fun h1 => ?_) <;> rw [hlen] at h1
  · refine run 400 rfl ?_
    refine at_fn (twin_fn l (by omega)) rfl ?_
    refine run 400 rfl ?_
    exact at_ret rfl rfl [] ⟨rfl, rfl, rfl⟩ trivial
  · omega

set_option maxRecDepth 100000 in
theorem send_less (l : List Mg) (m : Mg) (h : l.length < 32) : Gives Try.prog 29 [.lst 5 (msgs l), m.sv] (.lst 5 (msgs (l ++ [m]))) := by
  have hlen : (msgs l).length = l.length := by simp
  refine contract_of ty_ok [0, 1, 2, 3, 4, 5, 6, 7] Try.func29 rfl (by decide) Try.ntmps29 rfl fun z => ?_
  refine run 400 rfl ?_
  refine at_ifd rfl (fun h1 => ?_) (fun h1 => ?_) <;> rw [hlen] at h1
  · omega
  · refine run 400 rfl ?_
    refine at_drawn 9 rfl rfl [(5, .val (.tl 5 ((msgs l).take (((msgs l).length : Nat) : Int).toNat))), (7, .gro (.tl 5 [m.row])), (8, .gro (.lst 5 ((msgs l).take (((msgs l).length : Nat) : Int).toNat ++ [m.row])))] [20, 21, 22] rfl
      ⟨doesG_append ty_ok rfl rfl rfl rfl rfl rfl rfl (by simp; omega) (by show _ * 56 ≤ _; simp; omega), doesG_build ty_ok _ rfl ⟨⟨rfl, rfl, _, rfl, SVles.refl _⟩, trivial⟩ rfl rfl (by decide), does_slice_hm ty_ok rfl rfl rfl rfl (by omega) rfl⟩ ?_
    refine run 400 rfl ?_
    exact at_ret rfl rfl [] ⟨by congr 1; rw [List.take_of_length_le (by simp)]; simp, rfl, rfl⟩ trivial

theorem send_fn (l : List Mg) (m : Mg) (hl : l.length ≤ 100000) : Gives Try.prog 29 [.lst 5 (msgs l), m.sv] (.lst 5 (msgs (sendF l m))) := by
  by_cases h : 32 ≤ l.length
  · rw [sendF, if_pos h]
    exact (send_full l m hl h).le (SVle.tl _ _)
  · rw [sendF, if_neg h]
    exact send_less l m (by omega)

theorem sendR_full (l : List Mg) (m : Mg) (h : 32 ≤ l.length) : Gives Try.prog 30 [.lst 5 (msgs l), m.sv] (.lst 5 (msgs l)) := by
  have hlen : (msgs l).length = l.length := by simp
  refine contract_of ty_ok [0, 1, 2, 3, 4, 5, 6, 7] Try.func30 rfl (by decide) Try.ntmps30 rfl fun z => ?_
  refine run 400 rfl ?_
  refine at_ifd rfl (fun h1 => ?_) (fun h1 => ?_) <;> rw [hlen] at h1
  · refine run 400 rfl ?_
    exact at_ret rfl rfl [] ⟨rfl, rfl, rfl⟩ trivial
  · omega

set_option maxRecDepth 100000 in
theorem sendR_less (l : List Mg) (m : Mg) (h : l.length < 32) : Gives Try.prog 30 [.lst 5 (msgs l), m.sv] (.lst 5 (msgs (l ++ [m]))) := by
  have hlen : (msgs l).length = l.length := by simp
  refine contract_of ty_ok [0, 1, 2, 3, 4, 5, 6, 7] Try.func30 rfl (by decide) Try.ntmps30 rfl fun z => ?_
  refine run 400 rfl ?_
  refine at_ifd rfl (fun h1 => ?_) (fun h1 => ?_) <;> rw [hlen] at h1
  · omega
  · refine run 400 rfl ?_
    refine at_drawn 6 rfl rfl [(0, .gro (.tl 5 [])), (2, .tok 5 ([] ++ msgs l) (some 5)), (4, .gro (.tl 5 [m.row])), (5, .use 20 5 ([] ++ msgs l ++ [m.row]))] [20, 21, 22] rfl
      ⟨doesU_append ty_ok rfl rfl rfl rfl rfl rfl rfl (by simp; omega) (by show _ * 56 ≤ _; simp; omega), doesG_build ty_ok _ rfl ⟨⟨rfl, rfl, _, rfl, SVles.refl _⟩, trivial⟩ rfl rfl (by decide),
        doesT_append ty_ok rfl rfl rfl rfl rfl rfl rfl (by simp; omega) (by show _ * 56 ≤ _; simp; omega), doesG_build ty_ok _ rfl trivial rfl rfl (by decide)⟩ ?_
    refine run 400 rfl ?_
    exact at_ret rfl rfl [] ⟨by simp, rfl, rfl⟩ trivial

theorem msgs_take (l : List Mg) (n : Nat) : (msgs l).take n = msgs (l.take n) := by simp [msgs, List.map_take]
theorem msgs_drop (l : List Mg) (n : Nat) : (msgs l).drop n = msgs (l.drop n) := by simp [msgs, List.map_drop]
theorem msgs_get {l : List Mg} {n : Nat} (h : n < l.length) : (msgs l)[n]? = some (l.getD n .zero).row := by
  simp [msgs, List.getElem?_map, List.getElem?_eq_getElem h, List.getD_eq_getElem?_getD]
abbrev zsv : SV := .agg [I 0, I 0, .str .empty, .ff, .str .empty]
def takeL (l : List Mg) (i : Nat) : List Mg := l.take i ++ l.drop (i + 1)

theorem take_no (l : List Mg) (i : Int) (hl : l.length ≤ 100000) (h : i < 0 ∨ l.length ≤ i) : Gives Try.prog 25 [.lst 5 (msgs l), I i] (.tup [.tl 5 (msgs l), zsv, .ff]) := by
  have hlen : (msgs l).length = l.length := by simp
  refine contract_of ty_ok [0, 1, 2, 3, 4, 5, 6, 7] Try.func25 rfl (by decide) Try.ntmps25 rfl fun z => ?_
  refine run 400 rfl ?_
  refine at_split 9 rfl (fun h1 => ?_) (fun h1 => ?_)
  · refine run 400 rfl ?_
    refine at_fn (twin_fn l (by omega)) rfl ?_
    refine run 400 rfl ?_
    exact at_ret rfl rfl [] ⟨rfl, rfl, rfl⟩ trivial
  · simp only [decide_eq_false_iff_not] at h1
    refine run 400 rfl ?_
    refine at_ifd rfl (fun h2 => ?_) (fun h2 => ?_) <;> rw [hlen] at h2
    · refine run 400 rfl ?_
      refine at_fn (twin_fn l (by omega)) rfl ?_
      refine run 400 rfl ?_
      exact at_ret rfl rfl [] ⟨rfl, rfl, rfl⟩ trivial
    · omega

set_option maxRecDepth 100000 in
theorem take_yes (l : List Mg) (i : Int) (hl : l.length ≤ 100000) (h : 0 ≤ i ∧ i < l.length) : Gives Try.prog 25 [.lst 5 (msgs l), I i] (.tup [.lst 5 (msgs (takeL l i.toNat)), (l.getD i.toNat .zero).sv, .tt]) := by
  have hlen : (msgs l).length = l.length := by simp
  have hget := msgs_get (l := l) (n := i.toNat) (by omega)
  have htw : Gives Try.prog 39 [.tl 5 ((msgs l).take i.toNat)] (.tl 5 ((msgs l).take i.toNat)) := by
    rw [msgs_take]
    exact (twin_fn (l.take i.toNat) (by simp; omega)).weak ⟨SVle.tl _ _, trivial⟩
  refine contract_of ty_ok [0, 1, 2, 3, 4, 5, 6, 7] Try.func25 rfl (by decide) Try.ntmps25 rfl fun z => ?_
  refine run 400 rfl ?_
  refine at_split 9 rfl (fun h1 => ?_) (fun h1 => ?_)
  · simp at h1; omega
  · refine run 400 rfl ?_
    refine at_ifd rfl (fun h2 => ?_) (fun h2 => ?_) <;> rw [hlen] at h2
    · omega
    · refine run 400 rfl ?_
      refine at_drawn 15 rfl rfl [(3, .val (.tl 5 ((msgs l).take i.toNat))), (4, .sv (.tl 5 ((msgs l).take i.toNat))), (8, .val (.lst 5 ((msgs l).drop (i + 1).toNat))), (9, .gro (.lst 5 ((msgs l).take i.toNat ++ (msgs l).drop (i + 1).toNat))), (12, .val (.rp (l.getD i.toNat .zero).row 0))] [20, 21, 22] rfl
        ⟨does_index ty_ok _ rfl rfl rfl h.1 hget rfl, doesG_append ty_ok rfl rfl rfl rfl rfl rfl rfl (by simp; omega) (by show _ * 56 ≤ _; simp; omega), does_slice_l ty_ok rfl rfl rfl (by rw [hlen]; omega) rfl, by show _ ∧ _; omega, htw, does_slice_hm ty_ok rfl rfl rfl rfl (by rw [hlen]; omega) rfl⟩ ?_
      refine run 400 rfl ?_
      exact at_ret rfl rfl [] ⟨by rw [msgs_take, msgs_drop, takeL, show (i + 1).toNat = i.toNat + 1 by omega]; simp, rfl, rfl⟩ trivial

def inL (l : List Mg) (i : Int) : Bool := decide (0 ≤ i ∧ i < l.length)
def takeR (l : List Mg) (i : Int) : SV := .tup [.lst 5 (msgs (if inL l i then takeL l i.toNat else l)), (if inL l i then l.getD i.toNat .zero else .zero).sv, .bl (inL l i)]
theorem zsv_le : SVle zsv Mg.zero.sv := SVle.agg ⟨SVle.refl _, SVle.refl _, SVle.refl _, SVle.ff rfl, SVle.refl _, trivial⟩

theorem take_fn (l : List Mg) (i : Int) (hl : l.length ≤ 100000) : Gives Try.prog 25 [.lst 5 (msgs l), I i] (takeR l i) := by
  by_cases h : 0 ≤ i ∧ i < l.length
  · have e : inL l i = true := decide_eq_true h
    rw [takeR, e]
    exact (take_yes l i hl h).le (SVle.tup ⟨SVle.refl _, SVle.refl _, SVle.tt rfl, trivial⟩)
  · have e : inL l i = false := decide_eq_false h
    rw [takeR, e]
    exact (take_no l i hl (by omega)).le (SVle.tup ⟨SVle.tl _ _, zsv_le, SVle.ff rfl, trivial⟩)

theorem takeR_no (l : List Mg) (i : Int) (h : i < 0 ∨ l.length ≤ i) : Gives Try.prog 26 [.lst 5 (msgs l), I i] (.tup [.lst 5 (msgs l), zsv, .ff]) := by
  have hlen : (msgs l).length = l.length := by simp
  refine contract_of ty_ok [0, 1, 2, 3, 4, 5, 6, 7] Try.func26 rfl (by decide) Try.ntmps26 rfl fun z => ?_
  refine run 400 rfl ?_
  refine at_split 9 rfl (fun h1 => ?_) (fun h1 => ?_)
  · refine run 400 rfl ?_
    exact at_ret rfl rfl [] ⟨rfl, rfl, rfl⟩ trivial
  · simp only [decide_eq_false_iff_not] at h1
    refine run 400 rfl ?_
    refine at_ifd rfl (fun h2 => ?_) (fun h2 => ?_) <;> rw [hlen] at h2
    · refine run 400 rfl ?_
      exact at_ret rfl rfl [] ⟨rfl, rfl, rfl⟩ trivial
    · omega

set_option maxRecDepth 100000 in
theorem takeR_yes (l : List Mg) (i : Int) (hl : l.length ≤ 100000) (h : 0 ≤ i ∧ i < l.length) : Gives Try.prog 26 [.lst 5 (msgs l), I i] (.tup [.lst 5 (msgs (takeL l i.toNat)), (l.getD i.toNat .zero).sv, .tt]) := by
  have hlen : (msgs l).length = l.length := by simp
  have hget := msgs_get (l := l) (n := i.toNat) (by omega)
  refine contract_of ty_ok [0, 1, 2, 3, 4, 5, 6, 7] Try.func26 rfl (by decide) Try.ntmps26 rfl fun z => ?_
  refine run 400 rfl ?_
  refine at_split 9 rfl (fun h1 => ?_) (fun h1 => ?_)
  · simp at h1; omega
  · refine run 400 rfl ?_
    refine at_ifd rfl (fun h2 => ?_) (fun h2 => ?_) <;> rw [hlen] at h2
    · omega
    · refine run 400 rfl ?_
      refine at_drawn 15 rfl rfl [(0, .gro (.tl 5 [])), (3, .val (.lst 5 ((msgs l).take i.toNat))), (4, .tok 5 ([] ++ (msgs l).take i.toNat) (some 9)), (8, .val (.lst 5 ((msgs l).drop (i + 1).toNat))), (9, .use 20 5 ([] ++ (msgs l).take i.toNat ++ (msgs l).drop (i + 1).toNat)), (12, .val (.rp (l.getD i.toNat .zero).row 0))] [20, 21, 22] rfl
        ⟨does_index ty_ok _ rfl rfl rfl h.1 hget rfl, doesU_append ty_ok rfl rfl rfl rfl rfl rfl rfl (by simp; omega) (by show _ * 56 ≤ _; simp; omega), does_slice_l ty_ok rfl rfl rfl (by rw [hlen]; omega) rfl, by show _ ∧ _; omega, doesT_append ty_ok rfl rfl rfl rfl rfl rfl rfl (by simp; omega) (by show _ * 56 ≤ _; simp; omega), does_slice_h ty_ok rfl rfl rfl (by rw [hlen]; omega) rfl, doesG_build ty_ok _ rfl trivial rfl rfl (by decide)⟩ ?_
      refine run 400 rfl ?_
      exact at_ret rfl rfl [] ⟨by rw [msgs_take, msgs_drop, takeL, show (i + 1).toNat = i.toNat + 1 by omega]; simp, rfl, rfl⟩ trivial

theorem takeR_fn (l : List Mg) (i : Int) (hl : l.length ≤ 100000) : Gives Try.prog 26 [.lst 5 (msgs l), I i] (takeR l i) := by
  by_cases h : 0 ≤ i ∧ i < l.length
  · have e : inL l i = true := decide_eq_true h
    rw [takeR, e]
    exact (takeR_yes l i hl h).le (SVle.tup ⟨SVle.refl _, SVle.refl _, SVle.tt rfl, trivial⟩)
  · have e : inL l i = false := decide_eq_false h
    rw [takeR, e]
    exact (takeR_no l i (by omega)).le (SVle.tup ⟨SVle.refl _, zsv_le, SVle.ff rfl, trivial⟩)

theorem sendR_fn (l : List Mg) (m : Mg) : Gives Try.prog 30 [.lst 5 (msgs l), m.sv] (.lst 5 (msgs (sendF l m))) := by
  by_cases h : 32 ≤ l.length
  · rw [sendF, if_pos h]
    exact sendR_full l m h
  · rw [sendF, if_neg h]
    exact sendR_less l m (by omega)

/-! Asking, and answers. -/
theorem back_fn (a b : Int) (h d : ByteArray) : Gives Try.prog 34 [I a, I b, .str h, .str d] (.agg [I a, I b, .str h, .tt, .str d]) := by
  refine contract_of ty_ok [0, 1, 2, 3, 4, 5, 6, 7] Try.func34 rfl (by decide) Try.ntmps34 rfl fun z => ?_
  refine run 400 rfl ?_
  exact at_ret rfl rfl [] ⟨rfl, rfl, rfl⟩ trivial
theorem backR_fn (a b : Int) (h d : ByteArray) : Gives Try.prog 35 [I a, I b, .str h, .str d] (.agg [I a, I b, .str h, .tt, .str d]) := by
  refine contract_of ty_ok [0, 1, 2, 3, 4, 5, 6, 7] Try.func35 rfl (by decide) Try.ntmps35 rfl fun z => ?_
  refine run 400 rfl ?_
  exact at_ret rfl rfl [] ⟨rfl, rfl, rfl⟩ trivial

def askF (a b c f : Int) (h d : ByteArray) : SV := .tup [(if 1073741824 < b then Mg.zero else ⟨b, f, h, false, d⟩).sv, src a (nxF b) c, .bl (decide (b ≤ 1073741824))]
theorem ask_no (a b c f : Int) (h d : ByteArray) (hb : 1073741824 < b ∧ b ≤ 4611686018427387904) : Gives Try.prog 32 [src a b c, I f, .str h, .str d] (.tup [zsv, src a b c, .ff]) := by
  refine contract_of ty_ok [0, 1, 2, 3, 4, 5, 6, 7] Try.func32 rfl (by decide) Try.ntmps32 rfl fun z => ?_
  refine run 400 rfl ?_
  refine at_fn (conn_no a b c hb) rfl ?_
  refine run 400 rfl ?_
  refine at_drawn_st 3 [1] rfl rfl [] [20, 21, 22] rfl trivial ?_
  refine run 400 rfl ?_
  exact at_ret rfl rfl [] ⟨rfl, rfl, rfl⟩ trivial
set_option maxRecDepth 100000 in
theorem ask_yes (a b c f : Int) (h d : ByteArray) (hb : -4611686018427387904 ≤ b ∧ b ≤ 1073741824) : Gives Try.prog 32 [src a b c, I f, .str h, .str d] (.tup [.agg [I b, I f, .str h, .ff, .str d], src a (b + 1) c, .tt]) := by
  refine contract_of ty_ok [0, 1, 2, 3, 4, 5, 6, 7] Try.func32 rfl (by decide) Try.ntmps32 rfl fun z => ?_
  refine run 400 rfl ?_
  refine at_fn (conn_yes a b c hb) rfl ?_
  refine run 400 rfl ?_
  refine at_drawn_st 7 [1] rfl rfl [] [20, 21, 22] rfl trivial ?_
  refine run 400 rfl ?_
  exact at_ret rfl rfl [] ⟨rfl, rfl, rfl⟩ trivial

theorem askR_no (a b c f : Int) (h d : ByteArray) (hb : 1073741824 < b ∧ b ≤ 4611686018427387904) : Gives Try.prog 33 [src a b c, I f, .str h, .str d] (.tup [zsv, src a b c, .ff]) := by
  refine contract_of ty_ok [0, 1, 2, 3, 4, 5, 6, 7] Try.func33 rfl (by decide) Try.ntmps33 rfl fun z => ?_
  refine run 400 rfl ?_
  refine at_fn (connR_no a b c hb.1) rfl ?_
  refine run 400 rfl ?_
  refine at_drawn_st 3 [1] rfl rfl [] [20, 21, 22] rfl trivial ?_
  refine run 400 rfl ?_
  exact at_ret rfl rfl [] ⟨rfl, rfl, rfl⟩ trivial
set_option maxRecDepth 100000 in
theorem askR_yes (a b c f : Int) (h d : ByteArray) (hb : -4611686018427387904 ≤ b ∧ b ≤ 1073741824) : Gives Try.prog 33 [src a b c, I f, .str h, .str d] (.tup [.agg [I b, I f, .str h, .ff, .str d], src a (b + 1) c, .tt]) := by
  refine contract_of ty_ok [0, 1, 2, 3, 4, 5, 6, 7] Try.func33 rfl (by decide) Try.ntmps33 rfl fun z => ?_
  refine run 400 rfl ?_
  refine at_fn (connR_yes a b c hb) rfl ?_
  refine run 400 rfl ?_
  refine at_drawn_st 7 [1] rfl rfl [] [20, 21, 22] rfl trivial ?_
  refine run 400 rfl ?_
  exact at_ret rfl rfl [] ⟨rfl, rfl, rfl⟩ trivial
end Go.Proofs.Ytjjjbojkmjgjlaa
