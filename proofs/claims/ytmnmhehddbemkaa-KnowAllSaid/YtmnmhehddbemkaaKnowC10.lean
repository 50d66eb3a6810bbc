/- The texts W5a, R1, R2, W6h, W6i, W6j, W7d, W7e, W7f, Mkz, W6k, L5, W7g, one behind the other: an executor over the translated code, contracts of functions, and their laws. -/

import Derived.Test.YtmnmhehddbemkaaKnowC9
namespace Go.Proofs.Ytmnmhehddbemkaa
open Go Go.Eng
set_option maxRecDepth 100000

theorem one_fn (l res : List Tm) (c r : Nat) (m : Mv) (hr : ∀ x ∈ res, Gd x) : Contract Try.prog 60 2 (rsO l res c r) [.ptr 0 0, m.sv] fun s post => s = oneS (oneF l res m) ∧ post = rsO l res c r := by
  have hkid : ∀ (n : Int) (q : Int), inF n res.length = true → (res.getD n.toNat .zero).k = q → ((res.getD n.toNat .zero).kids.length : Int) = kidsF q := by
    intro n q hn hq
    have h0 := inF_lt hn
    have hm := getD_mem (l := res) (n := n.toNat) (by omega)
    have := hr _ hm
    generalize res.getD n.toNat .zero = u at this hq
    cases this with
    | mk h1 h2 => rw [← hq]; exact h1
  by_cases hb : m.k < 1 ∨ 10 < m.k
  · have e : oneF l res m = (none, 2) := by
      have : readF m = none := by
        unfold readF
        repeat rw [if_neg (by omega)]
      rw [oneF, this]
    rw [e]
    exact one_bad l res c r m hb
  have hk : m.k = 1 ∨ m.k = 2 ∨ m.k = 3 ∨ m.k = 4 ∨ m.k = 5 ∨ m.k = 6 ∨ m.k = 7 ∨ m.k = 8 ∨ m.k = 9 ∨ m.k = 10 := by omega
  rcases hk with hk | hk | hk | hk | hk | hk | hk | hk | hk | hk
  · have er : readF m = some (.given m.a) := by unfold readF; rw [if_pos hk]
    cases hn : inF m.a l.length with
    | true =>
      have e : oneF l res m = (some (l.getD m.a.toNat .zero), 0) := by rw [oneF, er]; simp [nearF, hn, stepT]
      rw [e]; exact one_known l res c r m hk hn
    | false =>
      have e : oneF l res m = (none, 8) := by rw [oneF, er]; simp [nearF, hn]
      rw [e]; exact one_known_no l res c r m hk hn
  · have er : readF m = some (.atom m.s) := by unfold readF; rw [if_neg (by omega), if_pos hk]
    have e : oneF l res m = (some (.mk 1 0 m.s []), 0) := by rw [oneF, er]; simp [nearF, stepT]
    rw [e]; exact one_atom l res c r m hk
  · have er : readF m = some (.half m.a 7 0) := by unfold readF; rw [if_neg (by omega), if_neg (by omega), if_pos hk]
    cases hn : inF m.a res.length with
    | true =>
      by_cases hq : (res.getD m.a.toNat .zero).k = 7
      · have hl : ((res.getD m.a.toNat .zero).kids.length : Int) = 2 := hkid _ _ hn hq
        have e : oneF l res m = (some ((res.getD m.a.toNat .zero).kids.getD 0 .zero), 0) := by
          rw [oneF, er]
          dsimp only
          rw [nearF, if_pos hn, stepT, if_pos ⟨hq, by omega⟩]
          rfl
        rw [e]; exact one_left l res c r m hk hn hq (by omega)
      · have e : oneF l res m = (none, 3) := by
          rw [oneF, er]
          dsimp only
          rw [nearF, if_pos hn, stepT, if_neg (fun h => hq h.1)]
        rw [e]; exact one_left_form l res c r m hk hn hq
    | false =>
      have e : oneF l res m = (none, 8) := by
        rw [oneF, er]
        dsimp only
        rw [nearF, hn, if_neg (by decide)]
      rw [e]; exact one_left_no l res c r m hk hn
  · have er : readF m = some (.half m.a 7 1) := by unfold readF; rw [if_neg (by omega), if_neg (by omega), if_neg (by omega), if_pos hk]
    cases hn : inF m.a res.length with
    | true =>
      by_cases hq : (res.getD m.a.toNat .zero).k = 7
      · have hl : ((res.getD m.a.toNat .zero).kids.length : Int) = 2 := hkid _ _ hn hq
        have e : oneF l res m = (some ((res.getD m.a.toNat .zero).kids.getD 1 .zero), 0) := by
          rw [oneF, er]
          dsimp only
          rw [nearF, if_pos hn, stepT, if_pos ⟨hq, by omega⟩]
          rfl
        rw [e]; exact one_right l res c r m hk hn hq (by omega)
      · have e : oneF l res m = (none, 3) := by
          rw [oneF, er]
          dsimp only
          rw [nearF, if_pos hn, stepT, if_neg (fun h => hq h.1)]
        rw [e]; exact one_right_form l res c r m hk hn hq
    | false =>
      have e : oneF l res m = (none, 8) := by
        rw [oneF, er]
        dsimp only
        rw [nearF, hn, if_neg (by decide)]
      rw [e]; exact one_right_no l res c r m hk hn
  · have er : readF m = some (.half m.a 6 1) := by unfold readF; rw [if_neg (by omega), if_neg (by omega), if_neg (by omega), if_neg (by omega), if_pos hk]
    cases hn : inF m.a res.length with
    | true =>
      by_cases hq : (res.getD m.a.toNat .zero).k = 6
      · have hl : ((res.getD m.a.toNat .zero).kids.length : Int) = 2 := hkid _ _ hn hq
        have e : oneF l res m = (some ((res.getD m.a.toNat .zero).kids.getD 1 .zero), 0) := by
          rw [oneF, er]
          dsimp only
          rw [nearF, if_pos hn, stepT, if_pos ⟨hq, by omega⟩]
          rfl
        rw [e]; exact one_open l res c r m hk hn hq (by omega)
      · have e : oneF l res m = (none, 3) := by
          rw [oneF, er]
          dsimp only
          rw [nearF, if_pos hn, stepT, if_neg (fun h => hq h.1)]
        rw [e]; exact one_open_form l res c r m hk hn hq
    | false =>
      have e : oneF l res m = (none, 8) := by
        rw [oneF, er]
        dsimp only
        rw [nearF, hn, if_neg (by decide)]
      rw [e]; exact one_open_no l res c r m hk hn
  · have er : readF m = some (.one 3 m.a) := by unfold readF; rw [if_neg (by omega), if_neg (by omega), if_neg (by omega), if_neg (by omega), if_neg (by omega), if_pos hk]
    cases hn : inF m.a res.length with
    | true =>
      have e : oneF l res m = (some (.mk 3 0 .empty [res.getD m.a.toNat .zero]), 0) := by
        rw [oneF, er]
        dsimp only
        rw [nearF, if_pos hn, stepT]
      rw [e]; exact one_hash l res c r m hk hn
    | false =>
      have e : oneF l res m = (none, 8) := by
        rw [oneF, er]
        dsimp only
        rw [nearF, hn, if_neg (by decide)]
      rw [e]; exact one_hash_no l res c r m hk hn
  · have er : readF m = some (.one 4 m.a) := by unfold readF; rw [if_neg (by omega), if_neg (by omega), if_neg (by omega), if_neg (by omega), if_neg (by omega), if_neg (by omega), if_pos hk]
    cases hn : inF m.a res.length with
    | true =>
      have e : oneF l res m = (some (.mk 4 0 .empty [res.getD m.a.toNat .zero]), 0) := by
        rw [oneF, er]
        dsimp only
        rw [nearF, if_pos hn, stepT]
      rw [e]; exact one_pub l res c r m hk hn
    | false =>
      have e : oneF l res m = (none, 8) := by
        rw [oneF, er]
        dsimp only
        rw [nearF, hn, if_neg (by decide)]
      rw [e]; exact one_pub_no l res c r m hk hn
  · have er : readF m = some (.two 5 m.a m.b) := by unfold readF; rw [if_neg (by omega), if_neg (by omega), if_neg (by omega), if_neg (by omega), if_neg (by omega), if_neg (by omega), if_neg (by omega), if_pos hk]
    cases hn : inF m.a res.length with
    | true =>
      cases hn2 : inF m.b res.length with
      | true =>
        have e : oneF l res m = (some (.mk 5 0 .empty [res.getD m.a.toNat .zero, res.getD m.b.toNat .zero]), 0) := by
          rw [oneF, er]
          dsimp only
          rw [nearF, hn, hn2, if_pos (by decide), stepT]
        rw [e]; exact one_mac l res c r m hk hn hn2
      | false =>
        have e : oneF l res m = (none, 8) := by
          rw [oneF, er]
          dsimp only
          rw [nearF, hn, hn2, if_neg (by decide)]
        rw [e]; exact one_mac_no2 l res c r m hk hn hn2
    | false =>
      have e : oneF l res m = (none, 8) := by
        rw [oneF, er]
        dsimp only
        rw [nearF, hn, Bool.false_and, if_neg (by decide)]
      rw [e]; exact one_mac_no l res c r m hk hn
  · have er : readF m = some (.two 6 m.a m.b) := by unfold readF; rw [if_neg (by omega), if_neg (by omega), if_neg (by omega), if_neg (by omega), if_neg (by omega), if_neg (by omega), if_neg (by omega), if_neg (by omega), if_pos hk]
    cases hn : inF m.a res.length with
    | true =>
      cases hn2 : inF m.b res.length with
      | true =>
        have e : oneF l res m = (some (.mk 6 0 .empty [res.getD m.a.toNat .zero, res.getD m.b.toNat .zero]), 0) := by
          rw [oneF, er]
          dsimp only
          rw [nearF, hn, hn2, if_pos (by decide), stepT]
        rw [e]; exact one_sig l res c r m hk hn hn2
      | false =>
        have e : oneF l res m = (none, 8) := by
          rw [oneF, er]
          dsimp only
          rw [nearF, hn, hn2, if_neg (by decide)]
        rw [e]; exact one_sig_no2 l res c r m hk hn hn2
    | false =>
      have e : oneF l res m = (none, 8) := by
        rw [oneF, er]
        dsimp only
        rw [nearF, hn, Bool.false_and, if_neg (by decide)]
      rw [e]; exact one_sig_no l res c r m hk hn
  · have er : readF m = some (.two 7 m.a m.b) := by unfold readF; rw [if_neg (by omega), if_neg (by omega), if_neg (by omega), if_neg (by omega), if_neg (by omega), if_neg (by omega), if_neg (by omega), if_neg (by omega), if_neg (by omega), if_pos hk]
    cases hn : inF m.a res.length with
    | true =>
      cases hn2 : inF m.b res.length with
      | true =>
        have e : oneF l res m = (some (.mk 7 0 .empty [res.getD m.a.toNat .zero, res.getD m.b.toNat .zero]), 0) := by
          rw [oneF, er]
          dsimp only
          rw [nearF, hn, hn2, if_pos (by decide), stepT]
        rw [e]; exact one_pair l res c r m hk hn hn2
      | false =>
        have e : oneF l res m = (none, 8) := by
          rw [oneF, er]
          dsimp only
          rw [nearF, hn, hn2, if_neg (by decide)]
        rw [e]; exact one_pair_no2 l res c r m hk hn hn2
    | false =>
      have e : oneF l res m = (none, 8) := by
        rw [oneF, er]
        dsimp only
        rw [nearF, hn, Bool.false_and, if_neg (by decide)]
      rw [e]; exact one_pair_no l res c r m hk hn

/-- The document's run. -/
def runR (l : List Tm) : List Mv → List Tm → List Tm × Int
  | [], acc => (acc, 0)
  | m :: ms, acc => match oneF l acc m with
    | (some t, _) => if mayF t then runR l ms (acc ++ [t]) else ([], 3)
    | (none, e) => ([], e)
theorem runR_eq (l : List Tm) : ∀ (ms : List Mv) (acc : List Tm), runR l ms acc = runG l ms acc
  | [], _ => by rw [runR, runG]
  | m :: ms, acc => by
    cases hr : readF m with
    | none => simp only [runR, runG, oneF, hr]
    | some s =>
      by_cases hn : nearF s acc.length l.length = true
      · cases hs : stepT l acc s with
        | none => simp only [runR, runG, oneF, hr, if_pos hn, doesF, hs]
        | some t =>
          cases hm : mayF t with
          | true => simp only [runR, runG, oneF, hr, if_pos hn, doesF, hs, hm, if_true]; exact runR_eq l ms _
          | false => simp [runR, runG, oneF, hr, hn, doesF, hs, hm]
      · simp [runR, runG, oneF, hr, hn]
end Go.Proofs.Ytmnmhehddbemkaa
namespace Go.Proofs.Ytmnmhehddbemkaa
open Go Go.Eng
set_option maxRecDepth 100000

abbrev z0 : Tm := .mk 0 0 .empty []
theorem row_z0 : ([.int .i64 0, .int .i64 0, .str .empty, .lst 4 []] : List DV) = tr z0 := by
  show _ = [DV.int .i64 0, .int .i64 0, .str .empty, .lst 4 (rowsT [])]
  rw [rowsT_nil]
theorem set_last {α : Type} (l : List α) (x y : α) : (l ++ [x]).set l.length y = l ++ [y] := by
  rw [List.set_append_right _ _ (Nat.le_refl _), Nat.sub_self]
  rfl

theorem rrun_fn (l : List Tm) (ms : List Mv) : Gives Try.prog 22 [.lst 4 (rowsT l), .lst 4 (rowsM ms)] (.tup [.lst 4 (rowsT (runF l ms).1), I (runF l ms).2]) := by
  refine GivesP.le (Post := fun s => ∃ a, s = .tup [a, I (runF l ms).2] ∧ SVle a (.lst 4 (rowsT (runF l ms).1))) ?_ (fun s h => by
    obtain ⟨a, rfl, h⟩ := h
    exact SVle.tup ⟨h, SVle.refl _, trivial⟩)
  have hml : (rowsM ms).length = ms.length := by simp
  refine contract_of ty_ok [0, 1, 2, 3, 4, 5, 6, 7] Try.func22 rfl (by decide) Try.ntmps22 rfl fun z => ?_
  refine run 400 rfl ?_
  refine at_ifd rfl (fun h => ?_) (fun h => ?_)
  · rw [hml] at h
    have e : runF l ms = ([], 7) := by unfold runF; rw [if_pos (by omega)]
    refine run 400 rfl ?_
    exact at_ret rfl rfl [] ⟨⟨_, by rw [e], by rw [e]; exact SVle.nils⟩, rfl, rfl⟩ trivial
  rw [hml] at h
  have e : runF l ms = runG l ms [] := by unfold runF; rw [if_neg (by omega)]
  rw [e]
  refine run 400 rfl ?_
  refine at_nilSI 0 1 1 rfl rfl rfl ?_
  refine at_loop (fun x : Nat × List Tm × Nat × Nat => x.1 ≤ ms.length ∧ x.2.1.length = x.1 ∧ runG l (ms.drop x.1) x.2.1 = runG l ms [] ∧ (∀ t ∈ x.2.1, Gd t) ∧ x.2.1.length ≤ x.2.2.1 ∧ x.2.1.length * 4 + x.2.2.2 = x.2.2.1 * 4)
    (fun x => [(0, .lst 4 (rowsT l)), (1, .lst 4 (rowsM ms)), (6, .ptr 0 0), (7, I x.1)]) (fun x => rsO l x.2.1 x.2.2.1 x.2.2.2) (fun x => ms.length - x.1) [2, 3, 4, 5, 6, 7, 8, 9]
    (0, [], 0, 0) ⟨by dsimp only; omega, rfl, rfl, by simp, by simp, by simp⟩ ⟨SVle.refl _, SVle.refl _, SVle.refl _, SVle.refl _, trivial⟩ ⟨rfl, by show some _ = some (SO.buf (rowsT []) 0); rw [rowsT_nil], trivial⟩ ?_
  rintro ⟨i, acc, c, r⟩ ⟨a1, a2, a3, a4, a5, a6⟩
  dsimp only at a1 a2 a3 a4 a5 a6
  refine run 400 rfl ?_
  refine at_ifd rfl (fun g => ?_) (fun g => ?_)
  rotate_left
  · dsimp only at g
    rw [hml] at g
    have : i = ms.length := by omega
    subst this
    rw [List.drop_length] at a3
    refine run 400 rfl ?_
    refine at_pubS 4 1 4 rfl rfl (rowsT_len acc).symm a5 rowsT_sz rfl ?_
    refine at_ret rfl rfl [] ⟨⟨.lst 4 (rowsT acc), by rw [← a3, runG], by rw [← a3, runG]; exact SVle.refl _⟩, rfl, rfl⟩ trivial
  dsimp only at g
  rw [hml] at g
  have hlt : i < ms.length := by omega
  have hget := rowsM_get hlt
  have hdr : ms.drop i = ms.getD i .zero :: ms.drop (i + 1) := by
    rw [List.drop_eq_getElem_cons hlt, List.getD_eq_getElem?_getD, List.getElem?_eq_getElem hlt]
    rfl
  rw [hdr] at a3
  generalize ms.getD i .zero = m at hget a3
  refine run 400 rfl ?_
  refine at_val (.rp (mr m) 0) (does_index ty_ok _ rfl rfl rfl (by omega) (show (rowsM ms)[(i : Int).toNat]? = some (mr m) from hget) rfl) ?_
  refine run 400 rfl ?_
  have hone := one_fn l acc c r m a4
  have hstep := runR_eq l (m :: ms.drop (i + 1)) acc
  rw [runR] at hstep
  rcases hr : oneF l acc m with ⟨ot, e1⟩
  rw [hr] at hone hstep
  cases ot with
  | none =>
    have hstep : ([], e1) = runG l (m :: ms.drop (i + 1)) acc := hstep
    refine at_callF [0, 1] hone rfl ⟨rfl, rfl, trivial⟩ rfl rfl rfl ?_
    have he : e1 ≠ 0 := by
      intro h0
      subst h0
      rw [oneF] at hr
      split at hr
      · cases hr
      · split at hr
        · split at hr <;> cases hr
        · cases hr
    refine run 400 rfl ?_
    refine at_false 33 rfl (by simpa using he) ?_
    refine run 400 rfl ?_
    refine at_if rfl (fun _ => ?_) (fun q => absurd (by simpa using q) he)
    refine run 400 rfl ?_
    exact at_ret rfl rfl [] ⟨⟨.tl 0 [], by rw [← a3, ← hstep]; rfl, by rw [← a3, ← hstep]; exact SVle.nils⟩, rfl, rfl⟩ trivial
  | some t =>
    have he : e1 = 0 := by
      rw [oneF] at hr
      split at hr
      · cases hr
      · split at hr
        · split at hr
          · cases hr; rfl
          · cases hr
        · cases hr
    subst he
    have hstep : (if mayF t then runR l (ms.drop (i + 1)) (acc ++ [t]) else ([], 3)) = runG l (m :: ms.drop (i + 1)) acc := hstep
    refine at_callF [0, 1] hone rfl ⟨rfl, rfl, trivial⟩ rfl rfl rfl ?_
    refine run 400 rfl ?_
    refine at_true 33 rfl rfl ?_
    refine run 400 rfl ?_
    refine at_fn (rmay_fn t) rfl ?_
    refine run 400 rfl ?_
    refine at_if rfl (fun q => ?_) (fun q => ?_)
    · have q : mayF t = false := by simpa using q
      rw [q, if_neg (by decide)] at hstep
      refine run 400 rfl ?_
      refine at_if rfl (fun _ => ?_) (fun q => by cases q)
      refine run 400 rfl ?_
      exact at_ret rfl rfl [] ⟨⟨.tl 0 [], by rw [← a3, ← hstep], by rw [← a3, ← hstep]; exact SVle.nils⟩, rfl, rfl⟩ trivial
    · have q : mayF t = true := by simpa using q
      rw [q, if_pos rfl, runR_eq] at hstep
      refine run 400 rfl ?_
      refine at_if rfl (fun q => by cases q) (fun _ => ?_)
      refine run 400 rfl ?_
      refine at_stages ?_
      refine at_stage 7 [] rfl rfl rfl rfl rfl [(6, .gro (.tl 4 [[.int .i64 0, .int .i64 0, .str .empty, .lst 4 []]]))] [10, 11, 12] rfl (by exact doesG_build ty_ok _ rfl ⟨⟨rfl, rfl, _, rfl, ⟨SVle.refl _, SVle.refl _, SVle.refl _, fun g H x h => SVle.tl 4 [] g H x (SVle.nil 4 g H x h), trivial⟩⟩, trivial⟩ rfl rfl (by decide)) ?_
      refine at_forced [21, 22] (fun y : Nat × Nat => acc.length + 1 ≤ y.1 ∧ (acc.length + 1) * 4 + y.2 = y.1 * 4) (fun y => [(0, .lst 4 (rowsT l)), (1, .lst 4 (rowsM ms)), (6, .ptr 0 0), (7, I i), (41, .ptr 0 0), (45, t.sv), (46, I acc.length), (48, .sl 20 0 (acc.length + 1) y.1)])
        (fun y => [(0, .cells 73 [.lst 4 (rowsT l), .sl 1 0 acc.length c]), (20, .buf (rowsT acc ++ [tr z0]) y.2)]) rfl rfl rfl rfl rfl ?_ ?_
      · refine at_appendS 1 20 4 ty_ok rfl rfl rfl rfl rfl rfl rfl (rowsT_len acc).symm rowsT_sz a6 a5 (by simp) rfl (by simp; omega) (by show _ * 56 ≤ _; simp; omega) rfl ?_
        intro c' r' h1 h2
        refine run 400 rfl ?_
        exact at_joined (c', r') ⟨h1, h2⟩ ⟨SVle.refl _, SVle.refl _, SVle.refl _, SVle.refl _, SVle.refl _, SVle.refl _, SVle.refl _, SVle.refl _, trivial⟩ ⟨rfl, by rw [← row_z0]; rfl, trivial⟩
      · rintro ⟨c', r'⟩ ⟨h1, h2⟩
        dsimp only at h1 h2 ⊢
        have hsz : ∀ q ∈ rowsT acc ++ [tr z0], q.length = 4 := by
          intro q hq
          rcases List.mem_append.1 hq with hq | hq
          · exact rowsT_sz q hq
          · rw [List.mem_singleton] at hq; subst hq; rfl
        have hset : (rowsT acc ++ [tr z0]).set acc.length (tr t) = rowsT (acc ++ [t]) := by
          rw [← rowsT_len acc, set_last, rowsT_app, rowsT_cons, rowsT_nil]
        refine at_stage 5 [0, 20] rfl rfl rfl rfl rfl [(8, .val (.ptr 20 (0 + (acc.length : Int).toNat * 4))), (9, .put 20 (.buf ((rowsT acc ++ [tr z0]).set acc.length (tr t)) r'))] [30] rfl
          ⟨doesWS_row (i := acc.length) (sz := 4) ty_ok (tr t) rfl rfl rfl (fun e => by cases e) rfl (by omega) hsz (by simp [rowsT_len]) rfl, does_indexS ty_ok rfl rfl rfl (by omega) rfl⟩ ?_
        refine at_stage_end [2, 3, 4, 5, 6, 7, 8, 9] rfl ?_
        refine at_swap 1 20 ?_
        refine run 400 rfl ?_
        have hgt : Gd t := mayF_gd q
        exact at_again (i + 1, acc ++ [t], c', r') ⟨by dsimp only; omega, by simp [a2], by dsimp only; rw [hstep, a3], by
            intro x hx
            dsimp only at hx
            rcases List.mem_append.1 hx with hx | hx
            · exact a4 x hx
            · rw [List.mem_singleton] at hx; subst hx; exact hgt, by dsimp only; rw [List.length_append]; exact h1, by dsimp only; rw [List.length_append]; exact h2⟩ (by dsimp only; omega)
          ⟨SVle.refl _, SVle.refl _, SVle.refl _, SVle.of_eq (by show I ((i : Int) + 1) = I ((i + 1 : Nat) : Int); rw [Int.natCast_add]; rfl), trivial⟩
          ⟨by show some _ = some (SO.cells 73 [.lst 4 (rowsT l), .sl 1 0 (acc ++ [t]).length c']); rw [List.length_append]; rfl, by dsimp only; rw [← hset]; rfl, trivial⟩
end Go.Proofs.Ytmnmhehddbemkaa
namespace Go.Proofs.Ytmnmhehddbemkaa
open Go Go.Eng
set_option maxRecDepth 100000

theorem all_fn (l : List Tm) (h : ∀ x ∈ l, Sm x) (hl : l.length ≤ 10000000) : Gives Try.prog 24 [.lst 4 (rowsT l), .lst 4 (rowsT l)] .tt := by
  have hlen := rowsT_len l
  refine contract_of ty_ok [0, 1, 2, 3, 4, 5, 6, 7] Try.func24 rfl (by decide) Try.ntmps24 rfl fun z => ?_
  refine run 400 rfl ?_
  refine at_if rfl (fun q => by simp at q) (fun _ => ?_)
  refine run 400 rfl ?_
  refine at_loop (fun i : Nat => i ≤ l.length) (fun i => [(0, .lst 4 (rowsT l)), (1, .lst 4 (rowsT l)), (5, I i)]) (fun _ => []) (fun i => l.length - i) [0, 1, 2, 3, 4, 5, 6, 7]
    0 (by omega) ⟨SVle.refl _, SVle.refl _, SVle.refl _, trivial⟩ trivial ?_
  intro i hi
  refine run 400 rfl ?_
  refine at_ifd rfl (fun g => ?_) (fun g => ?_)
  rotate_left
  · refine run 400 rfl ?_
    exact at_ret rfl rfl [] ⟨rfl, rfl, rfl⟩ trivial
  rw [hlen] at g
  have hlt : i < l.length := by omega
  have hget := rowsT_get hlt
  have hmem := getD_mem hlt
  generalize l.getD i .zero = u at hget hmem
  refine run 400 rfl ?_
  refine at_drawn 10 rfl rfl [(2, .val (.rp (tr u) 0)), (6, .val (.rp (tr u) 0)), (8, .sv (.bl (same u u)))] [20, 21, 22] rfl
    ⟨same_fn u u (h u hmem), does_index ty_ok _ rfl rfl rfl (by omega) (show (rowsT l)[(i : Int).toNat]? = some (tr u) from hget) rfl, does_index ty_ok _ rfl rfl rfl (by omega) (show (rowsT l)[(i : Int).toNat]? = some (tr u) from hget) rfl⟩ ?_
  refine run 400 rfl ?_
  refine at_if rfl (fun q => by rw [same_iff.2 rfl] at q; cases q) (fun _ => ?_)
  refine run 400 rfl ?_
  exact at_again (i + 1) (by omega) (by omega) ⟨SVle.refl _, SVle.refl _, SVle.of_eq (by show I ((i : Int) + 1) = I ((i + 1 : Nat) : Int); rw [Int.natCast_add]; rfl), trivial⟩ trivial

theorem runF_bnd (l : List Tm) (ms : List Mv) : (runF l ms).1.length ≤ 1024 := by
  by_cases h : (runF l ms).2 = 0
  · rw [runF_len l ms h]
    by_cases h2 : 1024 < ms.length
    · unfold runF at h; rw [if_pos h2] at h; cases h
    · omega
  · rw [runF_err l ms h]; simp
def provesF (l : List Tm) (ms : List Mv) (t : Tm) : Bool := ((runF l ms).2 == 0) && decide (0 < (runF l ms).1.length) && same ((runF l ms).1.getD ((runF l ms).1.length - 1) .zero) t

theorem proves_fn (l : List Tm) (ms : List Mv) (t : Tm) (hl : l.length ≤ 1000000) : Gives Try.prog 25 [.lst 4 (rowsT l), .lst 4 (rowsM ms), t.sv] (.bl (provesF l ms t)) := by
  have hR := run_fn l ms hl
  have hsm := runF_sm l ms
  unfold provesF
  have hlen := rowsT_len (runF l ms).1
  have hbd := runF_bnd l ms
  generalize runF l ms = R at hR hsm hlen hbd
  obtain ⟨out, e⟩ := R
  dsimp only at hR hsm hlen hbd ⊢
  by_cases he : e = 0
  · by_cases h0 : 0 < out.length
    · have hlt : out.length - 1 < out.length := by omega
      have hget := rowsT_get hlt
      have hmem := getD_mem hlt
      have hS := tsame_fn (out.getD (out.length - 1) .zero) t (hsm _ hmem)
      generalize out.getD (out.length - 1) .zero = u at hget hmem hS
      have hb : ((e == 0) && decide (0 < out.length) && same u t) = same u t := by simp [he, h0]
      rw [hb]
      refine contract_of ty_ok [0, 1, 2, 3, 4, 5, 6, 7] Try.func25 rfl (by decide) Try.ntmps25 rfl fun z => ?_
      refine run 400 rfl ?_
      refine at_fn hR rfl ?_
      refine run 400 rfl ?_
      refine at_drawn 18 rfl rfl [(1, .yes), (5, .yes), (12, .val (.rp (tr u) 0)), (15, .sv (.bl (same u t)))] [20, 21, 22] rfl
        ⟨hS, does_index ty_ok _ rfl rfl rfl (by omega) (show (rowsT out)[(((rowsT out).length : Int) - 1).toNat]? = some (tr u) by rw [hlen, show ((out.length : Int) - 1).toNat = out.length - 1 by omega]; exact hget) rfl, by simp only [inR]; omega, by simp; omega, by show (e == 0) = true; simp [he]⟩ ?_
      refine run 400 rfl ?_
      exact at_ret rfl rfl [] ⟨rfl, rfl, rfl⟩ trivial
    · have hb : ((e == 0) && decide (0 < out.length) && same (out.getD (out.length - 1) .zero) t) = false := by simp [h0]
      rw [hb]
      refine Gives.le (a := .ff) ?_ (SVle.ff rfl)
      refine contract_of ty_ok [0, 1, 2, 3, 4, 5, 6, 7] Try.func25 rfl (by decide) Try.ntmps25 rfl fun z => ?_
      refine run 400 rfl ?_
      refine at_fn hR rfl ?_
      refine run 400 rfl ?_
      refine at_drawn 18 rfl rfl [(1, .yes), (5, .no)] [20, 21, 22] rfl ⟨by show decide ((0 : Int) < ((rowsT out).length : Int)) = false; rw [hlen, decide_eq_false_iff_not]; omega, by show (e == 0) = true; simp [he]⟩ ?_
      refine run 400 rfl ?_
      exact at_ret rfl rfl [] ⟨rfl, rfl, rfl⟩ trivial
  · have hb : ((e == 0) && decide (0 < out.length) && same (out.getD (out.length - 1) .zero) t) = false := by simp [he]
    rw [hb]
    refine Gives.le (a := .ff) ?_ (SVle.ff rfl)
    refine contract_of ty_ok [0, 1, 2, 3, 4, 5, 6, 7] Try.func25 rfl (by decide) Try.ntmps25 rfl fun z => ?_
    refine run 400 rfl ?_
    refine at_fn hR rfl ?_
    refine run 400 rfl ?_
    refine at_drawn 18 rfl rfl [(1, .no)] [20, 21, 22] rfl (by show (e == 0) = false; simp [he]) ?_
    refine run 400 rfl ?_
    exact at_ret rfl rfl [] ⟨rfl, rfl, rfl⟩ trivial
theorem rproves_fn (l : List Tm) (ms : List Mv) (t : Tm) : Gives Try.prog 26 [.lst 4 (rowsT l), .lst 4 (rowsM ms), t.sv] (.bl (provesF l ms t)) := by
  have hR := rrun_fn l ms
  have hsm := runF_sm l ms
  unfold provesF
  have hlen := rowsT_len (runF l ms).1
  have hbd := runF_bnd l ms
  generalize runF l ms = R at hR hsm hlen hbd
  obtain ⟨out, e⟩ := R
  dsimp only at hR hsm hlen hbd ⊢
  by_cases he : e = 0
  · by_cases h0 : 0 < out.length
    · have hlt : out.length - 1 < out.length := by omega
      have hget := rowsT_get hlt
      have hmem := getD_mem hlt
      have hS := same_fn (out.getD (out.length - 1) .zero) t (hsm _ hmem)
      generalize out.getD (out.length - 1) .zero = u at hget hmem hS
      have hb : ((e == 0) && decide (0 < out.length) && same u t) = same u t := by simp [he, h0]
      rw [hb]
      refine contract_of ty_ok [0, 1, 2, 3, 4, 5, 6, 7] Try.func26 rfl (by decide) Try.ntmps26 rfl fun z => ?_
      refine run 400 rfl ?_
      refine at_fn hR rfl ?_
      refine run 400 rfl ?_
      refine at_drawn 18 rfl rfl [(1, .yes), (5, .yes), (12, .val (.rp (tr u) 0)), (15, .sv (.bl (same u t)))] [20, 21, 22] rfl
        ⟨hS, does_index ty_ok _ rfl rfl rfl (by omega) (show (rowsT out)[(((rowsT out).length : Int) - 1).toNat]? = some (tr u) by rw [hlen, show ((out.length : Int) - 1).toNat = out.length - 1 by omega]; exact hget) rfl, by simp only [inR]; omega, by simp; omega, by show (e == 0) = true; simp [he]⟩ ?_
      refine run 400 rfl ?_
      exact at_ret rfl rfl [] ⟨rfl, rfl, rfl⟩ trivial
    · have hb : ((e == 0) && decide (0 < out.length) && same (out.getD (out.length - 1) .zero) t) = false := by simp [h0]
      rw [hb]
      refine Gives.le (a := .ff) ?_ (SVle.ff rfl)
      refine contract_of ty_ok [0, 1, 2, 3, 4, 5, 6, 7] Try.func26 rfl (by decide) Try.ntmps26 rfl fun z => ?_
      refine run 400 rfl ?_
      refine at_fn hR rfl ?_
      refine run 400 rfl ?_
      refine at_drawn 18 rfl rfl [(1, .yes), (5, .no)] [20, 21, 22] rfl ⟨by show decide ((0 : Int) < ((rowsT out).length : Int)) = false; rw [hlen, decide_eq_false_iff_not]; omega, by show (e == 0) = true; simp [he]⟩ ?_
      refine run 400 rfl ?_
      exact at_ret rfl rfl [] ⟨rfl, rfl, rfl⟩ trivial
  · have hb : ((e == 0) && decide (0 < out.length) && same (out.getD (out.length - 1) .zero) t) = false := by simp [he]
    rw [hb]
    refine Gives.le (a := .ff) ?_ (SVle.ff rfl)
    refine contract_of ty_ok [0, 1, 2, 3, 4, 5, 6, 7] Try.func26 rfl (by decide) Try.ntmps26 rfl fun z => ?_
    refine run 400 rfl ?_
    refine at_fn hR rfl ?_
    refine run 400 rfl ?_
    refine at_drawn 18 rfl rfl [(1, .no)] [20, 21, 22] rfl (by show (e == 0) = false; simp [he]) ?_
    refine run 400 rfl ?_
    exact at_ret rfl rfl [] ⟨rfl, rfl, rfl⟩ trivial

theorem oneT_fn (ks : List Int) (hl : ks.length ≤ 9223372036854775807) : Gives Try.prog 23 [.lst 1 (ints ks)] (genT ks 4 0).1.sv := by
  refine contract_of ty_ok [0, 1, 2, 3, 4, 5, 6, 7] Try.func23 rfl (by decide) Try.ntmps23 rfl fun z => ?_
  refine run 400 rfl ?_
  refine at_metF 1 (term_fn ks hl 4 (by omega) 0 (by omega) (by omega)) rfl rfl rfl ?_
  refine run 400 rfl ?_
  exact at_ret rfl rfl [] ⟨rfl, rfl, rfl⟩ trivial
end Go.Proofs.Ytmnmhehddbemkaa
namespace Go.Proofs.Ytmnmhehddbemkaa
open Go Go.Eng
set_option maxRecDepth 100000

theorem has_self (a : Tm) : hasT a a = true := by
  cases a
  rw [hasT, same_iff.2 rfl, Bool.true_or]
theorem ints_gt {l : List Int} {i : Nat} {u : Int} (h : l[i]? = some u) : (ints l)[((i : Int)).toNat]? = some [.int .i64 u] := ints_at' h

theorem termParts_fn (ns ms : List Int) (h1 : ns.length ≤ 9223372036854775807) (h2 : ms.length ≤ 9223372036854775807) : Gives Try.prog 12 [.lst 1 (ints ns), .lst 1 (ints ms)] .tt := by
  have hA := oneT_fn ns h1
  have hB := oneT_fn ms h2
  obtain ⟨ga, sa⟩ := genT_gd ns 4 0 (by omega)
  obtain ⟨gb, sb⟩ := genT_gd ms 4 0 (by omega)
  generalize (genT ns 4 0).1 = a at hA ga sa
  generalize (genT ms 4 0).1 = b at hB gb sb
  have ha := ga.sm
  have hb := gb.sm
  have hN := nonces_fn a ha (by omega)
  have hR := rnon_fn a ha (by omega)
  have hln := rnonT_len a
  generalize rnonT a = L at hN hR hln
  have hll := ints_len L
  have hsT : Sm (Tm.mk 7 0 .empty [b, a]) := .mk (by simp) (by intro t ht; simp at ht; rcases ht with rfl | rfl; exact hb; exact ha)
  have hP : Gives Try.prog 49 [(Tm.mk 7 0 .empty [b, a]).sv, a.sv] .tt := gives_is (c := true) (has_fn (.mk 7 0 .empty [b, a]) a hsT) (by
    rw [hasT, hasL, hasL, has_self a]; simp)
  refine contract_of ty_ok [0, 1, 2, 3, 4, 5, 6, 7] Try.func12 rfl (by decide) Try.ntmps12 rfl fun z => ?_
  refine run 400 rfl ?_
  refine at_fn known37_fn rfl ?_
  refine run 400 rfl ?_
  refine at_fn hA rfl ?_
  refine run 400 rfl ?_
  refine at_fn hB rfl ?_
  refine run 400 rfl ?_
  refine at_drawn 4 rfl rfl [(1, .sv (.tl 1 (ints L))), (3, .sv (.lst 1 (ints L)))] [20, 21, 22] rfl ⟨hR, hN⟩ ?_
  refine run 400 rfl ?_
  refine at_if rfl (fun q => by simp at q) (fun _ => ?_)
  refine run 400 rfl ?_
  refine at_loop (fun i : Nat => i ≤ L.length) (fun i => [(5, .ptr 0 0), (6, .ptr 1 0), (7, .lst 1 (ints L)), (8, .lst 1 (ints L)), (9, I i)]) (fun _ => [(0, own33 a), (1, own33 b)]) (fun i => L.length - i) [2, 3, 4, 5, 6, 7]
    0 (by omega) ⟨SVle.refl _, SVle.refl _, SVle.tl _ _, SVle.refl _, SVle.refl _, trivial⟩ ⟨rfl, rfl, trivial⟩ ?_
  intro i hi
  refine run 400 rfl ?_
  refine at_ifd rfl (fun g => ?_) (fun g => ?_)
  · rw [hll] at g
    have hlt : i < L.length := by omega
    obtain ⟨u, hu⟩ : ∃ u, L[i]? = some u := ⟨_, List.getElem?_eq_getElem hlt⟩
    have hget := ints_gt hu
    refine run 400 rfl ?_
    refine at_drawn 9 rfl rfl [(2, .val (.rp [.int .i64 u] 0)), (6, .val (.rp [.int .i64 u] 0))] [20, 21, 22] rfl
      ⟨does_index ty_ok _ rfl rfl rfl (by omega) hget rfl, does_index ty_ok _ rfl rfl rfl (by omega) hget rfl⟩ ?_
    refine run 400 rfl ?_
    refine at_if rfl (fun q => by simp at q) (fun _ => ?_)
    refine run 400 rfl ?_
    exact at_again (i + 1) (by omega) (by omega) ⟨SVle.refl _, SVle.refl _, SVle.refl _, SVle.refl _, SVle.of_eq (by show I ((i : Int) + 1) = I ((i + 1 : Nat) : Int); rw [Int.natCast_add]; rfl), trivial⟩ ⟨rfl, rfl, trivial⟩
  refine run 400 rfl ?_
  refine at_drawn 40 rfl rfl [(1, .sv (I (szT a))), (3, .sv (I (szT a))), (5, .yes), (8, .sv (.bl (same a b))), (11, .sv (.bl (same a b))), (14, .yes), (17, .sv (.bl (decide (ordT a b < 0)))), (20, .sv (.bl (decide (ordT a b < 0)))), (23, .yes), (26, .sv (.bl (hasT b a))), (29, .sv (.bl (hasT b a))), (32, .yes), (35, .gro (.tl 4 [tr b, tr a])), (36, .sv (Tm.mk 7 0 .empty [b, a]).sv), (38, .sv .tt)] [20, 21, 22] rfl
    ⟨hP, T2_fn 7 b a, doesG_build ty_ok _ rfl ⟨⟨rfl, rfl, _, rfl, SVles.refl _⟩, ⟨rfl, rfl, _, rfl, SVles.refl _⟩, trivial⟩ rfl rfl (by decide), by simp, rhas_fn b a ha, has_fn a b ha, by simp, less_fn a b ha, tless_fn a b ha, by simp, same_fn a b ha, tsame_fn a b ha, by simp, rsize_fn a ha (by omega), size_fn a ha (by omega)⟩ ?_
  refine run 400 rfl ?_
  exact at_ret rfl rfl [] ⟨rfl, rfl, rfl⟩ trivial
end Go.Proofs.Ytmnmhehddbemkaa
namespace Go.Proofs.Ytmnmhehddbemkaa
open Go Go.Eng

set_option maxRecDepth 100000 in
theorem termsG_fn (ns : List Int) (most : Nat) (hl : ns.length ≤ 9223372036854775807) (hm : most ≤ 1000) : Contract Try.prog 17 0 [] [.lst 1 (ints ns), I most] fun s post => s = .gl 0 4 (rowsT (genL ns most 0)) ∧ post = [(0, .tok 4)] := by
  refine contract_of ty_ok [5, 1, 2, 3, 4, 6, 7] Try.func17 rfl (by decide) Try.ntmps17 rfl fun z => ?_
  refine run 400 rfl ?_
  refine at_name 6 0 4 rfl (.inr rfl) ?_
  refine at_loop (fun x : List Tm × Nat × Int => x.2.1 ≤ most ∧ x.1.length = x.2.1 ∧ 0 ≤ x.2.2 ∧ x.2.2 ≤ ns.length ∧ x.1 ++ genL ns (most - x.2.1) x.2.2 = genL ns most 0)
    (fun x => [(1, I most), (5, .ptr 5 0), (6, .gl 0 4 (rowsT x.1)), (7, I x.2.1)]) (fun x => [(5, tape ns x.2.2), (0, .tok 4)]) (fun x => most - x.2.1) [1, 2, 3, 4, 6, 7]
    ([], 0, 0) ⟨by simp, rfl, by simp, by simp, by simp⟩ ⟨SVle.refl _, SVle.refl _, SVle.of_eq (by show SV.gl 0 4 [] = SV.gl 0 4 (rowsT []); rw [rowsT_nil]), SVle.refl _, trivial⟩ ⟨rfl, rfl, trivial⟩ ?_
  rintro ⟨acc, i, j⟩ ⟨a1, a2, a3, a4, a5⟩
  dsimp only at a1 a2 a3 a4 a5
  refine run 400 rfl ?_
  refine at_split 14 rfl (fun h => ?_) (fun h => ?_)
  rotate_left
  · rw [decide_eq_false_iff_not] at h
    dsimp only at h
    have e : most - i = 0 := by omega
    rw [e, genL, List.append_nil] at a5
    refine run 400 rfl ?_
    exact at_ret rfl rfl [(0, .tok 4)] ⟨by rw [← a5], rfl⟩ ⟨rfl, trivial⟩
  rw [decide_eq_true_eq] at h
  dsimp only at h
  refine run 400 rfl ?_
  refine at_metF 5 (more_fn ns j) rfl rfl rfl ?_
  refine run 400 rfl ?_
  obtain ⟨q, hq⟩ : ∃ q, most - i = q + 1 := ⟨most - i - 1, by omega⟩
  rw [hq, genL] at a5
  refine at_ifd rfl (fun h2 => ?_) (fun h2 => ?_)
  rotate_left
  · rw [if_neg h2, List.append_nil] at a5
    refine run 400 rfl ?_
    exact at_ret rfl rfl [(0, .tok 4)] ⟨by rw [← a5], rfl⟩ ⟨rfl, trivial⟩
  rw [if_pos h2] at a5
  have ht := term_fn ns hl 3 (by omega) j a3 a4
  have ht2 := genT_le ns 3 j ⟨a3, a4⟩
  generalize genT ns 3 j = u at ht ht2 a5
  obtain ⟨u, j'⟩ := u
  dsimp only at ht ht2 a5
  have hlen : (rowsT acc).length = acc.length := rowsT_len acc
  refine run 400 rfl ?_
  refine at_metF 5 ht rfl rfl rfl ?_
  refine run 400 rfl ?_
  refine at_gro (.tl 4 [tr u]) (doesG_build ty_ok _ rfl ⟨⟨rfl, rfl, _, rfl, SVles.refl _⟩, trivial⟩ rfl rfl (by decide)) ?_
  refine at_grow 0 0 4 (rowsT acc ++ [tr u]) rfl (doesU_append ty_ok rfl rfl rfl rfl rfl rfl rfl (by simp; omega) (by show _ * 56 ≤ _; simp; omega)) rfl ?_
  refine run 400 rfl ?_
  exact at_again (acc ++ [u], i + 1, j') ⟨by dsimp only; omega, by simp [a2], by dsimp only; omega, by dsimp only; omega, by dsimp only; rw [← a5, List.append_assoc, show most - (i + 1) = q by omega]; rfl⟩ (by dsimp only; omega)
    ⟨SVle.refl _, SVle.refl _, SVle.of_eq (by show SV.gl 0 4 (rowsT acc ++ [tr u]) = SV.gl 0 4 (rowsT (acc ++ [u])); rw [rowsT_app, rowsT_cons, rowsT_nil]), SVle.of_eq (by show I ((i : Int) + 1) = I ((i + 1 : Nat) : Int); rw [Int.natCast_add]; rfl), trivial⟩ ⟨rfl, rfl, trivial⟩

set_option maxRecDepth 100000
theorem rsort_len (l : List Tm) : (rsortF l).length ≤ l.length := by
  have h := cmp_rsort (l := l) (l' := rsortF l) ((rsort_ss l).1.imp fun h => by rw [ord_anti]; omega) (rsort_ss l).2
  have : ∀ (l acc : List Tm), (l.foldl addF acc).length ≤ acc.length + l.length := by
    intro l
    induction l with
    | nil => intro acc; simp
    | cons t l ih =>
      intro acc
      have := ih (addF acc t)
      have := addF_len acc t
      simp only [List.foldl_cons, List.length_cons]
      omega
  have := this l []
  simpa [rsortF] using this

theorem termSort_fn (ns : List Int) (h1 : ns.length ≤ 9223372036854775807) : Gives Try.prog 14 [.lst 1 (ints ns)] .tt := by
  have hT := terms_fn ns 20 h1 (by omega)
  have hgl := genL_gd ns 20 0 (by omega)
  have hll := genL_len ns 20 0
  generalize genL ns 20 0 = l at hT hgl hll
  have hsm : ∀ t ∈ l, Sm t := fun t ht => (hgl.1 t ht).sm
  have hS := sort_fn l (by omega) hsm
  have hR := rsort_fn l hsm (by omega)
  have hrl := rsort_len l
  obtain ⟨hss, hmem⟩ := rsort_ss l
  have hxsm : ∀ t ∈ rsortF l, Sm t := fun t ht => hsm t ((hmem t).1 ht)
  have hrr : rsortF (l ++ rsortF l) = rsortF l := by
    obtain ⟨h1, h2⟩ := rsort_ss (l ++ rsortF l)
    exact ss_ext totT h1 hss fun x => by
      rw [h2, List.mem_append, hmem, or_self]
  have hS2 := sort_fn (l ++ rsortF l) (by simp; omega) (fun t ht => (List.mem_append.1 ht).elim (hsm t) (hxsm t))
  rw [hrr] at hS2
  generalize rsortF l = x at *
  have hxl := rowsT_len x
  have hrl' := rowsT_len l
  have hAll := all_fn x hxsm (by omega)
  have hAll2 := hAll.weak (args' := [.tl 4 (rowsT x), .lst 4 (rowsT x)]) ⟨SVle.tl _ _, SVle.refl _, trivial⟩
  have hAll3 := hAll.weak (args' := [.tl 4 (rowsT x), .tl 4 (rowsT x)]) ⟨SVle.tl _ _, SVle.tl _ _, trivial⟩
  refine contract_of ty_ok [0, 1, 2, 3, 4, 5, 6, 7] Try.func14 rfl (by decide) Try.ntmps14 rfl fun z => ?_
  refine run 400 rfl ?_
  refine at_fn known37_fn rfl ?_
  refine run 400 rfl ?_
  refine at_fn hT rfl ?_
  refine run 400 rfl ?_
  refine at_fn hS rfl ?_
  refine run 400 rfl ?_
  refine at_fn hR rfl ?_
  refine at_fn hAll2 rfl ?_
  refine run 400 rfl ?_
  refine at_loop (fun i : Nat => 1 ≤ i) (fun i => [(3, .lst 4 (rowsT l)), (4, .tl 4 (rowsT x)), (5, I i)]) (fun _ => []) (fun i => x.length - i) [0, 1, 2, 3, 4, 5, 6, 7]
    1 (by omega) ⟨SVle.refl _, SVle.refl _, SVle.refl _, trivial⟩ trivial ?_
  intro i hi
  refine run 400 rfl ?_
  refine at_ifd rfl (fun g => ?_) (fun g => ?_)
  · rw [hxl] at g
    have hlt : i < x.length := by omega
    have hget := rowsT_get hlt
    have hmu := getD_mem hlt
    have hget2 := rowsT_get (show i - 1 < x.length by omega)
    have hlt2 : i - 1 < x.length := by omega
    have hmv := getD_mem hlt2
    have hord : ordT (x.getD (i - 1) .zero) (x.getD i .zero) < 0 := by
      have := List.pairwise_iff_getElem.1 hss (i - 1) i hlt2 hlt (by omega)
      rw [List.getD_eq_getElem?_getD, List.getD_eq_getElem?_getD, List.getElem?_eq_getElem hlt, List.getElem?_eq_getElem hlt2]
      exact this
    generalize x.getD i .zero = u at hget hmu hord
    generalize x.getD (i - 1) .zero = v at hget2 hmv hord
    refine run 400 rfl ?_
    refine at_drawn 11 rfl rfl [(3, .val (.rp (tr v) 0)), (7, .val (.rp (tr u) 0)), (9, .sv .tt)] [20, 21, 22] rfl
      ⟨gives_is (c := true) (tless_fn v u (hxsm v hmv)) (by simp [hord]), does_index ty_ok _ rfl rfl rfl (by omega) (show (rowsT x)[(i : Int).toNat]? = some (tr u) from hget) rfl, does_index ty_ok _ rfl rfl rfl (by omega) (show (rowsT x)[((i : Int) - 1).toNat]? = some (tr v) by rw [show ((i : Int) - 1).toNat = i - 1 by omega]; exact hget2) rfl, by constructor <;> omega⟩ ?_
    refine run 400 rfl ?_
    exact at_again (i + 1) (by omega) (by omega) ⟨SVle.refl _, SVle.refl _, SVle.of_eq (by show I ((i : Int) + 1) = I ((i + 1 : Nat) : Int); rw [Int.natCast_add]; rfl), trivial⟩ trivial
  refine run 400 rfl ?_
  refine at_gro (.tl 4 []) (doesG_build ty_ok _ rfl trivial rfl rfl (by decide)) ?_
  refine run 400 rfl ?_
  refine at_name 34 5 4 rfl (.inl rfl) ?_
  refine at_grow 5 5 4 ([] ++ rowsT l) rfl (doesU_append ty_ok rfl rfl rfl rfl rfl rfl rfl (by simp; omega) (by show _ * 56 ≤ _; simp; omega)) rfl ?_
  refine run 400 rfl ?_
  refine at_grow 5 5 4 (rowsT l ++ rowsT x) rfl (doesU_append ty_ok rfl rfl rfl rfl rfl rfl rfl (by omega) (by show _ * 56 ≤ _; omega)) rfl ?_
  refine at_deg 5 ?_
  rw [← rowsT_app]
  refine at_fn hS2 rfl ?_
  refine run 400 rfl ?_
  refine at_fn hAll3 rfl ?_
  refine run 400 rfl ?_
  exact at_ret rfl rfl [] ⟨rfl, rfl, rfl⟩ trivial
end Go.Proofs.Ytmnmhehddbemkaa
namespace Go.Proofs.Ytmnmhehddbemkaa
open Go Go.Eng
set_option maxRecDepth 100000

theorem getD_eq {l : List Tm} {i : Nat} (h : i < l.length) : l[i]? = some (l.getD i .zero) := by
  rw [List.getD_eq_getElem?_getD, List.getElem?_eq_getElem h]; rfl

theorem one_of (u v : Tm) : (if ordT u v < 0 then (1 : Int) else 0) + (if ordT v u < 0 then 1 else 0) + (if same u v then 1 else 0) = 1 := by
  rcases totT.tri u v with h | h | h
  · have h2 := ord_anti u v
    have hs : ¬ same u v = true := fun q => by rw [same_iff.1 q, ord_irr] at h; omega
    rw [if_pos h, if_neg (by omega), if_neg hs]; rfl
  · subst h
    rw [ord_irr, if_neg (by omega), if_pos (same_iff.2 rfl)]; rfl
  · have h : ordT v u < 0 := h
    have h2 := ord_anti u v
    have hs : ¬ same u v = true := fun q => by rw [same_iff.1 q, ord_irr] at h; omega
    rw [if_neg (by omega), if_pos h, if_neg hs]; rfl

theorem termOrder_fn (ns ms ks : List Int) (h1 : ns.length ≤ 9223372036854775807) (h2 : ms.length ≤ 9223372036854775807) (h3 : ks.length ≤ 9223372036854775807) : Gives Try.prog 13 [.lst 1 (ints ns), .lst 1 (ints ms), .lst 1 (ints ks)] .tt := by
  have hT := termsG_fn ns 2 h1 (by omega)
  have hgl := genL_gd ns 2 0 (by omega)
  have hll := genL_len ns 2 0
  have hA := oneT_fn ms h2
  have hB := oneT_fn ks h3
  have ga := (genT_gd ms 4 0 (by omega)).1.sm
  have gb := (genT_gd ks 4 0 (by omega)).1.sm
  have hsm : ∀ t ∈ genL ns 2 0, Sm t := fun t ht => (hgl.1 t ht).sm
  generalize genL ns 2 0 = l0 at hT hsm hll
  generalize (genT ms 4 0).1 = a at hA ga
  generalize (genT ks 4 0).1 = b at hB gb
  have hl0 := rowsT_len l0
  refine contract_of ty_ok [0, 1, 2, 3, 4, 5, 6, 7] Try.func13 rfl (by decide) Try.ntmps13 rfl fun z => ?_
  refine run 400 rfl ?_
  refine at_fn known37_fn rfl ?_
  refine run 400 rfl ?_
  refine at_callF [0] hT rfl trivial rfl rfl rfl ?_
  refine run 400 rfl ?_
  refine at_fn hA rfl ?_
  refine run 400 rfl ?_
  refine at_fn hB rfl ?_
  refine at_gro (.tl 4 [tr a, tr b]) (doesG_build ty_ok _ rfl ⟨⟨rfl, rfl, _, rfl, SVles.refl _⟩, ⟨rfl, rfl, _, rfl, SVles.refl _⟩, trivial⟩ rfl rfl (by decide)) ?_
  refine run 400 rfl ?_
  refine at_grow 0 0 4 (rowsT l0 ++ [tr a, tr b]) rfl (doesU_append ty_ok rfl rfl rfl rfl rfl rfl rfl (by simp; omega) (by show _ * 56 ≤ _; simp; omega)) rfl ?_
  refine at_deg 0 ?_
  rw [show rowsT l0 ++ [tr a, tr b] = rowsT (l0 ++ [a, b]) by rw [rowsT_app, rowsT_cons, rowsT_cons, rowsT_nil]]
  have hsm : ∀ t ∈ l0 ++ [a, b], Sm t := fun t ht => by
    rcases List.mem_append.1 ht with h | h
    · exact hsm t h
    · simp at h; rcases h with rfl | rfl; exact ga; exact gb
  have hlen : (l0 ++ [a, b]).length ≤ 10 := by simp; omega
  generalize l0 ++ [a, b] = l at hsm hlen
  have hrl := rowsT_len l
  refine run 400 rfl ?_
  refine at_loop (fun i : Nat => i ≤ l.length) (fun i => [(7, .lst 4 (rowsT l)), (8, I i)]) (fun _ => []) (fun i => l.length - i) [0, 1, 2, 3, 4, 5, 6, 7]
    0 (by omega) ⟨SVle.refl _, SVle.refl _, trivial⟩ trivial ?_
  intro i hi
  refine run 400 rfl ?_
  refine at_ifd rfl (fun g => ?_) (fun g => ?_)
  rotate_left
  · refine run 400 rfl ?_
    exact at_ret rfl rfl [] ⟨rfl, rfl, rfl⟩ trivial
  rw [hrl] at g
  have hlt : i < l.length := by omega
  have hget := rowsT_get hlt
  have hmu := hsm _ (getD_mem hlt)
  generalize l.getD i .zero = u at hget hmu
  have hgi : (rowsT l)[(i : Int).toNat]? = some (tr u) := hget
  refine run 400 rfl ?_
  refine at_loop (fun k : Nat => k ≤ l.length) (fun k => [(7, .lst 4 (rowsT l)), (8, I i), (9, I k)]) (fun _ => []) (fun k => l.length - k) [0, 1, 2, 3, 4, 5, 6, 7]
    0 (by omega) ⟨SVle.refl _, SVle.refl _, SVle.refl _, trivial⟩ trivial ?_
  intro k hk
  refine run 400 rfl ?_
  refine at_ifd rfl (fun g2 => ?_) (fun g2 => ?_)
  rotate_left
  · refine run 400 rfl ?_
    exact at_again (i + 1) (by omega) (by omega) ⟨SVle.refl _, SVle.of_eq (by show I ((i : Int) + 1) = I ((i + 1 : Nat) : Int); rw [Int.natCast_add]; rfl), trivial⟩ trivial
  rw [hrl] at g2
  have hlt2 : k < l.length := by omega
  have hget2 := rowsT_get hlt2
  have hmv := hsm _ (getD_mem hlt2)
  generalize l.getD k .zero = v at hget2 hmv
  have hgk : (rowsT l)[(k : Int).toNat]? = some (tr v) := hget2
  refine run 400 rfl ?_
  have h1 := one_of u v
  refine at_drawn 9 rfl rfl [(2, .val (.rp (tr u) 0)), (6, .val (.rp (tr v) 0)), (8, .sv (.bl (decide (ordT u v < 0))))] [20, 21, 22] rfl
    ⟨tless_fn u v hmu, does_index ty_ok _ rfl rfl rfl (by omega) hgk rfl, does_index ty_ok _ rfl rfl rfl (by omega) hgi rfl⟩ ?_
  refine run 400 rfl ?_
  refine at_join (fun n : Int => n = if ordT u v < 0 then 1 else 0) (fun n => [(7, .lst 4 (rowsT l)), (8, I i), (9, I k), (10, I n)]) (fun _ => []) [0, 1, 2, 3, 4, 5, 6, 7] ?_ ?_
  · refine at_ifd rfl (fun q => ?_) (fun q => ?_)
    · refine run 400 rfl ?_
      exact at_joined 1 (if_pos q).symm ⟨SVle.refl _, SVle.refl _, SVle.refl _, SVle.refl _, trivial⟩ trivial
    · refine run 400 rfl ?_
      exact at_joined 0 (if_neg q).symm ⟨SVle.refl _, SVle.refl _, SVle.refl _, SVle.refl _, trivial⟩ trivial
  intro n1 hn1
  have hb1 : 0 ≤ n1 ∧ n1 ≤ 1 := by rw [hn1]; split <;> omega
  refine run 400 rfl ?_
  refine at_drawn 9 rfl rfl [(2, .val (.rp (tr v) 0)), (6, .val (.rp (tr u) 0)), (8, .sv (.bl (decide (ordT v u < 0))))] [20, 21, 22] rfl
    ⟨tless_fn v u hmv, does_index ty_ok _ rfl rfl rfl (by omega) hgi rfl, does_index ty_ok _ rfl rfl rfl (by omega) hgk rfl⟩ ?_
  refine run 400 rfl ?_
  refine at_join (fun n : Int => n = n1 + if ordT v u < 0 then 1 else 0) (fun n => [(7, .lst 4 (rowsT l)), (8, I i), (9, I k), (10, I n)]) (fun _ => []) [0, 1, 2, 3, 4, 5, 6, 7] ?_ ?_
  · refine at_ifd rfl (fun q => ?_) (fun q => ?_)
    · refine run 400 rfl ?_
      exact at_joined (n1 + 1) (by rw [if_pos q]) ⟨SVle.refl _, SVle.refl _, SVle.refl _, SVle.refl _, trivial⟩ trivial
    · refine run 400 rfl ?_
      exact at_joined n1 (by rw [if_neg q]; omega) ⟨SVle.refl _, SVle.refl _, SVle.refl _, SVle.refl _, trivial⟩ trivial
  intro n2 hn2
  have hb2 : 0 ≤ n2 ∧ n2 ≤ 2 := by rw [hn2]; split <;> omega
  refine run 400 rfl ?_
  refine at_drawn 9 rfl rfl [(2, .val (.rp (tr u) 0)), (6, .val (.rp (tr v) 0)), (8, .sv (.bl (same u v)))] [20, 21, 22] rfl
    ⟨tsame_fn u v hmu, does_index ty_ok _ rfl rfl rfl (by omega) hgk rfl, does_index ty_ok _ rfl rfl rfl (by omega) hgi rfl⟩ ?_
  refine run 400 rfl ?_
  refine at_join (fun n : Int => n = n2 + if same u v then 1 else 0) (fun n => [(7, .lst 4 (rowsT l)), (8, I i), (9, I k), (10, I n)]) (fun _ => []) [0, 1, 2, 3, 4, 5, 6, 7] ?_ ?_
  · refine at_if rfl (fun q => ?_) (fun q => ?_)
    · refine run 400 rfl ?_
      exact at_joined (n2 + 1) (by rw [if_pos q]) ⟨SVle.refl _, SVle.refl _, SVle.refl _, SVle.refl _, trivial⟩ trivial
    · refine run 400 rfl ?_
      exact at_joined n2 (by rw [if_neg (by simp [q])]; omega) ⟨SVle.refl _, SVle.refl _, SVle.refl _, SVle.refl _, trivial⟩ trivial
  intro n3 hn3
  obtain rfl : n3 = 1 := by rw [hn3, hn2, hn1]; exact h1
  refine run 400 rfl ?_
  refine at_if rfl (fun q => by simp at q) (fun _ => ?_)
  refine run 400 rfl ?_
  refine at_loop (fun j : Nat => j ≤ l.length) (fun j => [(7, .lst 4 (rowsT l)), (8, I i), (9, I k), (11, I j)]) (fun _ => []) (fun j => l.length - j) [0, 1, 2, 3, 4, 5, 6, 7]
    0 (by omega) ⟨SVle.refl _, SVle.refl _, SVle.refl _, SVle.refl _, trivial⟩ trivial ?_
  intro j hj
  refine run 400 rfl ?_
  refine at_ifd rfl (fun g3 => ?_) (fun g3 => ?_)
  rotate_left
  · refine run 400 rfl ?_
    exact at_again (k + 1) (by omega) (by omega) ⟨SVle.refl _, SVle.refl _, SVle.of_eq (by show I ((k : Int) + 1) = I ((k + 1 : Nat) : Int); rw [Int.natCast_add]; rfl), trivial⟩ trivial
  rw [hrl] at g3
  have hlt3 : j < l.length := by omega
  have hget3 := rowsT_get hlt3
  generalize l.getD j .zero = w at hget3
  have hgj : (rowsT l)[(j : Int).toNat]? = some (tr w) := hget3
  have hstep : ∀ (o : List (Nat × SV)) , True := fun _ => trivial
  refine run 400 rfl ?_
  by_cases q1 : ordT u v < 0
  · by_cases q2 : ordT v w < 0
    · refine at_drawn 32 rfl rfl [(2, .val (.rp (tr u) 0)), (6, .val (.rp (tr v) 0)), (8, .sv .tt), (12, .val (.rp (tr v) 0)), (16, .val (.rp (tr w) 0)), (18, .sv .tt), (23, .val (.rp (tr u) 0)), (27, .val (.rp (tr w) 0)), (29, .sv .tt)] [20, 21, 22] rfl
        ⟨gives_is (c := true) (tless_fn u w hmu) (by simp [ord_trans q1 q2]), does_index ty_ok _ rfl rfl rfl (by omega) hgj rfl, does_index ty_ok _ rfl rfl rfl (by omega) hgi rfl, gives_is (c := true) (tless_fn v w hmv) (by simp [q2]), does_index ty_ok _ rfl rfl rfl (by omega) hgj rfl, does_index ty_ok _ rfl rfl rfl (by omega) hgk rfl, gives_is (c := true) (tless_fn u v hmu) (by simp [q1]), does_index ty_ok _ rfl rfl rfl (by omega) hgk rfl, does_index ty_ok _ rfl rfl rfl (by omega) hgi rfl⟩ ?_
      refine run 400 rfl ?_
      exact at_again (j + 1) (by omega) (by omega) ⟨SVle.refl _, SVle.refl _, SVle.refl _, SVle.of_eq (by show I ((j : Int) + 1) = I ((j + 1 : Nat) : Int); rw [Int.natCast_add]; rfl), trivial⟩ trivial
    · refine at_drawn 32 rfl rfl [(2, .val (.rp (tr u) 0)), (6, .val (.rp (tr v) 0)), (8, .sv .tt), (12, .val (.rp (tr v) 0)), (16, .val (.rp (tr w) 0)), (18, .sv .ff)] [20, 21, 22] rfl
        ⟨gives_is (c := false) (tless_fn v w hmv) (by simp [q2]), does_index ty_ok _ rfl rfl rfl (by omega) hgj rfl, does_index ty_ok _ rfl rfl rfl (by omega) hgk rfl, gives_is (c := true) (tless_fn u v hmu) (by simp [q1]), does_index ty_ok _ rfl rfl rfl (by omega) hgk rfl, does_index ty_ok _ rfl rfl rfl (by omega) hgi rfl⟩ ?_
      refine run 400 rfl ?_
      exact at_again (j + 1) (by omega) (by omega) ⟨SVle.refl _, SVle.refl _, SVle.refl _, SVle.of_eq (by show I ((j : Int) + 1) = I ((j + 1 : Nat) : Int); rw [Int.natCast_add]; rfl), trivial⟩ trivial
  · refine at_drawn 32 rfl rfl [(2, .val (.rp (tr u) 0)), (6, .val (.rp (tr v) 0)), (8, .sv .ff)] [20, 21, 22] rfl
      ⟨gives_is (c := false) (tless_fn u v hmu) (by simp [q1]), does_index ty_ok _ rfl rfl rfl (by omega) hgk rfl, does_index ty_ok _ rfl rfl rfl (by omega) hgi rfl⟩ ?_
    refine run 400 rfl ?_
    exact at_again (j + 1) (by omega) (by omega) ⟨SVle.refl _, SVle.refl _, SVle.refl _, SVle.of_eq (by show I ((j : Int) + 1) = I ((j + 1 : Nat) : Int); rw [Int.natCast_add]; rfl), trivial⟩ trivial
end Go.Proofs.Ytmnmhehddbemkaa
namespace Go.Proofs.Ytmnmhehddbemkaa
open Go Go.Eng
set_option maxRecDepth 100000

/-- The document's word for it. -/
theorem can31F_fn (l : List Tm) (t : Tm) (hm : ∀ u ∈ l, mayF u = true) (hl : l.length ≤ 1000000) (ht : mayF t = true) : Gives Try.prog 31 [.lst 4 (rowsT l), t.sv] (.bl (madeT (openF l) t)) := by
  have := can31_fn l t hm hl ht
  rw [made_congr (openM_mem fun t ht => mayF_gd (hm t ht)) t] at this
  exact this

abbrev pT : Tm := .mk 7 0 .empty [n1, aa]
abbrev hN : Tm := .mk 3 0 .empty [n1]

theorem may_pT : mayF pT = true := may_T2 7 n1 aa (by omega) (may_allR may_n1) (may_allR may_aa) (by simp [szT, szL]) (by simp [dpT, dpL]) (by simp [dpT, dpL])
theorem may_hN : mayF hN = true := may_T1 3 n1 (by omega) (may_allR may_n1) (by simp [szT, szL]) (by simp [dpT, dpL])
theorem ord_lt {a b : Tm} (h : a.k < b.k) : ordT a b < 0 := by
  have e : sgI a.k b.k = -1 := by unfold sgI; rw [if_pos h]
  rw [ordT_lex, e, orI_ne (by decide)]
  decide
theorem open_pT : openF [pT] = [aa, n1, pT] := by
  have hg : ∀ t ∈ [pT], Gd t := fun t ht => by rw [List.mem_singleton] at ht; subst ht; exact mayF_gd may_pT
  have hp := openF_P hg
  have h1 : pT ∈ openF [pT] := hp.has _ (by simp)
  have hparts : parts pT = [n1, aa] := by rw [parts, if_pos rfl]
  have h2 : n1 ∈ openF [pT] := hp.closed _ h1 n1 (by rw [hparts]; simp)
  have h3 : aa ∈ openF [pT] := hp.closed _ h1 aa (by rw [hparts]; simp)
  refine ss_ext totT (openF_ss _) ?_ fun x => ⟨fun hx => ?_, fun hx => ?_⟩
  · refine List.pairwise_cons.2 ⟨fun x hx => ?_, List.pairwise_cons.2 ⟨fun x hx => ?_, List.pairwise_singleton _ _⟩⟩
    · simp only [List.mem_cons, List.not_mem_nil, or_false] at hx
      rcases hx with rfl | rfl <;> exact ord_lt (by decide)
    · rw [List.mem_singleton] at hx; subst hx; exact ord_lt (by decide)
  · refine hp.least (· ∈ [aa, n1, pT]) (fun y hy => by rw [List.mem_singleton] at hy; subst hy; simp) (fun y hy p hpp => ?_) x hx
    simp only [List.mem_cons, List.not_mem_nil, or_false] at hy ⊢
    rcases hy with rfl | rfl | rfl
    · rw [parts] at hpp; simp at hpp
    · rw [parts] at hpp; simp at hpp
    · rw [hparts] at hpp
      simp only [List.mem_cons, List.not_mem_nil, or_false] at hpp
      rcases hpp with rfl | rfl <;> simp
  · simp only [List.mem_cons, List.not_mem_nil, or_false] at hx
    rcases hx with rfl | rfl | rfl
    · exact h3
    · exact h2
    · exact h1
theorem among_nil (t : Tm) : amongF [] t = false := rfl
theorem open_nil : openF [] = [] := rfl

theorem known28_fn : Gives Try.prog 28 [] .tt := by
  have k1 : Gives Try.prog 29 [.tl 4 [tr pT]] (.tl 4 (rowsT [aa, n1, pT])) := by
    have := open29_fn [pT] (by simpa using may_pT) (by simp [szT, szL])
    rw [open_pT] at this
    exact this.weak ⟨by rw [rowsT_cons, rowsT_nil]; exact SVle.tl _ _, trivial⟩
  have k2 : Gives Try.prog 31 [.tl 0 [], aa.sv] .tt := (gives_is (c := true) (can31F_fn [] aa (by simp) (by simp) may_aa) (by rw [madeT]; rfl)).weak ⟨SVle.nils, SVle.refl _, trivial⟩
  have k3 : Gives Try.prog 31 [.tl 0 [], n1.sv] .ff := (gives_is (c := false) (can31F_fn [] n1 (by simp) (by simp) may_n1) (by rw [madeT, open_nil, among_nil]; rfl)).weak ⟨SVle.nils, SVle.refl _, trivial⟩
  have hl3 : ∀ u ∈ [aa, n1, pT], mayF u = true := by
    intro u hu
    simp only [List.mem_cons, List.not_mem_nil, or_false] at hu
    rcases hu with rfl | rfl | rfl
    · exact may_aa
    · exact may_n1
    · exact may_pT
  have k4 : Gives Try.prog 31 [.tl 4 (rowsT [aa, n1, pT]), hN.sv] .tt := (gives_is (c := true) (can31F_fn [aa, n1, pT] hN hl3 (by simp) may_hN) (by
    have hn : n1 ∈ openF [aa, n1, pT] := (openF_P fun t ht => mayF_gd (hl3 t ht)).has _ (by simp)
    rw [madeT, madeL, madeL, made_in hn]
    simp)).weak ⟨SVle.tl _ _, SVle.refl _, trivial⟩
  have k5 : Gives Try.prog 31 [.tl 4 [tr hN], n1.sv] .ff := (gives_is (c := false) (can31F_fn [hN] n1 (by simpa using may_hN) (by simp) may_n1) (by
    have hn : amongF (openF [hN]) n1 = false := by
      cases e : amongF (openF [hN]) n1 with
      | false => rfl
      | true =>
        have := (openF_P (l := [hN]) (by intro t ht; rw [List.mem_singleton] at ht; subst ht; exact mayF_gd may_hN)).least (· = hN) (by simp) (fun y hy p hp => by subst hy; rw [parts] at hp; simp at hp) n1 (among_iff.1 e)
        cases this
    rw [madeT, hn]
    rfl)).weak ⟨by rw [rowsT_cons, rowsT_nil]; exact SVle.tl _ _, SVle.refl _, trivial⟩
  have hrows : rowsT [aa, n1, pT] = [tr aa, tr n1, tr pT] := by rw [rowsT_cons, rowsT_cons, rowsT_cons, rowsT_nil]
  rw [hrows] at k1 k4
  refine contract_of ty_ok [0, 1, 2, 3, 4, 5, 6, 7] Try.func28 rfl (by decide) Try.ntmps28 rfl fun z => ?_
  refine run 400 rfl ?_
  refine at_fn (A_fn _) rfl ?_
  refine at_fn (N_fn 1) rfl ?_
  refine run 400 rfl ?_
  refine at_gro (.tl 4 [tr n1, tr aa]) (doesG_build ty_ok _ rfl ⟨⟨rfl, rfl, _, rfl, SVles.refl _⟩, ⟨rfl, rfl, _, rfl, SVles.refl _⟩, trivial⟩ rfl rfl (by decide)) ?_
  refine at_fn (T2_fn 7 n1 aa) rfl ?_
  refine at_gro (.tl 4 [tr pT]) (doesG_build ty_ok _ rfl ⟨⟨rfl, rfl, _, rfl, SVles.refl _⟩, trivial⟩ rfl rfl (by decide)) ?_
  refine at_fn k1 rfl ?_
  refine run 400 rfl ?_
  refine at_drawn 28 rfl rfl [(3, .yes), (5, .sv .tt), (9, .sv .ff), (15, .gro (.tl 4 [tr n1])), (16, .sv hN.sv), (17, .sv .tt), (21, .gro (.tl 4 [tr n1])), (22, .sv hN.sv), (23, .gro (.tl 4 [tr hN])), (25, .sv .ff)] [20, 21, 22] rfl
    ⟨k5, doesG_build ty_ok _ rfl ⟨⟨rfl, rfl, _, rfl, SVles.refl _⟩, trivial⟩ rfl rfl (by decide), T1_fn 3 n1, doesG_build ty_ok _ rfl ⟨⟨rfl, rfl, _, rfl, SVles.refl _⟩, trivial⟩ rfl rfl (by decide), k4, T1_fn 3 n1, doesG_build ty_ok _ rfl ⟨⟨rfl, rfl, _, rfl, SVles.refl _⟩, trivial⟩ rfl rfl (by decide), k3, k2, rfl⟩ ?_
  refine run 400 rfl ?_
  exact at_ret rfl rfl [] ⟨rfl, rfl, rfl⟩ trivial

theorem knowAll_fn (ns ms : List Int) (h1 : ns.length ≤ 9223372036854775807) (h2 : ms.length ≤ 9223372036854775807) : Gives Try.prog 7 [.lst 1 (ints ns), .lst 1 (ints ms)] .tt := by
  have hT := terms_fn ns 12 h1 (by omega)
  have hlm := genL_may ns 12 0 (by omega)
  have hll := genL_len ns 12 0
  generalize genL ns 12 0 = l at hT hlm hll
  have hg : ∀ t ∈ l, Gd t := fun t ht => mayF_gd (hlm t ht)
  have hsz := szL_may hlm
  have hU := termsG_fn ms 8 h2 (by omega)
  have hum := genL_may ms 8 0 (by omega)
  have hul := genL_len ms 8 0
  generalize genL ms 8 0 = m0 at hU hum hul
  have hO := oneT_fn ms h2
  have hom := gen4_may ms
  generalize (genT ms 4 0).1 = one at hO hom
  have kO := open29_fn l hlm (by omega)
  have kR := open_fn l hg (by omega)
  have kc := fun t ht => can31F_fn l t hlm (by omega) ht
  have kr := fun (t : Tm) (ht : mayF t = true) => can_fn l t hg (by omega) (mayF_gd ht).sm
  have hOP := openF_P hg
  have hlenF := hOP.len
  have hFm := openF_may hlm
  generalize openF l = F at kO kR kc kr hlenF hFm
  have hAll := (all_fn F (fun x hx => (mayF_gd (hFm x hx)).sm) (by omega)).weak (args' := [.tl 4 (rowsT F), .lst 4 (rowsT F)]) ⟨SVle.tl _ _, SVle.refl _, trivial⟩
  have hm0l := rowsT_len m0
  refine contract_of ty_ok [0, 1, 2, 3, 4, 5, 6, 7] Try.func7 rfl (by decide) Try.ntmps7 rfl fun z => ?_
  refine run 400 rfl ?_
  refine at_fn known28_fn rfl ?_
  refine run 400 rfl ?_
  refine at_fn hT rfl ?_
  refine run 400 rfl ?_
  refine at_fn kO rfl ?_
  refine run 400 rfl ?_
  refine at_fn kR rfl ?_
  refine at_fn hAll rfl ?_
  refine run 400 rfl ?_
  refine at_callF [0] hU rfl trivial rfl rfl rfl ?_
  refine run 400 rfl ?_
  refine at_fn hO rfl ?_
  refine at_gro (.tl 4 [tr one]) (doesG_build ty_ok _ rfl ⟨⟨rfl, rfl, _, rfl, SVles.refl _⟩, trivial⟩ rfl rfl (by decide)) ?_
  refine at_grow 0 0 4 (rowsT m0 ++ [tr one]) rfl (doesU_append ty_ok rfl rfl rfl rfl rfl rfl rfl (by simp; omega) (by show _ * 56 ≤ _; simp; omega)) rfl ?_
  refine at_deg 0 ?_
  rw [show rowsT m0 ++ [tr one] = rowsT (m0 ++ [one]) by rw [rowsT_app, rowsT_cons, rowsT_nil]]
  have hMm : ∀ t ∈ m0 ++ [one], mayF t = true := fun t ht => by
    rcases List.mem_append.1 ht with h | h
    · exact hum t h
    · rw [List.mem_singleton] at h; subst h; exact hom
  have hMl : (m0 ++ [one]).length ≤ 10 := by simp; omega
  generalize m0 ++ [one] = M at hMm hMl
  have hrl := rowsT_len M
  refine run 400 rfl ?_
  refine at_loop (fun i : Nat => i ≤ M.length) (fun i => [(5, .lst 4 (rowsT l)), (23, .lst 4 (rowsT M)), (24, I (rowsT M).length), (25, I i)]) (fun _ => []) (fun i => M.length - i) [0, 1, 2, 3, 4, 5, 6, 7]
    0 (by omega) ⟨SVle.refl _, SVle.refl _, SVle.refl _, SVle.refl _, trivial⟩ trivial ?_
  intro i hi
  refine run 400 rfl ?_
  refine at_ifd rfl (fun g => ?_) (fun g => ?_)
  rotate_left
  · refine run 400 rfl ?_
    exact at_ret rfl rfl [] ⟨rfl, rfl, rfl⟩ trivial
  rw [hrl] at g
  have hlt : i < M.length := by omega
  have hget := rowsT_get hlt
  have hmt := hMm _ (getD_mem hlt)
  generalize M.getD i .zero = t at hget hmt
  refine run 400 rfl ?_
  refine at_val (.rp (tr t) 0) (does_index ty_ok _ rfl rfl rfl (by omega) (show (rowsT M)[(i : Int).toNat]? = some (tr t) from hget) rfl) ?_
  refine run 400 rfl ?_
  refine at_drawn 7 rfl rfl [(2, .sv (.bl (madeT F t))), (5, .sv (.bl (madeT F t)))] [20, 21, 22] rfl ⟨kr t hmt, kc t hmt⟩ ?_
  refine run 400 rfl ?_
  refine at_if rfl (fun q => by simp at q) (fun _ => ?_)
  refine run 400 rfl ?_
  exact at_again (i + 1) (by omega) (by omega) ⟨SVle.refl _, SVle.refl _, SVle.refl _, SVle.of_eq (by show I ((i : Int) + 1) = I ((i + 1 : Nat) : Int); rw [Int.natCast_add]; rfl), trivial⟩ trivial
end Go.Proofs.Ytmnmhehddbemkaa
namespace Go.Proofs.Ytmnmhehddbemkaa
open Go Go.Eng
set_option maxRecDepth 100000

theorem knowGrows_fn (ns ms ks : List Int) (h1 : ns.length ≤ 9223372036854775807) (h2 : ms.length ≤ 9223372036854775807) (h3 : ks.length ≤ 9223372036854775807) : Gives Try.prog 8 [.lst 1 (ints ns), .lst 1 (ints ms), .lst 1 (ints ks)] .tt := by
  have hT := terms_fn ns 10 h1 (by omega)
  have hlm := genL_may ns 10 0 (by omega)
  have hll := genL_len ns 10 0
  generalize genL ns 10 0 = l at hT hlm hll
  have hA := oneT_fn ms h2
  have htm := gen4_may ms
  generalize (genT ms 4 0).1 = t at hA htm
  have hB := oneT_fn ks h3
  have hum := gen4_may ks
  generalize (genT ks 4 0).1 = u at hB hum
  have hmm : ∀ x ∈ l ++ [u], mayF x = true := fun x hx => by
    rcases List.mem_append.1 hx with h | h
    · exact hlm x h
    · rw [List.mem_singleton] at h; subst h; exact hum
  have k1 := can31_fn l t hlm (by omega) htm
  have k2 := can31_fn (l ++ [u]) t hmm (by simp; omega) htm
  have k3 := can31_fn l u hlm (by omega) hum
  have hmono : madeT (openM l) t = true → madeT (openM (l ++ [u])) t = true := made_mono fun x hx => by simp [hx]
  have hadds : madeT (openM l) u = true → madeT (openM (l ++ [u])) t = madeT (openM l) t := fun h => made_adds h t
  have hrl := rowsT_len l
  have hrows : rowsT (l ++ [u]) = [] ++ rowsT l ++ [tr u] := by rw [rowsT_app, rowsT_cons, rowsT_nil]; rfl
  rw [hrows] at k2
  generalize madeT (openM l) t = b1 at k1 hmono hadds
  generalize madeT (openM (l ++ [u])) t = b2 at k2 hmono hadds
  generalize madeT (openM l) u = b3 at k3 hadds
  refine contract_of ty_ok [0, 1, 2, 3, 4, 5, 6, 7] Try.func8 rfl (by decide) Try.ntmps8 rfl fun z => ?_
  refine run 400 rfl ?_
  refine at_fn known28_fn rfl ?_
  refine run 400 rfl ?_
  refine at_fn hT rfl ?_
  refine run 400 rfl ?_
  refine at_fn hA rfl ?_
  refine run 400 rfl ?_
  refine at_fn hB rfl ?_
  refine run 400 rfl ?_
  refine at_drawn 6 rfl rfl [(0, .gro (.tl 4 [])), (2, .tok 4 ([] ++ rowsT l) (some 5)), (4, .gro (.tl 4 [tr u])), (5, .use 20 4 ([] ++ rowsT l ++ [tr u]))] [20, 21, 22] rfl
    ⟨doesU_append ty_ok rfl rfl rfl rfl rfl rfl rfl (by simp; omega) (by show _ * 56 ≤ _; simp; omega), doesG_build ty_ok _ rfl ⟨⟨rfl, rfl, _, rfl, SVles.refl _⟩, trivial⟩ rfl rfl (by decide), doesT_append ty_ok rfl rfl rfl rfl rfl rfl rfl (by simp; omega) (by show _ * 56 ≤ _; simp; omega), doesG_build ty_ok _ rfl trivial rfl rfl (by decide)⟩ ?_
  refine run 400 rfl ?_
  refine at_fn k1 rfl ?_
  refine run 400 rfl ?_
  have fin : ∀ own : List (Nat × SO), True := fun _ => trivial
  have last : ∀ {env : List (Nat × SV)} {own : List (Nat × SO)}, True := trivial
  cases b1 with
  | true =>
    obtain rfl : b2 = true := hmono rfl
    refine at_true 28 rfl rfl ?_
    refine run 400 rfl ?_
    refine at_fn k2 rfl ?_
    refine run 400 rfl ?_
    refine at_if rfl (fun q => by simp at q) (fun _ => ?_)
    refine run 400 rfl ?_
    cases b3 with
    | true =>
      refine at_drawn 13 rfl rfl [(2, .sv .tt), (7, .sv (.bl true)), (10, .sv (.bl true))] [20, 21, 22] rfl ⟨k1, k2, gives_is (c := true) k3 rfl⟩ ?_
      refine run 400 rfl ?_
      refine at_true 6 rfl (by rfl) ?_
      exact at_ret rfl rfl [] ⟨rfl, rfl, rfl⟩ trivial
    | false =>
      refine at_drawn 13 rfl rfl [(2, .sv .ff)] [20, 21, 22] rfl (gives_is (c := false) k3 rfl) ?_
      refine run 400 rfl ?_
      exact at_ret rfl rfl [] ⟨rfl, rfl, rfl⟩ trivial
  | false =>
    refine at_false 28 rfl rfl ?_
    refine run 400 rfl ?_
    cases b3 with
    | true =>
      obtain rfl : b2 = false := hadds rfl
      refine at_drawn 13 rfl rfl [(2, .sv .tt), (7, .sv (.bl false)), (10, .sv (.bl false))] [20, 21, 22] rfl ⟨k1, k2, gives_is (c := true) k3 rfl⟩ ?_
      refine run 400 rfl ?_
      refine at_true 6 rfl (by rfl) ?_
      exact at_ret rfl rfl [] ⟨rfl, rfl, rfl⟩ trivial
    | false =>
      refine at_drawn 13 rfl rfl [(2, .sv .ff)] [20, 21, 22] rfl (gives_is (c := false) k3 rfl) ?_
      refine run 400 rfl ?_
      exact at_ret rfl rfl [] ⟨rfl, rfl, rfl⟩ trivial
end Go.Proofs.Ytmnmhehddbemkaa
namespace Go.Proofs.Ytmnmhehddbemkaa
open Go Go.Eng
set_option maxRecDepth 100000

theorem knowOpened_fn (ns : List Int) (h1 : ns.length ≤ 9223372036854775807) : Gives Try.prog 9 [.lst 1 (ints ns)] .tt := by
  have hT := terms_fn ns 12 h1 (by omega)
  have hlm := genL_may ns 12 0 (by omega)
  have hll := genL_len ns 12 0
  generalize genL ns 12 0 = l at hT hlm hll
  have hg : ∀ t ∈ l, Gd t := fun t ht => mayF_gd (hlm t ht)
  have hsz := szL_may hlm
  have kO := open29_fn l hlm (by omega)
  have hOP := openF_P hg
  have hFm := openF_may hlm
  have kc : ∀ t, mayF t = true → t ∈ openF l → Gives Try.prog 31 [.lst 4 (rowsT l), t.sv] .tt := fun t ht hm => gives_is (c := true) (can31F_fn l t hlm (by omega) ht) (made_in hm)
  have hFF := openF_open hlm
  have hlenF := hOP.len
  have hhas := hOP.has
  have hcl := hOP.closed
  generalize openF l = F at kO kc hFF hlenF hFm hhas hcl
  have hFsz := szL_may hFm
  have kF := (open29_fn F hFm (by omega)).weak (args' := [.tl 4 (rowsT F)]) ⟨SVle.tl _ _, trivial⟩
  rw [hFF] at kF
  have hFs : ∀ x ∈ F, Sm x := fun x hx => (mayF_gd (hFm x hx)).sm
  have hAll := (all_fn F hFs (by omega)).weak (args' := [.tl 4 (rowsT F), .tl 4 (rowsT F)]) ⟨SVle.tl _ _, SVle.tl _ _, trivial⟩
  have kA : ∀ t, t ∈ F → Gives Try.prog 32 [.tl 4 (rowsT F), t.sv] .tt := fun t ht => (gives_is (c := true) (among_fn F t hFs (by omega)) (among_iff.2 ht)).weak ⟨SVle.tl _ _, SVle.refl _, trivial⟩
  have hrl := rowsT_len l
  have hrF := rowsT_len F
  refine contract_of ty_ok [0, 1, 2, 3, 4, 5, 6, 7] Try.func9 rfl (by decide) Try.ntmps9 rfl fun z => ?_
  refine run 400 rfl ?_
  refine at_fn known28_fn rfl ?_
  refine run 400 rfl ?_
  refine at_fn hT rfl ?_
  refine run 400 rfl ?_
  refine at_fn kO rfl ?_
  refine run 400 rfl ?_
  refine at_loop (fun i : Nat => i ≤ l.length) (fun i => [(3, .lst 4 (rowsT l)), (4, .tl 4 (rowsT F)), (5, I i)]) (fun _ => []) (fun i => l.length - i) [0, 1, 2, 3, 4, 5, 6, 7]
    0 (by omega) ⟨SVle.refl _, SVle.refl _, SVle.refl _, trivial⟩ trivial ?_
  intro i hi
  refine run 400 rfl ?_
  refine at_ifd rfl (fun g => ?_) (fun g => ?_)
  · rw [hrl] at g
    have hlt : i < l.length := by omega
    have hget := rowsT_get hlt
    have hmt := hhas _ (getD_mem hlt)
    generalize l.getD i .zero = t at hget hmt
    refine run 400 rfl ?_
    refine at_val (.rp (tr t) 0) (does_index ty_ok _ rfl rfl rfl (by omega) (show (rowsT l)[(i : Int).toNat]? = some (tr t) from hget) rfl) ?_
    refine run 400 rfl ?_
    refine at_fn (kA t hmt) rfl ?_
    refine run 400 rfl ?_
    exact at_again (i + 1) (by omega) (by omega) ⟨SVle.refl _, SVle.refl _, SVle.of_eq (by show I ((i : Int) + 1) = I ((i + 1 : Nat) : Int); rw [Int.natCast_add]; rfl), trivial⟩ trivial
  refine run 400 rfl ?_
  refine at_loop (fun i : Nat => i ≤ F.length) (fun i => [(3, .lst 4 (rowsT l)), (4, .tl 4 (rowsT F)), (6, I i)]) (fun _ => []) (fun i => F.length - i) [0, 1, 2, 3, 4, 5, 6, 7]
    0 (by omega) ⟨SVle.refl _, SVle.refl _, SVle.refl _, trivial⟩ trivial ?_
  clear i hi g
  intro i hi
  refine run 400 rfl ?_
  refine at_ifd rfl (fun g => ?_) (fun g => ?_)
  rotate_left
  · refine run 400 rfl ?_
    refine at_fn kF rfl ?_
    refine run 400 rfl ?_
    refine at_fn hAll rfl ?_
    refine run 400 rfl ?_
    exact at_ret rfl rfl [] ⟨rfl, rfl, rfl⟩ trivial
  rw [hrF] at g
  have hlt : i < F.length := by omega
  have hget0 := rowsT_get hlt
  have hmu := getD_mem hlt
  generalize F.getD i .zero = u at hget0 hmu
  have hget : (rowsT F)[(i : Int).toNat]? = some (tr u) := hget0
  have kcu := kc u (hFm u hmu) hmu
  have hgu := mayF_gd (hFm u hmu)
  have hpu := hcl u hmu
  have fin : ∀ {env : List (Nat × SV)}, True := trivial
  obtain ⟨k, n, s, kl⟩ := u
  have hk := hgu.ks.1
  refine run 400 rfl ?_
  refine at_val (.rp (tr (.mk k n s kl)) 0) (does_index ty_ok _ rfl rfl rfl (by omega) hget rfl) ?_
  refine run 400 rfl ?_
  by_cases h7 : k = 7
  · subst h7
    obtain ⟨a, b, rfl⟩ : ∃ a b, kl = [a, b] := by
      have h2 : kl.length = 2 := by have h2 : kidsF 7 = 2 := rfl; omega
      match kl, h2 with
      | [a, b], _ => exact ⟨a, b, rfl⟩
    have hparts : parts (.mk 7 n s [a, b]) = [a, b] := by rw [parts, if_pos rfl]
    rw [hparts] at hpu
    have ka := kA a (hpu a (by simp))
    have kb := kA b (hpu b (by simp))
    have hr2 : rowsT [a, b] = [tr a, tr b] := by rw [rowsT_cons, rowsT_cons, rowsT_nil]
    have hl2 := rowsT_len [a, b]
    refine at_true 38 rfl rfl ?_
    refine run 400 rfl ?_
    refine at_val (.rp (tr (.mk 7 n s [a, b])) 0) (does_index ty_ok _ rfl rfl rfl (by omega) hget rfl) ?_
    refine run 400 rfl ?_
    refine at_false 46 rfl (by show (((rowsT [a, b]).length : Int) != 2) = false; rw [hl2]; rfl) ?_
    refine run 400 rfl ?_
    refine at_val (.rp (tr (.mk 7 n s [a, b])) 0) (does_index ty_ok _ rfl rfl rfl (by omega) hget rfl) ?_
    refine run 400 rfl ?_
    refine at_val (.rp (tr a) 0) (does_index ty_ok _ rfl rfl rfl (by omega) (show (rowsT [a, b])[(0 : Int).toNat]? = some (tr a) by rw [hr2]; rfl) rfl) ?_
    refine run 400 rfl ?_
    refine at_fn ka rfl ?_
    refine run 400 rfl ?_
    refine at_val (.rp (tr (.mk 7 n s [a, b])) 0) (does_index ty_ok _ rfl rfl rfl (by omega) hget rfl) ?_
    refine run 400 rfl ?_
    refine at_val (.rp (tr b) 0) (does_index ty_ok _ rfl rfl rfl (by omega) (show (rowsT [a, b])[(1 : Int).toNat]? = some (tr b) by rw [hr2]; rfl) rfl) ?_
    refine run 400 rfl ?_
    refine at_fn kb rfl ?_
    refine run 400 rfl ?_
    refine at_val (.rp (tr (.mk 7 n s [a, b])) 0) (does_index ty_ok _ rfl rfl rfl (by omega) hget rfl) ?_
    refine run 400 rfl ?_
    refine at_false 78 rfl rfl ?_
    refine run 400 rfl ?_
    refine at_val (.rp (tr (.mk 7 n s [a, b])) 0) (does_index ty_ok _ rfl rfl rfl (by omega) hget rfl) ?_
    refine run 400 rfl ?_
    refine at_fn kcu rfl ?_
    refine run 400 rfl ?_
    exact at_again (i + 1) (by omega) (by omega) ⟨SVle.refl _, SVle.refl _, SVle.of_eq (by show I ((i : Int) + 1) = I ((i + 1 : Nat) : Int); rw [Int.natCast_add]; rfl), trivial⟩ trivial
  refine at_false 38 rfl (by simpa using h7) ?_
  refine run 400 rfl ?_
  refine at_val (.rp (tr (.mk k n s kl)) 0) (does_index ty_ok _ rfl rfl rfl (by omega) hget rfl) ?_
  refine run 400 rfl ?_
  by_cases h6 : k = 6
  · subst h6
    obtain ⟨a, b, rfl⟩ : ∃ a b, kl = [a, b] := by
      have h2 : kl.length = 2 := by have h2 : kidsF 6 = 2 := rfl; omega
      match kl, h2 with
      | [a, b], _ => exact ⟨a, b, rfl⟩
    have hparts : parts (.mk 6 n s [a, b]) = [b] := by rw [parts, if_neg (by decide), if_pos rfl]; rfl
    rw [hparts] at hpu
    have kb := kA b (hpu b (by simp))
    have hr2 : rowsT [a, b] = [tr a, tr b] := by rw [rowsT_cons, rowsT_cons, rowsT_nil]
    have hl2 := rowsT_len [a, b]
    refine at_true 78 rfl rfl ?_
    refine run 400 rfl ?_
    refine at_val (.rp (tr (.mk 6 n s [a, b])) 0) (does_index ty_ok _ rfl rfl rfl (by omega) hget rfl) ?_
    refine run 400 rfl ?_
    refine at_false 86 rfl (by show (((rowsT [a, b]).length : Int) != 2) = false; rw [hl2]; rfl) ?_
    refine run 400 rfl ?_
    refine at_val (.rp (tr (.mk 6 n s [a, b])) 0) (does_index ty_ok _ rfl rfl rfl (by omega) hget rfl) ?_
    refine run 400 rfl ?_
    refine at_val (.rp (tr b) 0) (does_index ty_ok _ rfl rfl rfl (by omega) (show (rowsT [a, b])[(1 : Int).toNat]? = some (tr b) by rw [hr2]; rfl) rfl) ?_
    refine run 400 rfl ?_
    refine at_fn kb rfl ?_
    refine run 400 rfl ?_
    refine at_val (.rp (tr (.mk 6 n s [a, b])) 0) (does_index ty_ok _ rfl rfl rfl (by omega) hget rfl) ?_
    refine run 400 rfl ?_
    refine at_fn kcu rfl ?_
    refine run 400 rfl ?_
    exact at_again (i + 1) (by omega) (by omega) ⟨SVle.refl _, SVle.refl _, SVle.of_eq (by show I ((i : Int) + 1) = I ((i + 1 : Nat) : Int); rw [Int.natCast_add]; rfl), trivial⟩ trivial
  refine at_false 78 rfl (by simpa using h6) ?_
  refine run 400 rfl ?_
  refine at_val (.rp (tr (.mk k n s kl)) 0) (does_index ty_ok _ rfl rfl rfl (by omega) hget rfl) ?_
  refine run 400 rfl ?_
  refine at_fn kcu rfl ?_
  refine run 400 rfl ?_
  exact at_again (i + 1) (by omega) (by omega) ⟨SVle.refl _, SVle.refl _, SVle.of_eq (by show I ((i : Int) + 1) = I ((i + 1 : Nat) : Int); rw [Int.natCast_add]; rfl), trivial⟩ trivial
end Go.Proofs.Ytmnmhehddbemkaa
/- The proof engine: a list of plain zeroes is made. -/
namespace Go.Eng

theorem made_rep (v : Value) (m : Nat) : (madeCells #[v] m).toList = List.replicate m v := by
  unfold madeCells
  rw [Array.toList_map, Array.toList_range]
  apply List.ext_getElem
  · simp
  · intro i h1 h2
    simp [Nat.mod_one]
theorem Dens.rep {g : Nat → Value} {H : Hp} {c : SV} {v : Value} (h : Den g H c v) : ∀ m : Nat, Dens g H (List.replicate m c) (List.replicate m v)
  | 0 => trivial
  | m + 1 => ⟨h, Dens.rep h m⟩
theorem noKs_rep {k : Nat} {c : SV} (h : c.noK k = true) : ∀ m : Nat, SV.noKs k (List.replicate m c) = true
  | 0 => rfl
  | m + 1 => by rw [List.replicate_succ, SV.noKs, h, noKs_rep h m]; rfl

theorem at_makeZ {E : Stc} {T : Nat → TI} {all rest : List Oper} {o : Oper} {s : List Fr} {env : List (Nat × SV)} {own : List (Nat × SO)} {nx : List Nat} {t : Nat} {x y : Operand} {kx ky : IntKind} {n : Int} (k : Nat) (c : SV) (hT : ∀ t, T t = tiOf E.P t) (ho : o.op = .makeSlice t x y) (hx : ev env x = .int kx n) (hy : ev env y = .int ky n)
    (h0 : 0 ≤ n) (hb : ((T (T t).elem).bytes : Int) * n ≤ 281474976710656) (h63 : n ≤ 9223372036854775807) (hc : constsS (T (T t).elem).zero = [c]) (hck : c.noK k = true) (kk : Sat E (.ops all rest) s (put o.dst (.arr k n.toNat) env) ((k, .cells (T t).elem (List.replicate n.toNat c)) :: own) nx)
    (hkT : lstT T t 1 = true := by rfl) (hones : SV.ones (constsS (T (T t).elem).zero) = true := by rfl) (hm : Nat.ble E.cx.m0 k = true := by rfl) (hE : freshE k env = true := by rfl) (hO : freshO k own = true := by rfl)
    (hg : guardK all o.guard env true false false = true := by rfl) (hd : dstLt o.dst E.n = true := by rfl) : Sat E (.ops all (o :: rest)) s env own nx := by
  intro a w hat
  have hwant : Region.wanted o (yielded all.toArray a.tmps) = true := by
    rcases guardK_wanted (E := E) (all := all) (o := o) (env := env) (own := own) (yes := true) (no := false) (stuck := false) with ⟨_, hw⟩ | ⟨h, _⟩ | h
    · exact hw a w hat
    · rw [hg] at h; cases h
    · rw [hg] at h; cases h
  unfold wpList
  rw [if_pos hwant]
  refine .inl ?_
  obtain ⟨hdf, g, H, hdn⟩ := hat
  obtain ⟨hk, hz, hk2, hz2, hz0⟩ := lstT_spec hT hkT
  rw [hT (T t).elem, hT t] at hb hones hc
  obtain ⟨i1, h1⟩ := slice_ti hk
  obtain ⟨i2, d2, h2⟩ := ti_spec hk2
  obtain ⟨z, hz3, hz4⟩ := zero_spec h2 hz2
  have hzs : z.cells.size = 1 := by rw [← hz0, hz4, Array.length_toList]
  have hsz : 1 = i2.size := by rw [← hz, h2.size]
  rw [h2.bytes] at hb
  have e1 : a.eval x = .int kx n := by have := hdn.ev x; rw [hx] at this; exact this
  have e2 : a.eval y = .int ky n := by have := hdn.ev y; rw [hy] at this; exact this
  have hr := run_make (P := E.P) w t _ i2 z h1.und h2.info hz3 kx ky n n h0 (Int.le_refl _) hb h63
  have hzd := constsS_den g H (tiOf E.P (tiOf E.P t).elem).zero
  obtain ⟨v, hv⟩ : ∃ v, z.cells = #[v] := by
    match h : z.cells with
    | ⟨[v]⟩ => exact ⟨v, rfl⟩
    | ⟨[]⟩ => rw [h] at hzs; simp at hzs
    | ⟨_ :: _ :: _⟩ => rw [h] at hzs; simp at hzs
  rw [hc, hz4, hv] at hzd
  have hcv : Den g H c v := hzd.1
  have hv1 : v.oneCell' = true := by
    have := (constsS_den g H (tiOf E.P (tiOf E.P t).elem).zero).oneCells hones
    rw [hz4, hv] at this
    exact this v (by simp)
  have hrep : (madeCells z.cells n.toNat).toList = List.replicate n.toNat v := by rw [hv, made_rep]
  have hone : ∀ x ∈ (madeCells z.cells n.toNat).toList, x.oneCell' = true := by
    rw [hrep]
    intro x hx
    rw [(List.mem_replicate.1 hx).2]
    exact hv1
  have hcs : Dens g H (List.replicate n.toNat c) (madeCells z.cells n.toNat).toList := by
    rw [hrep]
    exact Dens.rep hcv _
  have hd2 := hdn.new' (t := (T t).elem) (Nat.le_of_ble_eq_true hm) (noKs_rep hck _) hE hO hcs hone
  unfold Oper.wp
  have hrun : (execOp a.eval o).run E.P w = .ok (.value (.slice (some ⟨w.heap.size, 0, none⟩) n.toNat n.toNat)) (w.alloc (.cells (madeCells z.cells n.toNat) (T t).elem)) := by
    rw [hT t]
    rw [← hsz, Nat.mul_one] at hr
    simp [execOp, ho, e1, e2, hr]
  rw [hrun]
  rw [Array.toArray_toList] at hd2
  exact kk _ _ (At.put hdf hd2 ⟨w.heap.size, upd_same _ _ _, rfl⟩ fun d e => by rw [e] at hd; exact Nat.blt_eq.mp hd)
end Go.Eng
namespace Go.Proofs.Ytmnmhehddbemkaa
open Go Go.Eng
set_option maxRecDepth 100000

/-- A tree of Pairs. -/
def fullT : Nat → Tm
  | 0 => .mk 2 1 .empty []
  | n + 1 => .mk 7 0 .empty [fullT n, fullT n]
theorem fullT_spec : ∀ n, allR (fullT n) = true ∧ dpT (fullT n) = n + 1 ∧ szT (fullT n) + 1 = 2 ^ (n + 1)
  | 0 => ⟨by
      have e : seq ByteArray.empty .empty = true := seq_self _
      simp [fullT, allR, allRL, rightF, kidsF, Tm.k, Tm.n, Tm.s, Tm.kids, e], by simp [fullT, dpT, dpL], by simp [fullT, szT, szL]⟩
  | n + 1 => by
    obtain ⟨h1, h2, h3⟩ := fullT_spec n
    refine ⟨by rw [fullT, allR, allRL, allRL, allRL, h1, right_k2 _ _ _ (by omega)]; rfl, by rw [fullT, dpT, dpL, dpL, dpL]; omega, ?_⟩
    rw [fullT, szT, szL, szL, szL, Nat.pow_succ]
    omega
def pubT : Nat → Tm
  | 0 => fullT 5
  | n + 1 => .mk 4 0 .empty [pubT n]
theorem pubT_spec : ∀ n, allR (pubT n) = true ∧ dpT (pubT n) = n + 6 ∧ szT (pubT n) = n + 63
  | 0 => by
    obtain ⟨h1, h2, h3⟩ := fullT_spec 5
    exact ⟨h1, h2, by show szT (fullT 5) = _; omega⟩
  | n + 1 => by
    obtain ⟨h1, h2, h3⟩ := pubT_spec n
    refine ⟨by rw [pubT, allR, allRL, allRL, h1, right_k1 _ _ (by omega)]; rfl, by rw [pubT, dpT, dpL, dpL]; omega, ?_⟩
    rw [pubT, szT, szL, szL]
    omega
theorem tow_spec : ∀ n, allR (tow n) = true ∧ dpT (tow n) = n + 1 ∧ szT (tow n) = n + 1
  | 0 => ⟨by rw [tow, allR, allRL, right_ax]; rfl, by simp [tow, dpT, dpL], by simp [tow, szT, szL]⟩
  | n + 1 => by
    obtain ⟨h1, h2, h3⟩ := tow_spec n
    refine ⟨by rw [tow, allR, allRL, allRL, h1, right_h]; rfl, by rw [tow, dpT, dpL, dpL]; omega, ?_⟩
    rw [tow, szT, szL, szL]
    omega
theorem may_towF (n : Nat) (h : n ≤ 20) : mayF (tow n) = decide (((n : Int) + 1) ≤ 16) := by
  obtain ⟨h1, h2, h3⟩ := tow_spec n
  rw [mayF_iff, h1, h2, h3, Bool.true_and, decide_eq_decide]
  omega
theorem may_pub (n : Nat) (h : n ≤ 8) : mayF (pubT n) = decide ((63 + ((n : Int) + 12) - 12) ≤ 64) := by
  obtain ⟨h1, h2, h3⟩ := pubT_spec n
  rw [mayF_iff, h1, h2, h3, Bool.true_and, decide_eq_decide]
  omega
theorem bytesS_size (ns : List Int) : (bytesS ns).size = ns.length := by
  have : ∀ (ns : List Int) (r : ByteArray), (ns.foldl (fun r n => r.push (UInt8.ofNat n.toNat)) r).size = r.size + ns.length := by
    intro ns
    induction ns with
    | nil => intro r; rfl
    | cons n ns ih =>
      intro r
      rw [List.foldl_cons, ih, ByteArray.size_push, List.length_cons]
      omega
  have := this ns .empty
  simpa [bytesS] using this
theorem may_leaf (k n : Int) (s : ByteArray) : mayF (.mk k n s []) = rightF (.mk k n s []) := by
  rw [mayF_iff, allR, allRL]
  simp [szT, szL, dpT, dpL]
theorem may_atomB (s : ByteArray) (h : 0 < s.size) : mayF (.mk 1 0 s []) = decide ((s.size : Int) ≤ 1024) := by
  have e : seq s .empty = false := by
    cases h2 : seq s .empty with
    | false => rfl
    | true => have := seq_eq h2; subst this; simp at h
  rw [may_leaf]
  simp [rightF, kidsF, Tm.k, Tm.n, Tm.s, Tm.kids, e]
theorem may_nonce (n : Int) (h : n ≠ 0) : mayF (.mk 2 n .empty []) = (decide (0 < n) && decide (n ≤ 1073741824)) := by
  have e : seq ByteArray.empty .empty = true := seq_self _
  rw [may_leaf]
  simp [rightF, kidsF, Tm.k, Tm.n, Tm.s, Tm.kids, e, h]

theorem full_fn : ∀ n : Nat, n ≤ 10 → Gives Try.prog 53 [I n] (fullT n).sv
  | 0, _ => by
    refine contract_of ty_ok [0, 1, 2, 3, 4, 5, 6, 7] Try.func53 rfl (by decide) Try.ntmps53 rfl fun z => ?_
    refine run 400 rfl ?_
    refine at_if rfl (fun _ => ?_) (fun q => by cases q)
    refine run 400 rfl ?_
    refine at_fn (N_fn 1) rfl ?_
    refine run 400 rfl ?_
    exact at_ret rfl rfl [] ⟨rfl, rfl, rfl⟩ trivial
  | n + 1, h => by
    have ih := full_fn n (by omega)
    have e : ((n + 1 : Nat) : Int) - 1 = n := by omega
    refine contract_of ty_ok [0, 1, 2, 3, 4, 5, 6, 7] Try.func53 rfl (by decide) Try.ntmps53 rfl fun z => ?_
    refine run 400 rfl ?_
    refine at_if rfl (fun q => by simp at q; omega) (fun _ => ?_)
    refine run 400 rfl ?_
    rw [e]
    refine at_fn ih rfl ?_
    refine run 400 rfl ?_
    rw [e]
    refine at_fn ih rfl ?_
    refine at_gro (.tl 4 [tr (fullT n), tr (fullT n)]) (doesG_build ty_ok _ rfl ⟨⟨rfl, rfl, _, rfl, SVles.refl _⟩, ⟨rfl, rfl, _, rfl, SVles.refl _⟩, trivial⟩ rfl rfl (by decide)) ?_
    refine at_fn (T2_fn 7 (fullT n) (fullT n)) rfl ?_
    refine run 400 rfl ?_
    exact at_ret rfl rfl [] ⟨rfl, rfl, rfl⟩ trivial
end Go.Proofs.Ytmnmhehddbemkaa
namespace Go.Proofs.Ytmnmhehddbemkaa
open Go Go.Eng

def andF (n : Int) : Int := ((BitVec.ofInt 64 n &&& BitVec.ofInt 64 65535).toNat : Int)
theorem andF_le (n : Int) : 0 ≤ andF n ∧ andF n ≤ 65535 := by
  unfold andF
  rw [BitVec.toNat_and]
  have h : (BitVec.ofInt 64 n).toNat &&& (BitVec.ofInt 64 65535).toNat ≤ (BitVec.ofInt 64 65535).toNat := Nat.and_le_right
  have h2 : (BitVec.ofInt 64 65535).toNat = 65535 := by decide
  rw [h2] at h ⊢
  omega

section
variable (v : Int) (one : Tm)
abbrev hS : Tm := .mk 2 v .empty []
abbrev hy : Tm := .mk 1 0 ⟨#[121]⟩ []
abbrev h0 : Tm := .mk 3 0 .empty [hS v]
abbrev h1 : Tm := .mk 4 0 .empty [hS v]
abbrev h2 : Tm := .mk 5 0 .empty [hS v, one]
abbrev h3 : Tm := .mk 6 0 .empty [hS v, ax]
abbrev h7 : Tm := .mk 7 0 .empty [hS v, one]
abbrev h4 : Tm := .mk 3 0 .empty [h7 v one]
abbrev hid : List Tm := [h0 v, h1 v, h2 v one, h3 v, h4 v one]
abbrev hMA : Tm := .mk 5 0 .empty [hS v, hy]
abbrev hMS : Tm := .mk 6 0 .empty [hS v, hy]
end

theorem may_hS {v : Int} (hv : 1000 ≤ v ∧ v ≤ 66535) : mayF (hS v) = true := by
  rw [may_nonce v (by omega)]
  simp
  omega
theorem may_hy : mayF hy = true := by rw [may_atomB _ (by decide)]; rfl
theorem may_ax : mayF ax = true := by rw [may_atomB _ (by decide)]; rfl
theorem one_ne (ns : List Int) : (genT ns 4 0).1 ≠ hy := by
  intro h
  have hA : ∀ j, (leafA ns j).1 ≠ hy := by
    intro j h
    have hw : ∀ b ∈ words, b ≠ ⟨#[121]⟩ := by decide
    simp only [leafA, Tm.mk.injEq] at h
    have h := h.2.2.1
    unfold pickF at h
    rw [List.getD_eq_getElem?_getD] at h
    cases e : words[(nextF ns j words.length).1.toNat]? with
    | none =>
      rw [e] at h
      have h : ByteArray.empty = ⟨#[121]⟩ := h
      exact absurd h (by decide)
    | some b => rw [e] at h; exact hw b (List.mem_of_getElem? e) h
  have hN : ∀ j, (leafN ns j).1 ≠ hy := by
    intro j h
    simp only [leafN, Tm.mk.injEq] at h
    exact absurd h.1 (by decide)
  have hx := nextF_le (l := ns) (j := 0) (n := 10) (by omega)
  rw [show (4 : Nat) = 3 + 1 from rfl, genT] at h
  dsimp only at h
  split at h
  · exact hA _ h
  · split at h
    · exact hN _ h
    · split at h
      · simp only [Tm.mk.injEq] at h; omega
      · simp only [Tm.mk.injEq] at h; omega

theorem hasL_mem {x : Tm} : ∀ {l : List Tm}, hasL x l = false → ∀ t ∈ l, hasT x t = false
  | [], _, t, ht => by cases ht
  | u :: l, h, t, ht => by
    rw [hasL, Bool.or_eq_false_iff] at h
    rcases List.mem_cons.1 ht with e | ht
    · subst e; exact h.1
    · exact hasL_mem h.2 t ht
theorem has_parts {x t : Tm} (h : hasT x t = false) : ∀ p ∈ parts t, hasT x p = false := by
  intro p hp
  have := parts_sub hp
  obtain ⟨k, n, s, l⟩ := t
  rw [hasT, Bool.or_eq_false_iff] at h
  exact hasL_mem h.2 p this
theorem has_kid {x : Tm} {k n : Int} {s : ByteArray} {l : List Tm} (h : x ∈ l) : hasT x (.mk k n s l) = true := by
  rw [hasT, Bool.or_eq_true]
  refine .inr ?_
  induction l with
  | nil => cases h
  | cons u l ih =>
    rw [hasL, Bool.or_eq_true]
    rcases List.mem_cons.1 h with e | h
    · subst e; exact .inl (has_self x)
    · exact .inr (ih h)

theorem hidden_in {v : Int} {one : Tm} {l : List Tm} (hl : ∀ t ∈ l, hasT (hS v) t = false) : ∀ x ∈ openM (l ++ hid v one), x ∈ hid v one ∨ hasT (hS v) x = false := fun x hx =>
  ((openM_P (l ++ hid v one)).least (fun y => y ∈ hid v one ∨ hasT (hS v) y = false) (fun y hy => by
    rcases List.mem_append.1 hy with h | h
    · exact .inr (hl y h)
    · exact .inl h) (fun y hy p hp => by
    rcases hy with h | h
    · have hx0 : hasT (hS v) ax = false := by
        rw [hasT, hasL]
        cases e : same (Tm.mk 1 0 xs []) (hS v) with
        | false => rfl
        | true => have := same_iff.1 e; simp at this
      simp only [hid, List.mem_cons, List.not_mem_nil, or_false] at h
      rcases h with rfl | rfl | rfl | rfl | rfl
      · rw [parts] at hp; simp at hp
      · rw [parts] at hp; simp at hp
      · rw [parts] at hp; simp at hp
      · rw [parts] at hp
        simp at hp
        subst hp
        exact .inr hx0
      · rw [parts] at hp; simp at hp
    · exact .inr (has_parts h p hp)) x hx).elim (by simp) id

theorem hidden_S {v : Int} {one : Tm} {l : List Tm} (hl : ∀ t ∈ l, hasT (hS v) t = false) : madeT (openM (l ++ hid v one)) (hS v) = false := by
  have ha : amongF (openM (l ++ hid v one)) (hS v) = false := by
    cases e : amongF (openM (l ++ hid v one)) (hS v) with
    | false => rfl
    | true =>
      rcases hidden_in hl _ (among_iff.1 e) with h | h
      · simp at h
      · rw [has_self] at h; cases h
  rw [madeT, ha]
  rfl
theorem hidden_MA {v : Int} {one : Tm} {l : List Tm} (hl : ∀ t ∈ l, hasT (hS v) t = false) (ho : one ≠ hy) : madeT (openM (l ++ hid v one)) (hMA v) = false := by
  have ha : amongF (openM (l ++ hid v one)) (hMA v) = false := by
    cases e : amongF (openM (l ++ hid v one)) (hMA v) with
    | false => rfl
    | true =>
      rcases hidden_in hl _ (among_iff.1 e) with h | h
      · simp at h
        exact absurd h.symm ho
      · rw [has_kid (by simp)] at h; cases h
  rw [madeT, ha, madeL, hidden_S hl]
  rfl
theorem hidden_MS {v : Int} {one : Tm} {l : List Tm} (hl : ∀ t ∈ l, hasT (hS v) t = false) : madeT (openM (l ++ hid v one)) (hMS v) = false := by
  have ha : amongF (openM (l ++ hid v one)) (hMS v) = false := by
    cases e : amongF (openM (l ++ hid v one)) (hMS v) with
    | false => rfl
    | true =>
      rcases hidden_in hl _ (among_iff.1 e) with h | h
      · simp [xs] at h
      · rw [has_kid (by simp)] at h; cases h
  rw [madeT, ha, madeL, hidden_S hl]
  rfl
theorem hidden_0 {v : Int} {one : Tm} {l : List Tm} : madeT (openM (l ++ hid v one)) (h0 v) = true := made_in ((openM_P _).has _ (by simp))
theorem hidden_yes {v : Int} {one : Tm} {l : List Tm} : madeT (openM (l ++ hid v one ++ [hS v])) (hMS v) = true := by
  have hs : madeT (openM (l ++ hid v one ++ [hS v])) (hS v) = true := made_in ((openM_P _).has _ (by simp))
  rw [madeT, madeL, madeL, hs, madeL, madeT]
  simp
theorem hid_may {v : Int} {one : Tm} (hv : 1000 ≤ v ∧ v ≤ 66535) (ho : allR one = true) (hs : szT one ≤ 31) (hd : dpT one ≤ 5) : ∀ t ∈ hid v one, mayF t = true := by
  have hS0 := may_allR (may_hS hv)
  have hx0 := may_allR may_ax
  have hsS : szT (hS v) = 1 := by simp [szT, szL]
  have hdS : dpT (hS v) = 1 := by simp [dpT, dpL]
  have hsx : szT ax = 1 := by simp [szT, szL]
  have hdx : dpT ax = 1 := by simp [dpT, dpL]
  intro t ht
  simp only [hid, List.mem_cons, List.not_mem_nil, or_false] at ht
  rcases ht with rfl | rfl | rfl | rfl | rfl
  · exact may_T1 3 _ (by omega) hS0 (by omega) (by omega)
  · exact may_T1 4 _ (by omega) hS0 (by omega) (by omega)
  · exact may_T2 5 _ _ (by omega) hS0 ho (by omega) (by omega) (by omega)
  · exact may_T2 6 _ _ (by omega) hS0 hx0 (by omega) (by omega) (by omega)
  · have h7m := may_T2 7 (hS v) one (by omega) hS0 ho (by omega) (by omega) (by omega)
    refine may_T1 3 _ (by omega) (may_allR h7m) ?_ ?_
    · simp only [szT, szL]; omega
    · simp only [dpT, dpL]; omega
theorem may_MA {v : Int} (hv : 1000 ≤ v ∧ v ≤ 66535) : mayF (hMA v) = true := may_T2 5 _ _ (by omega) (may_allR (may_hS hv)) (may_allR may_hy) (by simp [szT, szL]) (by simp [dpT, dpL]) (by simp [dpT, dpL])
theorem may_MS {v : Int} (hv : 1000 ≤ v ∧ v ≤ 66535) : mayF (hMS v) = true := may_T2 6 _ _ (by omega) (may_allR (may_hS hv)) (may_allR may_hy) (by simp [szT, szL]) (by simp [dpT, dpL]) (by simp [dpT, dpL])
end Go.Proofs.Ytmnmhehddbemkaa
namespace Go.Proofs.Ytmnmhehddbemkaa
open Go Go.Eng
set_option maxRecDepth 100000

theorem knowHidden_fn (ns : List Int) (n : Int) (hn : ns.length ≤ 9223372036854775807) : Gives Try.prog 10 [.lst 1 (ints ns), I n] .tt := by
  have hT := terms_fn ns 6 hn (by omega)
  have hlm := genL_may ns 6 0 (by omega)
  have hll := genL_len ns 6 0
  generalize genL ns 6 0 = l at hT hlm hll
  have hO := oneT_fn ns hn
  have hom := gen4_may ns
  have hne := one_ne ns
  obtain ⟨hdr, hdd⟩ := genT_may ns 4 0 (by omega)
  have hsz := (genT_gd ns 4 0 (by omega)).2
  generalize (genT ns 4 0).1 = one at hO hom hne hdr hdd hsz
  have hv0 := andF_le n
  have hv : 1000 ≤ 1000 + andF n ∧ 1000 + andF n ≤ 66535 := by omega
  have hrl := rowsT_len l
  refine contract_of ty_ok [0, 1, 2, 3, 4, 5, 6, 7] Try.func10 rfl (by decide) Try.ntmps10 rfl fun z => ?_
  refine run 400 rfl ?_
  refine at_fn known28_fn rfl ?_
  refine run 400 rfl ?_
  refine at_val (.int .i64 (andF n)) (does_binInt rfl rfl rfl fun w => ⟨.int .i64 (andF n), ?_, fun _ _ => rfl⟩) ?_
  · have e : IntKind.i64.wrap (andF n) = andF n := by
      simp only [IntKind.wrap, IntKind.bits, IntKind.signed]
      have := andF_le n
      simp
      omega
    have e2 : (Op.intBits .and .i64 n 65535).run Try.prog w = .ok (.int .i64 (andF n)) w := by
      unfold Op.intBits
      show Result.ok (Value.int .i64 (IntKind.i64.wrap (andF n))) w = _
      rw [e]
    exact e2
  generalize andF n = a at hv hv0
  refine run 400 rfl ?_
  generalize 1000 + a = v at hv
  refine at_fn (N_fn v) rfl ?_
  refine run 400 rfl ?_
  refine at_fn hT rfl ?_
  refine run 400 rfl ?_
  refine at_loop (fun i : Nat => i ≤ l.length ∧ ∀ t ∈ l.take i, hasT (hS v) t = false) (fun i => [(0, .lst 1 (ints ns)), (5, .ptr 0 0), (6, .lst 4 (rowsT l)), (7, I i)]) (fun _ => [(0, own33 (hS v))]) (fun i => l.length - i) [1, 2, 3, 4, 5, 6, 7]
    0 ⟨by omega, by simp⟩ ⟨SVle.refl _, SVle.refl _, SVle.refl _, SVle.refl _, trivial⟩ ⟨rfl, trivial⟩ ?_
  rintro i ⟨a1, a2⟩
  refine run 400 rfl ?_
  refine at_ifd rfl (fun g => ?_) (fun g => ?_)
  · rw [hrl] at g
    have hlt : i < l.length := by omega
    have hget := rowsT_get hlt
    have hgetD : l[i]? = some (l.getD i .zero) := getD_eq hlt
    have hmt := hlm _ (getD_mem hlt)
    generalize l.getD i .zero = t at hget hmt hgetD
    refine run 400 rfl ?_
    refine at_drawn 6 rfl rfl [(2, .val (.rp (tr t) 0)), (5, .sv (.bl (hasT (hS v) t)))] [20, 21, 22] rfl ⟨rhas_fn (hS v) t (mayF_gd hmt).sm, does_index ty_ok _ rfl rfl rfl (by omega) (show (rowsT l)[(i : Int).toNat]? = some (tr t) from hget) rfl⟩ ?_
    refine run 400 rfl ?_
    refine at_if rfl (fun _ => ?_) (fun q => ?_)
    · refine run 400 rfl ?_
      exact at_ret rfl rfl [] ⟨rfl, rfl, rfl⟩ trivial
    · refine run 400 rfl ?_
      exact at_again (i + 1) ⟨by omega, fun t' ht' => by
        rw [List.take_add_one, hgetD] at ht'
        rcases List.mem_append.1 ht' with h | h
        · exact a2 t' h
        · simp at h; subst h; exact q⟩ (by omega) ⟨SVle.refl _, SVle.refl _, SVle.refl _, SVle.of_eq (by show I ((i : Int) + 1) = I ((i + 1 : Nat) : Int); rw [Int.natCast_add]; rfl), trivial⟩ ⟨rfl, trivial⟩
  rw [hrl] at g
  have hhas : ∀ t ∈ l, hasT (hS v) t = false := fun t ht => a2 t (by rw [List.take_of_length_le (by omega)]; exact ht)
  have hhm := hid_may (one := one) hv hdr (by omega) hdd
  have hall : ∀ t ∈ l ++ hid v one, mayF t = true := fun t ht => (List.mem_append.1 ht).elim (hlm t) (hhm t)
  have hall2 : ∀ t ∈ l ++ hid v one ++ [hS v], mayF t = true := fun t ht => (List.mem_append.1 ht).elim (hall t) fun h => by rw [List.mem_singleton] at h; subst h; exact may_hS hv
  have hrows : rowsT (hid v one) = [tr (h0 v), tr (h1 v), tr (h2 v one), tr (h3 v), tr (h4 v one)] := by rw [rowsT_cons, rowsT_cons, rowsT_cons, rowsT_cons, rowsT_cons, rowsT_nil]
  have hrall : rowsT (l ++ hid v one) = [] ++ rowsT l ++ [tr (h0 v), tr (h1 v), tr (h2 v one), tr (h3 v), tr (h4 v one)] := by rw [rowsT_app, hrows]; rfl
  have hrall2 : rowsT (l ++ hid v one ++ [hS v]) = [] ++ rowsT l ++ [tr (h0 v), tr (h1 v), tr (h2 v one), tr (h3 v), tr (h4 v one)] ++ [tr (hS v)] := by rw [rowsT_app, hrall, rowsT_cons, rowsT_nil]
  have k1 : Gives Try.prog 31 [.lst 4 (rowsT (l ++ hid v one)), (hS v).sv] .ff := gives_is (c := false) (can31_fn _ _ hall (by simp; omega) (may_hS hv)) (hidden_S hhas)
  have k2 : Gives Try.prog 31 [.lst 4 (rowsT (l ++ hid v one)), (h0 v).sv] .tt := gives_is (c := true) (can31_fn _ _ hall (by simp; omega) (hhm _ (by simp))) hidden_0
  have k3 : Gives Try.prog 31 [.lst 4 (rowsT (l ++ hid v one)), (hMA v).sv] .ff := gives_is (c := false) (can31_fn _ _ hall (by simp; omega) (may_MA hv)) (hidden_MA hhas hne)
  have k4 : Gives Try.prog 31 [.lst 4 (rowsT (l ++ hid v one)), (hMS v).sv] .ff := gives_is (c := false) (can31_fn _ _ hall (by simp; omega) (may_MS hv)) (hidden_MS hhas)
  have k5 : Gives Try.prog 31 [.lst 4 (rowsT (l ++ hid v one ++ [hS v])), (hMS v).sv] .tt := gives_is (c := true) (can31_fn _ _ hall2 (by simp; omega) (may_MS hv)) hidden_yes
  rw [hrall] at k1 k2 k3 k4
  rw [hrall2] at k5
  have gl : ∀ {rows : List (List DV)} {k : Nat} {t r : SV}, Gives Try.prog 31 [.lst 4 rows, t] r → Gives Try.prog 31 [.gl k 4 rows, t] r := fun h => h.weak ⟨SVle.gl _ _ _, SVle.refl _, trivial⟩
  refine run 400 rfl ?_
  refine at_drawn 23 rfl rfl [(1, .gro (.tl 4 [tr (hS v)])), (2, .sv (h0 v).sv), (4, .gro (.tl 4 [tr (hS v)])), (5, .sv (h1 v).sv), (8, .sv one.sv), (9, .gro (.tl 4 [tr (hS v), tr one])), (10, .sv (h2 v one).sv), (12, .sv ax.sv), (13, .gro (.tl 4 [tr (hS v), tr ax])), (14, .sv (h3 v).sv), (17, .sv one.sv), (18, .gro (.tl 4 [tr (hS v), tr one])), (19, .sv (h7 v one).sv), (20, .gro (.tl 4 [tr (h7 v one)])), (21, .sv (h4 v one).sv), (22, .gro (.tl 4 [tr (h0 v), tr (h1 v), tr (h2 v one), tr (h3 v), tr (h4 v one)]))] [20, 21, 22] rfl
    ⟨doesG_build ty_ok _ rfl ⟨⟨rfl, rfl, _, rfl, SVles.refl _⟩, ⟨rfl, rfl, _, rfl, SVles.refl _⟩, ⟨rfl, rfl, _, rfl, SVles.refl _⟩, ⟨rfl, rfl, _, rfl, SVles.refl _⟩, ⟨rfl, rfl, _, rfl, SVles.refl _⟩, trivial⟩ rfl rfl (by decide),
      T1_fn 3 (h7 v one), doesG_build ty_ok _ rfl ⟨⟨rfl, rfl, _, rfl, SVles.refl _⟩, trivial⟩ rfl rfl (by decide), T2_fn 7 (hS v) one, doesG_build ty_ok _ rfl ⟨⟨rfl, rfl, _, rfl, SVles.refl _⟩, ⟨rfl, rfl, _, rfl, SVles.refl _⟩, trivial⟩ rfl rfl (by decide), hO,
      T2_fn 6 (hS v) ax, doesG_build ty_ok _ rfl ⟨⟨rfl, rfl, _, rfl, SVles.refl _⟩, ⟨rfl, rfl, _, rfl, SVles.refl _⟩, trivial⟩ rfl rfl (by decide), A_fn _, T2_fn 5 (hS v) one, doesG_build ty_ok _ rfl ⟨⟨rfl, rfl, _, rfl, SVles.refl _⟩, ⟨rfl, rfl, _, rfl, SVles.refl _⟩, trivial⟩ rfl rfl (by decide), hO,
      T1_fn 4 (hS v), doesG_build ty_ok _ rfl ⟨⟨rfl, rfl, _, rfl, SVles.refl _⟩, trivial⟩ rfl rfl (by decide), T1_fn 3 (hS v), doesG_build ty_ok _ rfl ⟨⟨rfl, rfl, _, rfl, SVles.refl _⟩, trivial⟩ rfl rfl (by decide)⟩ ?_
  refine run 400 rfl ?_
  refine at_gro (.tl 4 []) (doesG_build ty_ok _ rfl trivial rfl rfl (by decide)) ?_
  refine run 400 rfl ?_
  refine at_name 53 5 4 rfl (.inl rfl) ?_
  refine at_grow 5 5 4 ([] ++ rowsT l) rfl (doesU_append ty_ok rfl rfl rfl rfl rfl rfl rfl (by simp; omega) (by show _ * 56 ≤ _; simp; omega)) rfl ?_
  refine run 400 rfl ?_
  refine at_grow 5 5 4 ([] ++ rowsT l ++ [tr (h0 v), tr (h1 v), tr (h2 v one), tr (h3 v), tr (h4 v one)]) rfl (doesU_append ty_ok rfl rfl rfl rfl rfl rfl rfl (by simp; omega) (by show _ * 56 ≤ _; simp; omega)) rfl ?_
  refine run 400 rfl ?_
  refine at_drawn_st 40 [5] rfl rfl [(2, .sv .ff), (7, .val (.rp (tr (h0 v)) 0)), (9, .sv .tt), (14, .sv hy.sv), (15, .gro (.tl 4 [tr (hS v), tr hy])), (16, .sv (hMA v).sv), (17, .sv .ff), (23, .sv hy.sv), (24, .gro (.tl 4 [tr (hS v), tr hy])), (25, .sv (hMS v).sv), (26, .sv .ff), (32, .gro (.tl 4 [tr (hS v)])), (33, .eat 5 4 ([] ++ rowsT l ++ [tr (h0 v), tr (h1 v), tr (h2 v one), tr (h3 v), tr (h4 v one)] ++ [tr (hS v)]) none), (35, .sv hy.sv), (36, .gro (.tl 4 [tr (hS v), tr hy])), (37, .sv (hMS v).sv), (38, .sv .tt)] [20, 21, 22] rfl
    ⟨gl k5, T2_fn 6 (hS v) hy, doesG_build ty_ok _ rfl ⟨⟨rfl, rfl, _, rfl, SVles.refl _⟩, ⟨rfl, rfl, _, rfl, SVles.refl _⟩, trivial⟩ rfl rfl (by decide), A_fn _, doesU_append ty_ok rfl rfl rfl rfl rfl rfl rfl (by simp; omega) (by show _ * 56 ≤ _; simp; omega), doesG_build ty_ok _ rfl ⟨⟨rfl, rfl, _, rfl, SVles.refl _⟩, trivial⟩ rfl rfl (by decide),
      gl k4, T2_fn 6 (hS v) hy, doesG_build ty_ok _ rfl ⟨⟨rfl, rfl, _, rfl, SVles.refl _⟩, ⟨rfl, rfl, _, rfl, SVles.refl _⟩, trivial⟩ rfl rfl (by decide), A_fn _,
      gl k3, T2_fn 5 (hS v) hy, doesG_build ty_ok _ rfl ⟨⟨rfl, rfl, _, rfl, SVles.refl _⟩, ⟨rfl, rfl, _, rfl, SVles.refl _⟩, trivial⟩ rfl rfl (by decide), A_fn _,
      gl k2, does_index ty_ok _ rfl rfl rfl (by decide) rfl rfl, gl k1⟩ ?_
  refine run 400 rfl ?_
  exact at_ret rfl rfl [] ⟨rfl, rfl, rfl⟩ trivial
end Go.Proofs.Ytmnmhehddbemkaa
