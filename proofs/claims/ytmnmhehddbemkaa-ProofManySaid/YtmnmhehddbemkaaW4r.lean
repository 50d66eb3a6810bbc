import Derived.Test.YtmnmhehddbemkaaW4q
namespace Go.Proofs.Ytmnmhehddbemkaa
open Go Go.Eng

theorem z28 : (Try.prog.info? 28).bind (·.zero) = some (.int .i64 0) := by kernel_rfl

theorem runG_err (l : List Tm) : ∀ (ms : List Mv) (acc : List Tm), (runG l ms acc).2 ≠ 0 → (runG l ms acc).1 = []
  | [], acc, h => by simp [runG] at h
  | m :: ms, acc, h => by
    rw [runG] at h ⊢
    split
    · rfl
    · rename_i s hs
      rw [hs] at h
      dsimp only at h
      split
      · rename_i hn
        rw [if_pos hn] at h
        split
        · rename_i t hd
          rw [hd] at h
          exact runG_err l ms _ h
        · rfl
      · rfl
theorem runF_err (l : List Tm) (ms : List Mv) (h : (runF l ms).2 ≠ 0) : (runF l ms).1 = [] := by
  unfold runF at h ⊢
  split
  · rfl
  · rename_i h1
    rw [if_neg h1] at h
    exact runG_err l ms [] h

theorem run_fn (l : List Tm) (ms : List Mv) (hl : l.length ≤ 1000000) : Gives Try.prog 19 [.lst 4 (rowsT l), .lst 4 (rowsM ms)] (.tup [.lst 4 (rowsT (runF l ms).1), I (runF l ms).2]) := by
  have h58 := run58_fn l ms hl
  have herr := runF_err l ms
  generalize runF l ms = r at h58 herr
  obtain ⟨out, e⟩ := r
  dsimp only at h58 herr ⊢
  by_cases he : e = 0
  · subst he
    have h58 : Gives Try.prog 58 [.lst 4 (rowsT l), .lst 4 (rowsM ms)] (.tup [.lst 4 (rowsT out), .val .nilIface]) := h58
    refine contract_of ty_ok [0, 1, 2, 3, 4, 5, 6, 7] Try.func19 rfl (by decide) Try.ntmps19 rfl fun z => ?_
    refine run 400 rfl ?_
    refine at_fn h58 rfl ?_
    refine run 400 rfl ?_
    refine at_val (.tup [I 0, .ff]) (does_assert_nil ty_ok (I 0) z28 rfl rfl rfl (fun _ _ => rfl)) ?_
    refine run 400 rfl ?_
    exact at_ret rfl rfl [] ⟨rfl, rfl, rfl⟩ trivial
  · have hout := herr he
    subst hout
    simp only [errI, if_neg he] at h58
    have : Gives Try.prog 19 [.lst 4 (rowsT l), .lst 4 (rowsM ms)] (.tup [.tl 0 [], I e]) := by
      refine contract_of ty_ok [0, 1, 2, 3, 4, 5, 6, 7] Try.func19 rfl (by decide) Try.ntmps19 rfl fun z => ?_
      refine run 400 rfl ?_
      refine at_fn h58 rfl ?_
      refine run 400 rfl ?_
      refine at_val (.tup [I e, .tt]) (does_assert_yes ty_ok (I e) rfl rfl rfl (fun _ _ => rfl)) ?_
      refine run 400 rfl ?_
      exact at_ret rfl rfl [] ⟨rfl, rfl, rfl⟩ trivial
    exact this.le (SVle.tup ⟨SVle.nils, SVle.refl _, trivial⟩)

theorem toList_data (a : ByteArray) : a.toList = a.data.toList := by
  unfold ByteArray.toList
  rw [loop_eq a _ 0 [] rfl]
  simp
theorem seq_data (a b : ByteArray) : seq a b = (a.data.toList == b.data.toList) := by rw [seq, toList_data, toList_data]

abbrev aa : Tm := .mk 1 0 ⟨#[97]⟩ []
abbrev ha : Tm := .mk 3 0 .empty [aa]
theorem right_aa : rightF aa = true := by
  have e : seq aa.s .empty = false := by rw [seq_data]; rfl
  unfold rightF
  rw [e]
  rfl
theorem right_ha : rightF ha = true := by
  have e : seq ha.s .empty = true := seq_self _
  unfold rightF
  rw [e]
  rfl
theorem may_aa : mayF aa = true := by
  unfold mayF
  rw [mayT, right_aa]
  rfl
theorem may_ha : mayF ha = true := by
  unfold mayF
  rw [mayT, right_ha]
  simp only [mayL]
  rw [mayT, right_aa]
  rfl
abbrev mv1 : List Mv := [⟨2, 0, 0, ⟨#[97]⟩⟩, ⟨6, 0, 0, .empty⟩]
abbrev mv2 : List Mv := [⟨0, 0, 0, .empty⟩]
theorem run_mv1 : runF [] mv1 = ([aa, ha], 0) := by
  have d1 : doesF [] [] (.atom ⟨#[97]⟩) = (aa, true) := by show (aa, mayF aa) = _; rw [may_aa]
  have d2 : doesF [] [aa] (.one 3 0) = (ha, true) := by show (ha, mayF ha) = _; rw [may_ha]
  have r1 : readF ⟨2, 0, 0, ⟨#[97]⟩⟩ = some (.atom ⟨#[97]⟩) := rfl
  have r2 : readF ⟨6, 0, 0, .empty⟩ = some (.one 3 0) := rfl
  show runG [] mv1 [] = _
  rw [runG, r1]
  show (match doesF [] [] (.atom ⟨#[97]⟩) with | (t, true) => runG [] [⟨6, 0, 0, .empty⟩] ([] ++ [t]) | (_, false) => ([], 3)) = _
  rw [d1]
  show runG [] [⟨6, 0, 0, .empty⟩] [aa] = _
  rw [runG, r2]
  show (match doesF [] [aa] (.one 3 0) with | (t, true) => runG [] [] ([aa] ++ [t]) | (_, false) => ([], 3)) = _
  rw [d2]
  rfl
theorem run_mv2 : runF [] mv2 = ([], 2) := rfl

set_option maxRecDepth 100000 in
theorem known16_fn : Gives Try.prog 16 [] .tt := by
  have k1 := (run_fn [] mv1 (by simp)).weak (args' := [.tl 0 [], .tl 4 (rowsM mv1)]) ⟨SVle.nils, SVle.tl _ _, trivial⟩
  have k2 := (run_fn [] mv2 (by simp)).weak (args' := [.tl 0 [], .tl 4 (rowsM mv2)]) ⟨SVle.nils, SVle.tl _ _, trivial⟩
  rw [run_mv1] at k1
  rw [run_mv2] at k2
  dsimp only at k1 k2
  have kw : Gives Try.prog 27 [.tl 0 [], n1.sv] (.tup [.tl 0 [], .ff]) := way0_fn
  have kT : Gives Try.prog 35 [I 3, .tl 4 [tr aa]] ha.sv := (T_fn 3 [aa]).weak ⟨SVle.refl _, by rw [rowsT_cons, rowsT_nil]; exact SVle.tl _ _, trivial⟩
  have hsm : Sm ha := (mayF_gd may_ha).sm
  have hrows : rowsT [aa, ha] = [tr aa, tr ha] := by rw [rowsT_cons, rowsT_cons, rowsT_nil]
  refine contract_of ty_ok [0, 1, 2, 3, 4, 5, 6, 7] Try.func16 rfl (by decide) Try.ntmps16 rfl fun z => ?_
  refine run 400 rfl ?_
  refine at_gro (.tl 4 (rowsM mv1)) (doesG_build ty_ok _ rfl ⟨⟨rfl, rfl, _, rfl, SVles.refl _⟩, ⟨rfl, rfl, _, rfl, SVles.refl _⟩, trivial⟩ rfl rfl (by decide)) ?_
  refine run 400 rfl ?_
  refine at_fn k1 rfl ?_
  refine run 400 rfl ?_
  refine at_gro (.tl 4 (rowsM mv2)) (doesG_build ty_ok _ rfl ⟨⟨rfl, rfl, _, rfl, SVles.refl _⟩, trivial⟩ rfl rfl (by decide)) ?_
  refine run 400 rfl ?_
  refine at_fn k2 rfl ?_
  refine run 400 rfl ?_
  refine at_fn (N_fn 1) rfl ?_
  refine run 400 rfl ?_
  refine at_fn kw rfl ?_
  refine run 400 rfl ?_
  refine at_drawn 24 rfl rfl [(2, .yes), (7, .yes), (9, .val (.rp (tr ha) 0)), (11, .sv aa.sv), (12, .gro (.tl 4 [tr aa])), (13, .sv ha.sv), (14, .sv (.bl (same ha ha))), (16, .yes), (20, .yes)] [20, 21, 22] rfl
    ⟨rfl, same_iff.2 rfl, same_fn ha ha hsm, kT, doesG_build ty_ok _ rfl ⟨⟨rfl, rfl, _, rfl, SVles.refl _⟩, trivial⟩ rfl rfl (by decide), A_fn _, does_index ty_ok _ rfl rfl rfl (by omega) (show (rowsT [aa, ha])[(1 : Int).toNat]? = some (tr ha) by rw [hrows]; rfl) rfl, by rw [hrows]; rfl, rfl⟩ ?_
  refine run 400 rfl ?_
  exact at_ret rfl rfl [] ⟨rfl, rfl, rfl⟩ trivial
end Go.Proofs.Ytmnmhehddbemkaa
