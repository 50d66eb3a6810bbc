/- The texts R1, W1a, W1b, R2, R3, W4t, one behind the other: an executor over the translated code, contracts of functions, and their laws. -/
import Derived.Lib.Bytealg
import Derived.Laws.Externs
import Derived.Test.YtmnmhehddbemkaaPrfC7
namespace Go.Proofs.Ytmnmhehddbemkaa
open Go Go.Eng
set_option maxRecDepth 100000

abbrev z0 : Tm := .mk 0 0 .empty []
theorem row_z0 : ([.int .i64 0, .int .i64 0, .str .empty, .lst 4 []] : List DV) = tr z0 := by
  show _ = [DV.int .i64 0, .int .i64 0, .str .empty, .lst 4 (rowsT [])]
  rw [rowsT_nil]
theorem set_last {α : Type} (l : List α) (x y : α) : (l ++ [x]).set l.length y = l ++ [y] := by
  rw [List.set_append_right _ _ (Nat.le_refl _), Nat.sub_self]
  rfl

theorem rrun_fn (l : List Tm) (ms : List Mv) : Gives Try.prog 22 [.lst 4 (rowsT l), .lst 4 (rowsM ms)] (.tup [.lst 4 (rowsT (runF l ms).1), I (runF l ms).2]) := by
  refine GivesP.le (Post := fun s => ∃ a, s = .tup [a, I (runF l ms).2] ∧ SVle a (.lst 4 (rowsT (runF l ms).1))) ?_ (fun s h => by
    obtain ⟨a, rfl, h⟩ := h
    exact SVle.tup ⟨h, SVle.refl _, trivial⟩)
  have hml : (rowsM ms).length = ms.length := by simp
  refine contract_of ty_ok [0, 1, 2, 3, 4, 5, 6, 7] Try.func22 rfl (by decide) Try.ntmps22 rfl fun z => ?_
  refine run 400 rfl ?_
  refine at_ifd rfl (fun h => ?_) (fun h => ?_)
  · rw [hml] at h
    have e : runF l ms = ([], 7) := by unfold runF; rw [if_pos (by omega)]
    refine run 400 rfl ?_
    exact at_ret rfl rfl [] ⟨⟨_, by rw [e], by rw [e]; exact SVle.nils⟩, rfl, rfl⟩ trivial
  rw [hml] at h
  have e : runF l ms = runG l ms [] := by unfold runF; rw [if_neg (by omega)]
  rw [e]
  refine run 400 rfl ?_
  refine at_nilSI 0 1 1 rfl rfl rfl ?_
  refine at_loop (fun x : Nat × List Tm × Nat × Nat => x.1 ≤ ms.length ∧ x.2.1.length = x.1 ∧ runG l (ms.drop x.1) x.2.1 = runG l ms [] ∧ (∀ t ∈ x.2.1, Gd t) ∧ x.2.1.length ≤ x.2.2.1 ∧ x.2.1.length * 4 + x.2.2.2 = x.2.2.1 * 4)
    (fun x => [(0, .lst 4 (rowsT l)), (1, .lst 4 (rowsM ms)), (6, .ptr 0 0), (7, I x.1)]) (fun x => rsO l x.2.1 x.2.2.1 x.2.2.2) (fun x => ms.length - x.1) [2, 3, 4, 5, 6, 7, 8, 9]
    (0, [], 0, 0) ⟨by dsimp only; omega, rfl, rfl, by simp, by simp, by simp⟩ ⟨SVle.refl _, SVle.refl _, SVle.refl _, SVle.refl _, trivial⟩ ⟨rfl, by show some _ = some (SO.buf (rowsT []) 0); rw [rowsT_nil], trivial⟩ ?_
  rintro ⟨i, acc, c, r⟩ ⟨a1, a2, a3, a4, a5, a6⟩
  dsimp only at a1 a2 a3 a4 a5 a6
  refine run 400 rfl ?_
  refine at_ifd rfl (fun g => ?_) (fun g => ?_)
  rotate_left
  · dsimp only at g
    rw [hml] at g
    have : i = ms.length := by omega
    subst this
    rw [List.drop_length] at a3
    refine run 400 rfl ?_
    refine at_pubS 4 1 4 rfl rfl (rowsT_len acc).symm a5 rowsT_sz rfl ?_
    refine at_ret rfl rfl [] ⟨⟨.lst 4 (rowsT acc), by rw [← a3, runG], by rw [← a3, runG]; exact SVle.refl _⟩, rfl, rfl⟩ trivial
  dsimp only at g
  rw [hml] at g
  have hlt : i < ms.length := by omega
  have hget := rowsM_get hlt
  have hdr : ms.drop i = ms.getD i .zero :: ms.drop (i + 1) := by
    rw [List.drop_eq_getElem_cons hlt, List.getD_eq_getElem?_getD, List.getElem?_eq_getElem hlt]
    rfl
  rw [hdr] at a3
  generalize ms.getD i .zero = m at hget a3
  refine run 400 rfl ?_
  refine at_val (.rp (mr m) 0) (does_index ty_ok _ rfl rfl rfl (by omega) (show (rowsM ms)[(i : Int).toNat]? = some (mr m) from hget) rfl) ?_
  refine run 400 rfl ?_
  have hone := one_fn l acc c r m a4
  have hstep := runR_eq l (m :: ms.drop (i + 1)) acc
  rw [runR] at hstep
  rcases hr : oneF l acc m with ⟨ot, e1⟩
  rw [hr] at hone hstep
  cases ot with
  | none =>
    have hstep : ([], e1) = runG l (m :: ms.drop (i + 1)) acc := hstep
    refine at_callF [0, 1] hone rfl ⟨rfl, rfl, trivial⟩ rfl rfl rfl ?_
    have he : e1 ≠ 0 := by
      intro h0
      subst h0
      rw [oneF] at hr
      split at hr
      · cases hr
      · split at hr
        · split at hr <;> cases hr
        · cases hr
    refine run 400 rfl ?_
    refine at_false 33 rfl (by simpa using he) ?_
    refine run 400 rfl ?_
    refine at_if rfl (fun _ => ?_) (fun q => absurd (by simpa using q) he)
    refine run 400 rfl ?_
    exact at_ret rfl rfl [] ⟨⟨.tl 0 [], by rw [← a3, ← hstep]; rfl, by rw [← a3, ← hstep]; exact SVle.nils⟩, rfl, rfl⟩ trivial
  | some t =>
    have he : e1 = 0 := by
      rw [oneF] at hr
      split at hr
      · cases hr
      · split at hr
        · split at hr
          · cases hr; rfl
          · cases hr
        · cases hr
    subst he
    have hstep : (if mayF t then runR l (ms.drop (i + 1)) (acc ++ [t]) else ([], 3)) = runG l (m :: ms.drop (i + 1)) acc := hstep
    refine at_callF [0, 1] hone rfl ⟨rfl, rfl, trivial⟩ rfl rfl rfl ?_
    refine run 400 rfl ?_
    refine at_true 33 rfl rfl ?_
    refine run 400 rfl ?_
    refine at_fn (rmay_fn t) rfl ?_
    refine run 400 rfl ?_
    refine at_if rfl (fun q => ?_) (fun q => ?_)
    · have q : mayF t = false := by simpa using q
      rw [q, if_neg (by decide)] at hstep
      refine run 400 rfl ?_
      refine at_if rfl (fun _ => ?_) (fun q => by cases q)
      refine run 400 rfl ?_
      exact at_ret rfl rfl [] ⟨⟨.tl 0 [], by rw [← a3, ← hstep], by rw [← a3, ← hstep]; exact SVle.nils⟩, rfl, rfl⟩ trivial
    · have q : mayF t = true := by simpa using q
      rw [q, if_pos rfl, runR_eq] at hstep
      refine run 400 rfl ?_
      refine at_if rfl (fun q => by cases q) (fun _ => ?_)
      refine run 400 rfl ?_
      refine at_stages ?_
      refine at_stage 7 [] rfl rfl rfl rfl rfl [(6, .gro (.tl 4 [[.int .i64 0, .int .i64 0, .str .empty, .lst 4 []]]))] [10, 11, 12] rfl (by exact doesG_build ty_ok _ rfl ⟨⟨rfl, rfl, _, rfl, ⟨SVle.refl _, SVle.refl _, SVle.refl _, fun g H x h => SVle.tl 4 [] g H x (SVle.nil 4 g H x h), trivial⟩⟩, trivial⟩ rfl rfl (by decide)) ?_
      refine at_forced [21, 22] (fun y : Nat × Nat => acc.length + 1 ≤ y.1 ∧ (acc.length + 1) * 4 + y.2 = y.1 * 4) (fun y => [(0, .lst 4 (rowsT l)), (1, .lst 4 (rowsM ms)), (6, .ptr 0 0), (7, I i), (41, .ptr 0 0), (45, t.sv), (46, I acc.length), (48, .sl 20 0 (acc.length + 1) y.1)])
        (fun y => [(0, .cells 73 [.lst 4 (rowsT l), .sl 1 0 acc.length c]), (20, .buf (rowsT acc ++ [tr z0]) y.2)]) rfl rfl rfl rfl rfl ?_ ?_
      · refine at_appendS 1 20 4 ty_ok rfl rfl rfl rfl rfl rfl rfl (rowsT_len acc).symm rowsT_sz a6 a5 (by simp) rfl (by simp; omega) (by show _ * 56 ≤ _; simp; omega) rfl ?_
        intro c' r' h1 h2
        refine run 400 rfl ?_
        exact at_joined (c', r') ⟨h1, h2⟩ ⟨SVle.refl _, SVle.refl _, SVle.refl _, SVle.refl _, SVle.refl _, SVle.refl _, SVle.refl _, SVle.refl _, trivial⟩ ⟨rfl, by rw [← row_z0]; rfl, trivial⟩
      · rintro ⟨c', r'⟩ ⟨h1, h2⟩
        dsimp only at h1 h2 ⊢
        have hsz : ∀ q ∈ rowsT acc ++ [tr z0], q.length = 4 := by
          intro q hq
          rcases List.mem_append.1 hq with hq | hq
          · exact rowsT_sz q hq
          · rw [List.mem_singleton] at hq; subst hq; rfl
        have hset : (rowsT acc ++ [tr z0]).set acc.length (tr t) = rowsT (acc ++ [t]) := by
          rw [← rowsT_len acc, set_last, rowsT_app, rowsT_cons, rowsT_nil]
        refine at_stage 5 [0, 20] rfl rfl rfl rfl rfl [(8, .val (.ptr 20 (0 + (acc.length : Int).toNat * 4))), (9, .put 20 (.buf ((rowsT acc ++ [tr z0]).set acc.length (tr t)) r'))] [30] rfl
          ⟨doesWS_row (i := acc.length) (sz := 4) ty_ok (tr t) rfl rfl rfl (fun e => by cases e) rfl (by omega) hsz (by simp [rowsT_len]) rfl, does_indexS ty_ok rfl rfl rfl (by omega) rfl⟩ ?_
        refine at_stage_end [2, 3, 4, 5, 6, 7, 8, 9] rfl ?_
        refine at_swap 1 20 ?_
        refine run 400 rfl ?_
        have hgt : Gd t := mayF_gd q
        exact at_again (i + 1, acc ++ [t], c', r') ⟨by dsimp only; omega, by simp [a2], by dsimp only; rw [hstep, a3], by
            intro x hx
            dsimp only at hx
            rcases List.mem_append.1 hx with hx | hx
            · exact a4 x hx
            · rw [List.mem_singleton] at hx; subst hx; exact hgt, by dsimp only; rw [List.length_append]; exact h1, by dsimp only; rw [List.length_append]; exact h2⟩ (by dsimp only; omega)
          ⟨SVle.refl _, SVle.refl _, SVle.refl _, SVle.of_eq (by show I ((i : Int) + 1) = I ((i + 1 : Nat) : Int); rw [Int.natCast_add]; rfl), trivial⟩
          ⟨by show some _ = some (SO.cells 73 [.lst 4 (rowsT l), .sl 1 0 (acc ++ [t]).length c']); rw [List.length_append]; rfl, by dsimp only; rw [← hset]; rfl, trivial⟩
end Go.Proofs.Ytmnmhehddbemkaa
namespace Go.Proofs.Ytmnmhehddbemkaa
open Go Go.Eng

theorem isnan_fn (n : Int) : Gives Try.prog 116 [I n] .ff := by
  refine Gives.le (a := .bl (!(n == n))) ?_ (fun _ _ x h => by
    have h : x = .bool (!(n == n)) := h
    rw [beq_self_eq_true] at h
    exact h)
  refine contract_of ty_ok [0, 1, 2, 3, 4, 5, 6, 7] Try.func116 rfl (by decide) Try.ntmps116 rfl fun z => ?_
  refine run 400 rfl ?_
  exact at_ret rfl rfl [] ⟨rfl, rfl, rfl⟩ trivial

theorem cmpI_fn (a b : Int) : Gives Try.prog 98 [I a, I b] (I (sgI a b)) := by
  refine contract_of ty_ok [0, 1, 2, 3, 4, 5, 6, 7] Try.func98 rfl (by decide) Try.ntmps98 rfl fun z => ?_
  refine run 400 rfl ?_
  refine at_fn (isnan_fn a) rfl ?_
  refine run 400 rfl ?_
  refine at_fn (isnan_fn b) rfl ?_
  refine run 400 rfl ?_
  refine at_ifd rfl (fun h => ?_) (fun h => ?_)
  · refine run 400 rfl ?_
    exact at_ret rfl rfl [] ⟨by rw [sgI, if_pos h], rfl, rfl⟩ trivial
  refine run 400 rfl ?_
  refine at_ifd rfl (fun h2 => ?_) (fun h2 => ?_)
  · refine run 400 rfl ?_
    exact at_ret rfl rfl [] ⟨by rw [sgI, if_neg h, if_pos h2], rfl, rfl⟩ trivial
  refine run 400 rfl ?_
  exact at_ret rfl rfl [] ⟨by rw [sgI, if_neg h, if_neg h2], rfl, rfl⟩ trivial

/-- The order of two strings. -/
theorem does_cmpstr {o : Oper} {env : List (Nat × SV)} {own : List (Nat × SO)} {x y : Operand} {c : Call} (a b : ByteArray) (ho : o.op = .call c) (hc : c.callee = .value (.func 132)) (ha : c.args = #[x, y]) (hx : ev env x = .str a) (hy : ev env y = .str b) :
    DoesV Try.prog o env own (I (Lib.compareBytes a.data.toList b.data.toList)) := by
  refine does_val fun cx g H n act w hd => ⟨.int .i64 (Lib.compareBytes a.data.toList b.data.toList), ?_, rfl⟩
  have e1 : act.eval x = .string a := by have := hd.ev x; rw [hx] at this; exact this
  have e2 : act.eval y = .string b := by have := hd.ev y; rw [hy] at this; exact this
  have e3 : act.eval (.func 132) = .func (.func 132) #[] #[] := rfl
  simp only [execOp, ho, hc, ha, resolve, e3, Deferred.ofValue]
  have hr := run_callFunc_extern Try.func132 (by kernel_rfl) (by kernel_rfl) (by kernel_rfl) (e := Extern.BytealgCompare.compare) (by kernel_rfl) #[.string a, .string b] w
  rw [Lib.run_compareString] at hr
  simpa [invoke, e1, e2] using hr
theorem bytesLess_cmp : ∀ a b : List UInt8, Lib.compareBytes a b = if Op.bytesLess a b then -1 else if !(Op.bytesLess a b || a == b) then 1 else 0
  | [], [] => rfl
  | [], _ :: _ => rfl
  | _ :: _, [] => rfl
  | x :: a, y :: b => by
    rw [Lib.compareBytes, Op.bytesLess, bytesLess_cmp a b]
    by_cases h1 : x < y
    · simp [h1]
    · by_cases h2 : y < x
      · have : x ≠ y := fun e => by rw [e] at h2; exact absurd h2 (UInt8.lt_irrefl y)
        simp [h1, h2, this]
      · have : x = y := UInt8.le_antisymm (UInt8.not_lt.1 h2) (UInt8.not_lt.1 h1)
        subst this
        simp [UInt8.lt_irrefl]
theorem cmpB_sgS (a b : ByteArray) : Lib.compareBytes a.data.toList b.data.toList = sgS a b := by
  rw [bytesLess_cmp, sgS, slt, seq, tl_data, tl_data]

theorem cmpS117_fn (a b : ByteArray) : Gives Try.prog 117 [.str a, .str b] (I (sgS a b)) := by
  rw [← cmpB_sgS]
  refine contract_of ty_ok [0, 1, 2, 3, 4, 5, 6, 7] Try.func117 rfl (by decide) Try.ntmps117 rfl fun z => ?_
  refine run 400 rfl ?_
  refine at_val (I (Lib.compareBytes a.data.toList b.data.toList)) (does_cmpstr a b rfl rfl rfl rfl rfl) ?_
  refine run 400 rfl ?_
  exact at_ret rfl rfl [] ⟨rfl, rfl, rfl⟩ trivial
theorem cmpS_fn (a b : ByteArray) : Gives Try.prog 99 [.str a, .str b] (I (sgS a b)) := by
  refine contract_of ty_ok [0, 1, 2, 3, 4, 5, 6, 7] Try.func99 rfl (by decide) Try.ntmps99 rfl fun z => ?_
  refine run 400 rfl ?_
  refine at_fn (cmpS117_fn a b) rfl ?_
  refine run 400 rfl ?_
  exact at_ret rfl rfl [] ⟨rfl, rfl, rfl⟩ trivial

theorem or4_fn (a b c d : Int) : Gives Try.prog 97 [.lst 1 (ints [a, b, c, d])] (I (orI a (orI b (orI c d)))) := by
  refine contract_of ty_ok [0, 1, 2, 3, 4, 5, 6, 7] Try.func97 rfl (by decide) Try.ntmps97 rfl fun z => ?_
  refine run 400 rfl ?_
  refine at_loop (fun i : Nat => i ≤ 4 ∧ ∀ j, j < i → [a, b, c, d].getD j 0 = 0) (fun i => [(3, I 0), (6, .lst 1 (ints [a, b, c, d])), (7, I 4), (8, I i)]) (fun _ => []) (fun i => 4 - i) [0, 1, 2, 3, 4, 5, 6, 7]
    0 ⟨by omega, fun j h => by omega⟩ ⟨SVle.refl _, SVle.refl _, SVle.refl _, SVle.refl _, trivial⟩ trivial ?_
  rintro i ⟨hi, hz⟩
  refine run 400 rfl ?_
  refine at_ifd rfl (fun g => ?_) (fun g => ?_)
  rotate_left
  · refine run 400 rfl ?_
    have e : i = 4 := by omega
    subst e
    have h0 : a = 0 := hz 0 (by omega)
    have h1 : b = 0 := hz 1 (by omega)
    have h2 : c = 0 := hz 2 (by omega)
    have h3 : d = 0 := hz 3 (by omega)
    exact at_ret rfl rfl [] ⟨by rw [h0, h1, h2, h3]; rfl, rfl, rfl⟩ trivial
  have hlt : i < 4 := by omega
  obtain ⟨v, hv⟩ : ∃ v, (ints [a, b, c, d])[i]? = some [.int .i64 v] ∧ [a, b, c, d].getD i 0 = v := by
    match i, hlt with
    | 0, _ => exact ⟨a, rfl, rfl⟩
    | 1, _ => exact ⟨b, rfl, rfl⟩
    | 2, _ => exact ⟨c, rfl, rfl⟩
    | 3, _ => exact ⟨d, rfl, rfl⟩
  refine run 400 rfl ?_
  refine at_val (.rp [.int .i64 v] 0) (does_index ty_ok _ rfl rfl rfl (by omega) (show (ints [a, b, c, d])[(i : Int).toNat]? = some [.int .i64 v] from hv.1) rfl) ?_
  refine run 400 rfl ?_
  refine at_if rfl (fun q => ?_) (fun q => ?_)
  · refine run 400 rfl ?_
    have q : v ≠ 0 := by simpa using q
    refine at_ret rfl rfl [] ⟨?_, rfl, rfl⟩ trivial
    have hz' := hz
    match i, hlt, hv.2, hz' with
    | 0, _, e, _ => simp at e; rw [e, orI_ne q]
    | 1, _, e, z => simp at e; rw [show a = 0 from z 0 (by omega), e, orI_00, orI_ne q]
    | 2, _, e, z => simp at e; rw [show a = 0 from z 0 (by omega), show b = 0 from z 1 (by omega), e, orI_00, orI_00, orI_ne q]
    | 3, _, e, z => simp at e; rw [show a = 0 from z 0 (by omega), show b = 0 from z 1 (by omega), show c = 0 from z 2 (by omega), e, orI_00, orI_00, orI_00]
  · have q : v = 0 := by simpa using q
    refine run 400 rfl ?_
    exact at_again (i + 1) ⟨by omega, fun j hj => by
      by_cases e : j = i
      · rw [e, hv.2, q]
      · exact hz j (by omega)⟩ (by omega) ⟨SVle.refl _, SVle.refl _, SVle.refl _, SVle.of_eq (by show I ((i : Int) + 1) = I ((i + 1 : Nat) : Int); rw [Int.natCast_add]; rfl), trivial⟩ trivial
end Go.Proofs.Ytmnmhehddbemkaa
namespace Go.Proofs.Ytmnmhehddbemkaa
open Go Go.Eng

theorem cmpL_fn (l l' : List Tm) (hl : l.length ≤ 1000000) (ih : ∀ t ∈ l, ∀ u : Tm, Gives Try.prog 77 [t.sv, u.sv] (I (ordT t u))) : Gives Try.prog 100 [.lst 4 (rowsT l), .lst 4 (rowsT l'), .clo 77 []] (I (orI (ordL l l') (sgI l.length l'.length))) := by
  have hl1 : ((rowsT l).length : Int) = l.length := by rw [rowsT_len]
  have hl2 : ((rowsT l').length : Int) = l'.length := by rw [rowsT_len]
  refine contract_of ty_ok [0, 1, 2, 3, 4, 5, 6, 7] Try.func100 rfl (by decide) Try.ntmps100 rfl fun z => ?_
  refine run 400 rfl ?_
  refine at_loop (fun i : Nat => i ≤ l.length ∧ i ≤ l'.length ∧ ordL (l.drop i) (l'.drop i) = ordL l l') (fun i => [(0, .lst 4 (rowsT l)), (1, .lst 4 (rowsT l')), (2, .clo 77 []), (11, .lst 4 (rowsT l)), (12, I (rowsT l).length), (13, I i)]) (fun _ => []) (fun i => l.length - i) [0, 1, 2, 3, 4, 5, 6, 7]
    0 ⟨by omega, by omega, rfl⟩ ⟨SVle.refl _, SVle.refl _, SVle.refl _, SVle.refl _, SVle.refl _, SVle.refl _, trivial⟩ trivial ?_
  rintro i ⟨hi, hi2, ho⟩
  refine run 400 rfl ?_
  refine at_ifd rfl (fun g => ?_) (fun g => ?_)
  rotate_left
  · rw [hl1] at g
    have hfin : ordL l l' = 0 := by
      rw [← ho, List.drop_eq_nil_of_le (by omega)]
      cases l'.drop i <;> simp [ordL]
    refine run 400 rfl ?_
    refine at_ifd rfl (fun q => ?_) (fun q => ?_)
    · rw [hl1, hl2] at q
      refine run 400 rfl ?_
      exact at_ret rfl rfl [] ⟨by rw [hfin, orI_00, sgI, if_pos q], rfl, rfl⟩ trivial
    · rw [hl1, hl2] at q
      refine run 400 rfl ?_
      exact at_ret rfl rfl [] ⟨by rw [hfin, orI_00, sgI, if_neg q, if_neg (by omega)], rfl, rfl⟩ trivial
  rw [hl1] at g
  have hlt : i < l.length := by omega
  have hget := rowsT_get hlt
  have hmem := getD_mem hlt
  rw [drop_getD hlt] at ho
  generalize l.getD i .zero = u at hget hmem ho
  refine run 400 rfl ?_
  refine at_val (.rp (tr u) 0) (does_index ty_ok _ rfl rfl rfl (by omega) (show (rowsT l)[(i : Int).toNat]? = some (tr u) from hget) rfl) ?_
  refine run 400 rfl ?_
  refine at_ifd rfl (fun q => ?_) (fun q => ?_)
  · rw [hl2] at q
    refine run 400 rfl ?_
    have e : l'.drop i = [] := List.drop_eq_nil_of_le (by omega)
    refine at_ret rfl rfl [] ⟨?_, rfl, rfl⟩ trivial
    rw [← ho, e]
    simp only [ordL]
    rw [orI_00, sgI, if_neg (by omega), if_pos (by omega)]
  rw [hl2] at q
  have hlt2 : i < l'.length := by omega
  have hget2 := rowsT_get hlt2
  rw [drop_getD hlt2] at ho
  generalize l'.getD i .zero = v at hget2 ho
  rw [ordL] at ho
  refine run 400 rfl ?_
  refine at_val (.rp (tr v) 0) (does_index ty_ok _ rfl rfl rfl (by omega) (show (rowsT l')[(i : Int).toNat]? = some (tr v) from hget2) rfl) ?_
  refine run 400 rfl ?_
  refine at_fn (ih u hmem v) rfl ?_
  refine run 400 rfl ?_
  refine at_if rfl (fun p => ?_) (fun p => ?_)
  · have p : ordT u v ≠ 0 := by simpa using p
    refine run 400 rfl ?_
    refine at_ret rfl rfl [] ⟨?_, rfl, rfl⟩ trivial
    rw [← ho, orI_ne p, orI_ne p]
  · have p : ordT u v = 0 := by simpa using p
    rw [p, orI_00] at ho
    refine run 400 rfl ?_
    exact at_again (i + 1) ⟨by omega, by omega, ho⟩ (by omega) ⟨SVle.refl _, SVle.refl _, SVle.refl _, SVle.refl _, SVle.refl _, SVle.of_eq (by show I ((i : Int) + 1) = I ((i + 1 : Nat) : Int); rw [Int.natCast_add]; rfl), trivial⟩ trivial

theorem orI_assoc (a b c : Int) : orI (orI a b) c = orI a (orI b c) := by
  unfold orI
  by_cases h : a = 0 <;> simp [h]

set_option maxRecDepth 100000 in
theorem tcmp_fn (a b : Tm) (h : Sm a) : Gives Try.prog 77 [a.sv, b.sv] (I (ordT a b)) := by
  induction a using Tm.ind generalizing b with
  | h k n s l ih =>
    obtain ⟨k', n', s', l'⟩ := b
    have hL : l.length ≤ 1000000 ∧ ∀ t ∈ l, Sm t := by
      cases h with
      | mk h1 h2 => exact ⟨h1, h2⟩
    have hc := cmpL_fn l l' hL.1 fun t ht u => ih t ht u (hL.2 t ht)
    have hT : ordT (.mk k n s l) (.mk k' n' s' l') = orI (sgI k k') (orI (sgI n n') (orI (sgS s s') (orI (ordL l l') (sgI l.length l'.length)))) := by
      rw [ordT, orI_assoc, orI_assoc, orI_assoc]
    have hor := or4_fn (sgI k k') (sgI n n') (sgS s s') (orI (ordL l l') (sgI l.length l'.length))
    rw [hT]
    generalize orI (ordL l l') (sgI l.length l'.length) = q at hc hor
    refine contract_of ty_ok [0, 1, 2, 3, 4, 5, 6, 7] Try.func77 rfl (by decide) Try.ntmps77 rfl fun z => ?_
    refine run 400 rfl ?_
    refine at_drawn 22 rfl rfl [(4, .sv (I (sgI k k'))), (9, .sv (I (sgI n n'))), (14, .sv (I (sgS s s'))), (19, .sv (I q)), (20, .gro (.tl 1 (ints [sgI k k', sgI n n', sgS s s', q]))), (21, .sv (I (orI (sgI k k') (orI (sgI n n') (orI (sgS s s') q)))))] [20, 21, 22] rfl
      ⟨hor.weak ⟨SVle.tl _ _, trivial⟩, doesG_build ty_ok _ rfl ⟨⟨rfl, rfl, _, rfl, SVles.refl _⟩, ⟨rfl, rfl, _, rfl, SVles.refl _⟩, ⟨rfl, rfl, _, rfl, SVles.refl _⟩, ⟨rfl, rfl, _, rfl, SVles.refl _⟩, trivial⟩ rfl rfl (by decide), hc, cmpS_fn s s', cmpI_fn n n', cmpI_fn k k'⟩ ?_
    refine run 400 rfl ?_
    exact at_ret rfl rfl [] ⟨rfl, rfl, rfl⟩ trivial

theorem tsame_fn (a b : Tm) (h : Sm a) : Gives Try.prog 45 [a.sv, b.sv] (.bl (same a b)) := by
  refine contract_of ty_ok [0, 1, 2, 3, 4, 5, 6, 7] Try.func45 rfl (by decide) Try.ntmps45 rfl fun z => ?_
  refine run 400 rfl ?_
  refine at_fn (tcmp_fn a b h) rfl ?_
  refine run 400 rfl ?_
  exact at_ret rfl rfl [] ⟨rfl, rfl, rfl⟩ trivial
theorem tless_fn (a b : Tm) (h : Sm a) : Gives Try.prog 47 [a.sv, b.sv] (.bl (decide (ordT a b < 0))) := by
  refine contract_of ty_ok [0, 1, 2, 3, 4, 5, 6, 7] Try.func47 rfl (by decide) Try.ntmps47 rfl fun z => ?_
  refine run 400 rfl ?_
  refine at_fn (tcmp_fn a b h) rfl ?_
  refine run 400 rfl ?_
  exact at_ret rfl rfl [] ⟨rfl, rfl, rfl⟩ trivial
end Go.Proofs.Ytmnmhehddbemkaa
namespace Go.Proofs.Ytmnmhehddbemkaa
open Go Go.Eng
set_option maxRecDepth 100000

theorem all_fn (l : List Tm) (h : ∀ x ∈ l, Sm x) (hl : l.length ≤ 10000000) : Gives Try.prog 24 [.lst 4 (rowsT l), .lst 4 (rowsT l)] .tt := by
  have hlen := rowsT_len l
  refine contract_of ty_ok [0, 1, 2, 3, 4, 5, 6, 7] Try.func24 rfl (by decide) Try.ntmps24 rfl fun z => ?_
  refine run 400 rfl ?_
  refine at_if rfl (fun q => by simp at q) (fun _ => ?_)
  refine run 400 rfl ?_
  refine at_loop (fun i : Nat => i ≤ l.length) (fun i => [(0, .lst 4 (rowsT l)), (1, .lst 4 (rowsT l)), (5, I i)]) (fun _ => []) (fun i => l.length - i) [0, 1, 2, 3, 4, 5, 6, 7]
    0 (by omega) ⟨SVle.refl _, SVle.refl _, SVle.refl _, trivial⟩ trivial ?_
  intro i hi
  refine run 400 rfl ?_
  refine at_ifd rfl (fun g => ?_) (fun g => ?_)
  rotate_left
  · refine run 400 rfl ?_
    exact at_ret rfl rfl [] ⟨rfl, rfl, rfl⟩ trivial
  rw [hlen] at g
  have hlt : i < l.length := by omega
  have hget := rowsT_get hlt
  have hmem := getD_mem hlt
  generalize l.getD i .zero = u at hget hmem
  refine run 400 rfl ?_
  refine at_drawn 10 rfl rfl [(2, .val (.rp (tr u) 0)), (6, .val (.rp (tr u) 0)), (8, .sv (.bl (same u u)))] [20, 21, 22] rfl
    ⟨same_fn u u (h u hmem), does_index ty_ok _ rfl rfl rfl (by omega) (show (rowsT l)[(i : Int).toNat]? = some (tr u) from hget) rfl, does_index ty_ok _ rfl rfl rfl (by omega) (show (rowsT l)[(i : Int).toNat]? = some (tr u) from hget) rfl⟩ ?_
  refine run 400 rfl ?_
  refine at_if rfl (fun q => by rw [same_iff.2 rfl] at q; cases q) (fun _ => ?_)
  refine run 400 rfl ?_
  exact at_again (i + 1) (by omega) (by omega) ⟨SVle.refl _, SVle.refl _, SVle.of_eq (by show I ((i : Int) + 1) = I ((i + 1 : Nat) : Int); rw [Int.natCast_add]; rfl), trivial⟩ trivial

theorem runF_bnd (l : List Tm) (ms : List Mv) : (runF l ms).1.length ≤ 1024 := by
  by_cases h : (runF l ms).2 = 0
  · rw [runF_len l ms h]
    by_cases h2 : 1024 < ms.length
    · unfold runF at h; rw [if_pos h2] at h; cases h
    · omega
  · rw [runF_err l ms h]; simp
def provesF (l : List Tm) (ms : List Mv) (t : Tm) : Bool := ((runF l ms).2 == 0) && decide (0 < (runF l ms).1.length) && same ((runF l ms).1.getD ((runF l ms).1.length - 1) .zero) t

theorem proves_fn (l : List Tm) (ms : List Mv) (t : Tm) (hl : l.length ≤ 1000000) : Gives Try.prog 25 [.lst 4 (rowsT l), .lst 4 (rowsM ms), t.sv] (.bl (provesF l ms t)) := by
  have hR := run_fn l ms hl
  have hsm := runF_sm l ms
  unfold provesF
  have hlen := rowsT_len (runF l ms).1
  have hbd := runF_bnd l ms
  generalize runF l ms = R at hR hsm hlen hbd
  obtain ⟨out, e⟩ := R
  dsimp only at hR hsm hlen hbd ⊢
  by_cases he : e = 0
  · by_cases h0 : 0 < out.length
    · have hlt : out.length - 1 < out.length := by omega
      have hget := rowsT_get hlt
      have hmem := getD_mem hlt
      have hS := tsame_fn (out.getD (out.length - 1) .zero) t (hsm _ hmem)
      generalize out.getD (out.length - 1) .zero = u at hget hmem hS
      have hb : ((e == 0) && decide (0 < out.length) && same u t) = same u t := by simp [he, h0]
      rw [hb]
      refine contract_of ty_ok [0, 1, 2, 3, 4, 5, 6, 7] Try.func25 rfl (by decide) Try.ntmps25 rfl fun z => ?_
      refine run 400 rfl ?_
      refine at_fn hR rfl ?_
      refine run 400 rfl ?_
      refine at_drawn 18 rfl rfl [(1, .yes), (5, .yes), (12, .val (.rp (tr u) 0)), (15, .sv (.bl (same u t)))] [20, 21, 22] rfl
        ⟨hS, does_index ty_ok _ rfl rfl rfl (by omega) (show (rowsT out)[(((rowsT out).length : Int) - 1).toNat]? = some (tr u) by rw [hlen, show ((out.length : Int) - 1).toNat = out.length - 1 by omega]; exact hget) rfl, by simp only [inR]; omega, by simp; omega, by show (e == 0) = true; simp [he]⟩ ?_
      refine run 400 rfl ?_
      exact at_ret rfl rfl [] ⟨rfl, rfl, rfl⟩ trivial
    · have hb : ((e == 0) && decide (0 < out.length) && same (out.getD (out.length - 1) .zero) t) = false := by simp [h0]
      rw [hb]
      refine Gives.le (a := .ff) ?_ (SVle.ff rfl)
      refine contract_of ty_ok [0, 1, 2, 3, 4, 5, 6, 7] Try.func25 rfl (by decide) Try.ntmps25 rfl fun z => ?_
      refine run 400 rfl ?_
      refine at_fn hR rfl ?_
      refine run 400 rfl ?_
      refine at_drawn 18 rfl rfl [(1, .yes), (5, .no)] [20, 21, 22] rfl ⟨by show decide ((0 : Int) < ((rowsT out).length : Int)) = false; rw [hlen, decide_eq_false_iff_not]; omega, by show (e == 0) = true; simp [he]⟩ ?_
      refine run 400 rfl ?_
      exact at_ret rfl rfl [] ⟨rfl, rfl, rfl⟩ trivial
  · have hb : ((e == 0) && decide (0 < out.length) && same (out.getD (out.length - 1) .zero) t) = false := by simp [he]
    rw [hb]
    refine Gives.le (a := .ff) ?_ (SVle.ff rfl)
    refine contract_of ty_ok [0, 1, 2, 3, 4, 5, 6, 7] Try.func25 rfl (by decide) Try.ntmps25 rfl fun z => ?_
    refine run 400 rfl ?_
    refine at_fn hR rfl ?_
    refine run 400 rfl ?_
    refine at_drawn 18 rfl rfl [(1, .no)] [20, 21, 22] rfl (by show (e == 0) = false; simp [he]) ?_
    refine run 400 rfl ?_
    exact at_ret rfl rfl [] ⟨rfl, rfl, rfl⟩ trivial
theorem rproves_fn (l : List Tm) (ms : List Mv) (t : Tm) : Gives Try.prog 26 [.lst 4 (rowsT l), .lst 4 (rowsM ms), t.sv] (.bl (provesF l ms t)) := by
  have hR := rrun_fn l ms
  have hsm := runF_sm l ms
  unfold provesF
  have hlen := rowsT_len (runF l ms).1
  have hbd := runF_bnd l ms
  generalize runF l ms = R at hR hsm hlen hbd
  obtain ⟨out, e⟩ := R
  dsimp only at hR hsm hlen hbd ⊢
  by_cases he : e = 0
  · by_cases h0 : 0 < out.length
    · have hlt : out.length - 1 < out.length := by omega
      have hget := rowsT_get hlt
      have hmem := getD_mem hlt
      have hS := same_fn (out.getD (out.length - 1) .zero) t (hsm _ hmem)
      generalize out.getD (out.length - 1) .zero = u at hget hmem hS
      have hb : ((e == 0) && decide (0 < out.length) && same u t) = same u t := by simp [he, h0]
      rw [hb]
      refine contract_of ty_ok [0, 1, 2, 3, 4, 5, 6, 7] Try.func26 rfl (by decide) Try.ntmps26 rfl fun z => ?_
      refine run 400 rfl ?_
      refine at_fn hR rfl ?_
      refine run 400 rfl ?_
      refine at_drawn 18 rfl rfl [(1, .yes), (5, .yes), (12, .val (.rp (tr u) 0)), (15, .sv (.bl (same u t)))] [20, 21, 22] rfl
        ⟨hS, does_index ty_ok _ rfl rfl rfl (by omega) (show (rowsT out)[(((rowsT out).length : Int) - 1).toNat]? = some (tr u) by rw [hlen, show ((out.length : Int) - 1).toNat = out.length - 1 by omega]; exact hget) rfl, by simp only [inR]; omega, by simp; omega, by show (e == 0) = true; simp [he]⟩ ?_
      refine run 400 rfl ?_
      exact at_ret rfl rfl [] ⟨rfl, rfl, rfl⟩ trivial
    · have hb : ((e == 0) && decide (0 < out.length) && same (out.getD (out.length - 1) .zero) t) = false := by simp [h0]
      rw [hb]
      refine Gives.le (a := .ff) ?_ (SVle.ff rfl)
      refine contract_of ty_ok [0, 1, 2, 3, 4, 5, 6, 7] Try.func26 rfl (by decide) Try.ntmps26 rfl fun z => ?_
      refine run 400 rfl ?_
      refine at_fn hR rfl ?_
      refine run 400 rfl ?_
      refine at_drawn 18 rfl rfl [(1, .yes), (5, .no)] [20, 21, 22] rfl ⟨by show decide ((0 : Int) < ((rowsT out).length : Int)) = false; rw [hlen, decide_eq_false_iff_not]; omega, by show (e == 0) = true; simp [he]⟩ ?_
      refine run 400 rfl ?_
      exact at_ret rfl rfl [] ⟨rfl, rfl, rfl⟩ trivial
  · have hb : ((e == 0) && decide (0 < out.length) && same (out.getD (out.length - 1) .zero) t) = false := by simp [he]
    rw [hb]
    refine Gives.le (a := .ff) ?_ (SVle.ff rfl)
    refine contract_of ty_ok [0, 1, 2, 3, 4, 5, 6, 7] Try.func26 rfl (by decide) Try.ntmps26 rfl fun z => ?_
    refine run 400 rfl ?_
    refine at_fn hR rfl ?_
    refine run 400 rfl ?_
    refine at_drawn 18 rfl rfl [(1, .no)] [20, 21, 22] rfl (by show (e == 0) = false; simp [he]) ?_
    refine run 400 rfl ?_
    exact at_ret rfl rfl [] ⟨rfl, rfl, rfl⟩ trivial

theorem oneT_fn (ks : List Int) (hl : ks.length ≤ 9223372036854775807) : Gives Try.prog 23 [.lst 1 (ints ks)] (genT ks 4 0).1.sv := by
  refine contract_of ty_ok [0, 1, 2, 3, 4, 5, 6, 7] Try.func23 rfl (by decide) Try.ntmps23 rfl fun z => ?_
  refine run 400 rfl ?_
  refine at_metF 1 (term_fn ks hl 4 (by omega) 0 (by omega) (by omega)) rfl rfl rfl ?_
  refine run 400 rfl ?_
  exact at_ret rfl rfl [] ⟨rfl, rfl, rfl⟩ trivial
end Go.Proofs.Ytmnmhehddbemkaa
namespace Go.Proofs.Ytmnmhehddbemkaa
open Go Go.Eng
set_option maxRecDepth 100000

theorem proofRun_fn (ns mn : List Int) (raw : List Mv) (ks : List Int) (h1 : ns.length ≤ 9223372036854775807) (h2 : mn.length ≤ 9223372036854775807) (h4 : ks.length ≤ 9223372036854775807) :
    Gives Try.prog 5 [.lst 1 (ints ns), .lst 1 (ints mn), .lst 4 (rowsM raw), .lst 1 (ints ks)] .tt := by
  have hT := terms_fn ns 8 h1 (by omega)
  have hM := moves_fn mn 30 h2 (by omega)
  have hO := oneT_fn ks h4
  have hgl := genL_gd ns 8 0 (by omega)
  have hog := (genT_gd ks 4 0 (by omega)).1
  generalize genL ns 8 0 = l at hT hgl
  generalize genM mn 30 0 0 = mv at hM
  generalize (genT ks 4 0).1 = one at hO hog
  have hlen := szL_len l
  have hrl : (rowsM raw).length = raw.length := by simp
  refine contract_of ty_ok [0, 1, 2, 3, 4, 5, 6, 7] Try.func5 rfl (by decide) Try.ntmps5 rfl fun z => ?_
  refine run 400 rfl ?_
  refine at_fn known16_fn rfl ?_
  refine run 400 rfl ?_
  refine at_ifd rfl (fun _ => ?_) (fun q => ?_)
  · refine run 400 rfl ?_
    exact at_ret rfl rfl [] ⟨rfl, rfl, rfl⟩ trivial
  rw [hrl] at q
  refine run 400 rfl ?_
  refine at_loop (fun i : Nat => i ≤ raw.length) (fun i => [(0, .lst 1 (ints ns)), (1, .lst 1 (ints mn)), (2, .lst 4 (rowsM raw)), (3, .lst 1 (ints ks)), (9, I i)]) (fun _ => []) (fun i => raw.length - i) [0, 1, 2, 3, 4, 5, 6, 7]
    0 (by omega) ⟨SVle.refl _, SVle.refl _, SVle.refl _, SVle.refl _, SVle.refl _, trivial⟩ trivial ?_
  intro i hi
  refine run 400 rfl ?_
  refine at_ifd rfl (fun g => ?_) (fun _ => ?_)
  · rw [hrl] at g
    have hlt : i < raw.length := by omega
    have hget := rowsM_get hlt
    generalize raw.getD i .zero = m at hget
    refine run 400 rfl ?_
    refine at_val (.rp (mr m) 0) (does_index ty_ok _ rfl rfl rfl (by omega) (show (rowsM raw)[(i : Int).toNat]? = some (mr m) from hget) rfl) ?_
    refine run 400 rfl ?_
    refine at_ifd rfl (fun _ => ?_) (fun _ => ?_)
    · refine run 400 rfl ?_
      exact at_ret rfl rfl [] ⟨rfl, rfl, rfl⟩ trivial
    · refine run 400 rfl ?_
      exact at_again (i + 1) (by omega) (by omega) ⟨SVle.refl _, SVle.refl _, SVle.refl _, SVle.refl _, SVle.of_eq (by show I ((i : Int) + 1) = I ((i + 1 : Nat) : Int); rw [Int.natCast_add]; rfl), trivial⟩ trivial
  refine run 400 rfl ?_
  refine at_fn hT rfl ?_
  refine run 400 rfl ?_
  refine at_fn hM rfl ?_
  refine run 400 rfl ?_
  refine at_gro (.tl 1 [[.lst 4 (rowsM raw)], [.lst 4 (rowsM mv)]]) (doesG_build ty_ok _ rfl ⟨⟨rfl, rfl, _, rfl, SVles.refl _⟩, ⟨rfl, rfl, _, rfl, SVles.refl _⟩, trivial⟩ rfl rfl (by decide)) ?_
  refine run 400 rfl ?_
  refine at_loop (fun i : Nat => i ≤ 2) (fun i => [(3, .lst 1 (ints ks)), (10, .lst 4 (rowsT l)), (11, .lst 1 [[.lst 4 (rowsM raw)], [.lst 4 (rowsM mv)]]), (12, I i)]) (fun _ => []) (fun i => 2 - i) [0, 1, 2, 3, 4, 5, 6, 7]
    0 (by omega) ⟨SVle.refl _, SVle.refl _, SVle.tl _ _, SVle.refl _, trivial⟩ trivial ?_
  intro i hi
  refine run 400 rfl ?_
  refine at_ifd rfl (fun g => ?_) (fun _ => ?_)
  rotate_left
  · refine run 400 rfl ?_
    exact at_ret rfl rfl [] ⟨rfl, rfl, rfl⟩ trivial
  obtain ⟨m, hget⟩ : ∃ m : List Mv, ([[.lst 4 (rowsM raw)], [.lst 4 (rowsM mv)]] : List (List DV))[(i : Int).toNat]? = some [.lst 4 (rowsM m)] := by
    match i, g with
    | 0, _ => exact ⟨raw, rfl⟩
    | 1, _ => exact ⟨mv, rfl⟩
    | i + 2, g => omega
  have hx := run_fn l m (by omega)
  have hy := rrun_fn l m
  have hp := fun t => proves_fn l m t (by omega)
  have hq := fun t => rproves_fn l m t
  have hall := all_fn (runF l m).1 (runF_sm l m) (by have := runF_bnd l m; omega)
  have hsm := runF_sm l m
  have hbd := runF_bnd l m
  generalize runF l m = R at hx hy hall hsm hbd
  obtain ⟨out, e⟩ := R
  dsimp only at hx hy hall hsm hbd
  have hol := rowsT_len out
  refine run 400 rfl ?_
  refine at_val (.rp [.lst 4 (rowsM m)] 0) (does_index ty_ok _ rfl rfl rfl (by omega) hget rfl) ?_
  refine run 400 rfl ?_
  refine at_fn hx rfl ?_
  refine run 400 rfl ?_
  refine at_val (.rp [.lst 4 (rowsM m)] 0) (does_index ty_ok _ rfl rfl rfl (by omega) hget rfl) ?_
  refine run 400 rfl ?_
  refine at_fn hy rfl ?_
  refine run 400 rfl ?_
  refine at_fn hO rfl ?_
  refine run 400 rfl ?_
  refine at_join (fun _ : Tm => True) (fun _ => [(3, .lst 1 (ints ks)), (10, .lst 4 (rowsT l)), (11, .lst 1 [[.lst 4 (rowsM raw)], [.lst 4 (rowsM mv)]]), (12, I i), (13, .lst 4 (rowsT out)), (14, I e), (15, .lst 4 (rowsT out)), (16, I e), (17, .ptr 0 0)]) (fun t => [(0, .cells 33 [I t.k, I t.n, .str t.s, .lst 4 (rowsT t.kids)])]) [1, 2, 3, 4, 5, 6, 7] ?_ ?_
  · refine at_ifd rfl (fun g2 => ?_) (fun _ => ?_)
    · rw [hol] at g2
      have hlt : out.length - 1 < out.length := by omega
      have hget2 := rowsT_get hlt
      generalize out.getD (out.length - 1) .zero = u at hget2
      refine run 400 rfl ?_
      refine at_val (.rp (tr u) 0) (does_index ty_ok _ rfl rfl rfl (by omega) (show (rowsT out)[(((rowsT out).length : Int) - 1).toNat]? = some (tr u) by rw [hol, show ((out.length : Int) - 1).toNat = out.length - 1 by omega]; exact hget2) rfl) ?_
      refine run 400 rfl ?_
      exact at_joined u trivial ⟨SVle.refl _, SVle.refl _, SVle.refl _, SVle.refl _, SVle.refl _, SVle.refl _, SVle.refl _, SVle.refl _, SVle.refl _, trivial⟩ ⟨rfl, trivial⟩
    · refine run 400 rfl ?_
      exact at_joined one trivial ⟨SVle.refl _, SVle.refl _, SVle.refl _, SVle.refl _, SVle.refl _, SVle.refl _, SVle.refl _, SVle.refl _, SVle.refl _, trivial⟩ ⟨rfl, trivial⟩
  intro t _
  refine run 400 rfl ?_
  have hp1 := hp t
  have hq1 := hq t
  have hp2 := hp one
  have hq2 := hq one
  generalize provesF l m t = p1 at hp1 hq1
  generalize provesF l m one = p2 at hp2 hq2
  refine at_drawn 45 rfl rfl [(2, .sv .tt), (7, .no), (13, .val (.rp [.lst 4 (rowsM m)] 0)), (16, .sv (.bl p1)), (20, .val (.rp [.lst 4 (rowsM m)] 0)), (23, .sv (.bl p1)), (24, .no), (30, .val (.rp [.lst 4 (rowsM m)] 0)), (33, .sv one.sv), (34, .sv (.bl p2)), (38, .val (.rp [.lst 4 (rowsM m)] 0)), (41, .sv one.sv), (42, .sv (.bl p2)), (43, .no)] [20, 21, 22] rfl
    ⟨by simp, hq2, hO, does_index ty_ok _ rfl rfl rfl (by omega) hget rfl, hp2, hO, does_index ty_ok _ rfl rfl rfl (by omega) hget rfl, by simp, hq1, does_index ty_ok _ rfl rfl rfl (by omega) hget rfl, hp1, does_index ty_ok _ rfl rfl rfl (by omega) hget rfl, by simp, hall⟩ ?_
  refine run 400 rfl ?_
  exact at_again (i + 1) (by omega) (by omega) ⟨SVle.refl _, SVle.refl _, SVle.refl _, SVle.of_eq (by show I ((i : Int) + 1) = I ((i + 1 : Nat) : Int); rw [Int.natCast_add]; rfl), trivial⟩ trivial
end Go.Proofs.Ytmnmhehddbemkaa
namespace Go.Proofs.Ytmnmhehddbemkaa
open Go Go.Eng

abbrev xs : ByteArray := ⟨#[120]⟩
abbrev mx : Mv := ⟨2, 0, 0, xs⟩
abbrev ax : Tm := .mk 1 0 xs []
theorem right_ax : rightF ax = true := by
  have e : seq ax.s .empty = false := by rw [seq_data]; rfl
  unfold rightF
  rw [e]
  rfl
theorem runG_atoms (tl : List Mv) : ∀ (k : Nat) (acc : List Tm), runG [] (List.replicate k mx ++ tl) acc = runG [] tl (acc ++ List.replicate k ax)
  | 0, acc => by simp
  | k + 1, acc => by
    have d1 : doesF [] acc (.atom xs) = (ax, true) := by
      show (ax, mayF ax) = _
      have : mayF ax = true := by
        unfold mayF
        rw [mayT, right_ax]
        rfl
      rw [this]
    rw [List.replicate_succ, List.cons_append, runG]
    show (match doesF [] acc (.atom xs) with | (t, true) => runG [] (List.replicate k mx ++ tl) (acc ++ [t]) | (_, false) => ([], 3)) = _
    rw [d1]
    show runG [] (List.replicate k mx ++ tl) (acc ++ [ax]) = _
    rw [runG_atoms tl k (acc ++ [ax]), List.replicate_succ]
    simp
theorem run_e (k : Nat) : (runF [] (List.replicate k mx)).2 = if 1024 < k then 7 else 0 := by
  unfold runF
  rw [List.length_replicate]
  split
  · rfl
  · have := runG_atoms [] k []
    rw [List.append_nil] at this
    rw [this]
    rfl
theorem run_g (k : Nat) : (runF [] (List.replicate k mx ++ [Mv.zero])).2 = if 1024 < k + 1 then 7 else 2 := by
  unfold runF
  rw [List.length_append, List.length_replicate, List.length_singleton]
  split
  · rfl
  · rw [runG_atoms]
    rfl

/-- Hashes, so many, of an atom. -/
def tow : Nat → Tm
  | 0 => ax
  | j + 1 => .mk 3 0 .empty [tow j]
def tows (n : Nat) : List Tm := (List.range n).map tow
abbrev hm (i : Nat) : Mv := ⟨6, i, 0, .empty⟩
theorem right_h (t : Tm) : rightF (.mk 3 0 .empty [t]) = true := by
  have e : seq (Tm.mk 3 0 .empty [t]).s .empty = true := seq_self _
  unfold rightF
  rw [e]
  rfl
theorem may_tow : ∀ (j : Nat) (d c : Int), 0 ≤ c → c + j + 1 ≤ 64 → (mayT (tow j) d c).1 = decide (d + j ≤ 16)
  | 0, d, c, h0, h1 => by
    show (mayT ax d c).1 = _
    rw [mayT, right_ax, if_neg (by omega)]
    by_cases h : 16 < d
    · rw [if_pos h]
      exact (decide_eq_false (by omega)).symm
    · rw [if_neg h, if_neg (by simp), mayL]
      exact (decide_eq_true (by omega)).symm
  | j + 1, d, c, h0, h1 => by
    rw [tow, mayT, right_h, if_neg (by omega)]
    by_cases h : 16 < d
    · rw [if_pos h]
      exact (decide_eq_false (by omega)).symm
    · rw [if_neg h, if_neg (by simp)]
      have ih := may_tow j (d + 1) (c + 1) (by omega) (by omega)
      rw [mayL]
      rcases hm : mayT (tow j) (d + 1) (c + 1) with ⟨b, c'⟩
      rw [hm] at ih
      dsimp only at ih
      have e : decide (d + ((j + 1 : Nat) : Int) ≤ 16) = b := by
        rw [ih]
        exact decide_eq_decide.2 (by omega)
      rw [e]
      cases b <;> simp [mayL]
theorem runG_hash : ∀ (r i : Nat), i + 1 ≤ 16 → i + r ≤ 40 → (runG [] ((List.range' i r).map hm) (tows (i + 1))).2 = if i + r + 1 ≤ 16 then 0 else 3
  | 0, i, h, _ => by
    rw [if_pos (by omega)]
    rfl
  | r + 1, i, h, h40 => by
    have hlen : (tows (i + 1)).length = i + 1 := by simp [tows]
    have hget : (tows (i + 1)).getD (i : Int).toNat .zero = tow i := by
      rw [List.getD_eq_getElem?_getD]
      simp [tows]
    have hn : nearF (.one 3 i) (tows (i + 1)).length ([] : List Tm).length = true := by
      rw [hlen]
      simp [nearF, inF]
      omega
    have hd : doesF [] (tows (i + 1)) (.one 3 i) = (tow (i + 1), mayF (tow (i + 1))) := by
      simp only [doesF, stepT, hget]
      rfl
    have hr : readF (hm i) = some (.one 3 i) := rfl
    have hmay : mayF (tow (i + 1)) = decide (i + 2 ≤ 16) := by
      unfold mayF
      rw [may_tow (i + 1) 1 0 (by omega) (by omega)]
      exact decide_eq_decide.2 (by omega)
    rw [List.range'_succ, List.map_cons, runG, hr]
    dsimp only
    rw [if_pos hn, hd, hmay]
    by_cases h2 : i + 2 ≤ 16
    · rw [decide_eq_true h2]
      have e : tows (i + 1) ++ [tow (i + 1)] = tows (i + 1 + 1) := by
        unfold tows
        rw [List.range_succ (n := i + 1), List.map_append]
        rfl
      show (runG [] _ (tows (i + 1) ++ [tow (i + 1)])).2 = _
      rw [e, runG_hash r (i + 1) h2 (by omega)]
      by_cases h3 : i + (r + 1) + 1 ≤ 16
      · rw [if_pos h3, if_pos (by omega)]
      · rw [if_neg h3, if_neg (by omega)]
    · rw [decide_eq_false h2, if_neg (by omega)]
theorem run_f (d : Nat) (hd : d ≤ 40) : (runF [] (mx :: (List.range d).map hm)).2 = if d + 1 ≤ 16 then 0 else 3 := by
  unfold runF
  rw [if_neg (by simp; omega)]
  have := runG_atoms ((List.range d).map hm) 1 []
  have e1 : List.replicate 1 mx ++ (List.range d).map hm = mx :: (List.range d).map hm := rfl
  rw [e1] at this
  rw [this]
  have h2 := runG_hash d 0 (by omega) (by omega)
  have e2 : ([] : List Tm) ++ List.replicate 1 ax = tows (0 + 1) := rfl
  rw [e2, List.range_eq_range', h2, Nat.zero_add]

/-! A list of moves, filled. -/
theorem flatM_len (l : List Mv) : (flatU (rowsM l)).length = l.length * 4 := by
  unfold flatU
  induction l with
  | nil => rfl
  | cons m l ih =>
    show ((mr m ++ (rowsM l).flatten).map up).length = _
    rw [List.map_append, List.length_append, ih, List.length_cons]
    show 4 + _ = _
    omega
abbrev halfM (n i : Nat) : List SV := flatU (rowsM (List.replicate i mx)) ++ List.replicate ((n - i) * 4) .any
theorem halfM_step {n i : Nat} (h : i < n) : splice [I 2, I 0, I 0, .str xs] (i * 4) (halfM n i) = halfM n (i + 1) := by
  have hlen : (flatU (rowsM (List.replicate i mx))).length = i * 4 := by rw [flatM_len, List.length_replicate]
  unfold halfM
  rw [← hlen, show (n - i) * 4 = (n - (i + 1)) * 4 + [I 2, I 0, I 0, SV.str xs].length from by show _ = _ + 4; omega, splice_fill, List.replicate_succ']
  unfold flatU
  simp only [rowsM, List.map_append, List.flatten_append]
  rfl

set_option maxRecDepth 100000 in
theorem proofMany_fn (n : Int) : Gives Try.prog 4 [I n] .tt := by
  refine Gives.le (a := .bl true) ?_ (SVle.tt rfl)
  obtain ⟨k, hk, hk2⟩ : ∃ k : Nat, (k : Int) = 1021 + n % 6 ∧ k ≤ 1026 := ⟨(1021 + n % 6).toNat, by omega, by omega⟩
  obtain ⟨d, hd, hd2⟩ : ∃ d : Nat, (d : Int) = 12 + n % 8 ∧ d ≤ 19 := ⟨(12 + n % 8).toNat, by omega, by omega⟩
  refine contract_of ty_ok [0, 1, 2, 3, 4, 7] Try.func4 rfl (by decide) Try.ntmps4 rfl fun z => ?_
  refine run 400 rfl ?_
  refine at_fn known16_fn rfl ?_
  refine run 400 rfl ?_
  refine at_fn (within21 n 6 (by omega)) rfl ?_
  refine run 400 rfl ?_
  rw [← hk]
  refine at_make 5 4 ty_ok rfl rfl rfl (by omega) (show ((40 : Nat) : Int) * (k : Int) ≤ 281474976710656 by omega) (by omega) ?_
  refine run 400 rfl ?_
  refine at_loop (fun i : Nat => i ≤ k) (fun i => [(0, I n), (3, I k), (4, .arr 5 k), (5, I i)]) (fun i => [(5, .cells 37 (halfM k i))]) (fun i => k - i) [0, 1, 2, 3, 4, 7]
    0 (by omega) ⟨SVle.refl _, SVle.refl _, SVle.refl _, SVle.refl _, trivial⟩ ⟨rfl, trivial⟩ ?_
  intro i hi
  refine run 400 rfl ?_
  refine at_ifd rfl (fun g => ?_) (fun g => ?_)
  · refine run 400 rfl ?_
    refine at_val (.ptr 5 ((i : Int).toNat * 4)) (does_indexArr ty_ok rfl rfl rfl ⟨by omega, by omega⟩ rfl) ?_
    refine at_store ty_ok (halfM k (i + 1)) rfl rfl rfl rfl rfl rfl (by unfold halfM; rw [List.length_append, flatM_len, List.length_replicate, List.length_replicate]; show i * 4 + 4 ≤ _; omega) (halfM_step (by omega)) rfl ?_
    refine run 400 rfl ?_
    exact at_again (i + 1) (by omega) (by omega) ⟨SVle.refl _, SVle.refl _, SVle.refl _, SVle.of_eq (by show I ((i : Int) + 1) = I ((i + 1 : Nat) : Int); rw [Int.natCast_add]; rfl), trivial⟩ ⟨rfl, trivial⟩
  have e : i = k := by omega
  subst e
  have hrl : (rowsM (List.replicate i mx)).length = i := by simp
  refine at_publish 5 4 (rowsM (List.replicate i mx)) (by show some (SO.cells 37 (halfM i i)) = _; unfold halfM; rw [Nat.sub_self, Nat.zero_mul, List.replicate_zero, List.append_nil]) (fun r hr => by obtain ⟨t, _, rfl⟩ := List.mem_map.1 hr; rfl) (own2 := []) (fun j o h => by simp [ownq] at h) (by repeat' (first | exact trivial | refine ⟨show (bif Nat.beq 5 5 then i = _ else True) by rw [hrl]; rfl, ?_⟩ | refine ⟨trivial, ?_⟩)) ?_
  refine run 400 rfl ?_
  have hR1 := run_fn [] (List.replicate i mx) (by simp)
  have he := run_e i
  generalize runF [] (List.replicate i mx) = R1 at hR1 he
  refine at_fn (hR1.weak (args' := [.tl 0 [], .tl 4 (rowsM (List.replicate i mx))]) ⟨SVle.nils, SVle.tl _ _, trivial⟩) rfl ?_
  refine run 400 rfl ?_
  refine at_fn (within21 n 8 (by omega)) rfl ?_
  refine run 400 rfl ?_
  rw [← hd]
  refine at_gro (.tl 4 [mr mx]) (doesG_build ty_ok _ rfl ⟨⟨rfl, rfl, _, rfl, SVles.refl _⟩, trivial⟩ rfl rfl (by decide)) ?_
  refine run 400 rfl ?_
  refine at_name 9 6 4 rfl (.inl rfl) ?_
  refine run 400 rfl ?_
  refine at_loop (fun j : Nat => j ≤ d) (fun j => [(3, I i), (4, .tl 4 (rowsM (List.replicate i mx))), (7, I R1.2), (8, I d), (9, .gl 6 4 (rowsM (mx :: (List.range j).map hm))), (10, I j)]) (fun _ => [(6, .tok 4)]) (fun j => d - j) [0, 1, 2, 3, 4, 5, 7]
    0 (by omega) ⟨SVle.refl _, SVle.refl _, SVle.refl _, SVle.refl _, SVle.refl _, SVle.refl _, trivial⟩ ⟨rfl, trivial⟩ ?_
  intro j hj
  refine run 400 rfl ?_
  refine at_ifd rfl (fun g => ?_) (fun g => ?_)
  · refine run 400 rfl ?_
    refine at_gro (.tl 4 [mr (hm j)]) (doesG_build ty_ok _ rfl ⟨⟨rfl, rfl, _, rfl, SVles.refl _⟩, trivial⟩ rfl rfl (by decide)) ?_
    refine run 400 rfl ?_
    refine at_grow 6 6 4 (rowsM (mx :: (List.range j).map hm) ++ [mr (hm j)]) rfl (doesU_append ty_ok rfl rfl rfl rfl rfl rfl rfl (by simp; omega) (by show _ * 40 ≤ _; simp; omega)) rfl ?_
    refine run 400 rfl ?_
    refine at_again (j + 1) (by omega) (by omega) ⟨SVle.refl _, SVle.refl _, SVle.refl _, SVle.refl _, SVle.of_eq ?_, SVle.of_eq (by show I ((j : Int) + 1) = I ((j + 1 : Nat) : Int); rw [Int.natCast_add]; rfl), trivial⟩ ⟨rfl, trivial⟩
    show SV.gl 6 4 (rowsM (mx :: (List.range j).map hm) ++ [mr (hm j)]) = SV.gl 6 4 (rowsM (mx :: (List.range (j + 1)).map hm))
    rw [List.range_succ]
    simp
  have e : j = d := by omega
  subst e
  refine run 400 rfl ?_
  have hR2 := run_fn [] (mx :: (List.range j).map hm) (by simp)
  have hf := run_f j (by omega)
  generalize runF [] (mx :: (List.range j).map hm) = R2 at hR2 hf
  refine at_deg 6 ?_
  refine run 400 rfl ?_
  refine at_fn (hR2.weak (args' := [.tl 0 [], .lst 4 (rowsM (mx :: (List.range j).map hm))]) ⟨SVle.nils, SVle.refl _, trivial⟩) rfl ?_
  refine run 400 rfl ?_
  refine at_gro (.tl 4 [mr Mv.zero]) (doesG_build ty_ok _ rfl ⟨⟨rfl, rfl, _, rfl, SVles.refl _⟩, trivial⟩ rfl rfl (by decide)) ?_
  refine run 400 rfl ?_
  refine at_new 5 4 (rowsM (List.replicate i mx) ++ [mr Mv.zero]) (doesT_append ty_ok rfl rfl rfl rfl rfl rfl rfl (by simp; omega) (by show _ * 40 ≤ _; simp; omega)) ?_
  refine run 400 rfl ?_
  refine at_deg 5 ?_
  refine run 400 rfl ?_
  have hR3 := run_fn [] (List.replicate i mx ++ [Mv.zero]) (by simp)
  have hg := run_g i
  generalize runF [] (List.replicate i mx ++ [Mv.zero]) = R3 at hR3 hg
  refine at_fn (hR3.weak (args' := [.tl 0 [], .lst 4 (rowsM (List.replicate i mx) ++ [mr Mv.zero])]) ⟨SVle.nils, SVle.of_eq (by simp), trivial⟩) rfl ?_
  refine run 400 rfl ?_
  refine at_true 69 rfl (by rw [he]; by_cases h : 1024 < i <;> simp [h] <;> omega) ?_
  refine run 400 rfl ?_
  by_cases h1 : 1024 < i
  · rw [if_pos h1] at he
    refine at_false 72 rfl (by rw [he]; rfl) ?_
    refine run 400 rfl ?_
    refine at_true 77 rfl (by rw [he]; rfl) ?_
    refine run 400 rfl ?_
    refine at_true 85 rfl (by rw [hf]; by_cases h : j + 1 ≤ 16 <;> simp [h] <;> omega) ?_
    refine run 400 rfl ?_
    by_cases h2 : j + 1 ≤ 16
    · rw [if_pos h2] at hf
      refine at_true 88 rfl (by rw [hf]; rfl) ?_
      refine run 400 rfl ?_
      refine at_ret rfl rfl [] ⟨?_, rfl, rfl⟩ trivial
      show SV.bl (decide (R3.2 = 7) == decide ((i : Int) + 1 > 1024)) = .bl true
      rw [hg]
      by_cases h : 1024 < i + 1 <;> simp [h] <;> omega
    · rw [if_neg h2] at hf
      refine at_false 88 rfl (by rw [hf]; rfl) ?_
      refine run 400 rfl ?_
      refine at_true 93 rfl (by rw [hf]; rfl) ?_
      refine run 400 rfl ?_
      refine at_ret rfl rfl [] ⟨?_, rfl, rfl⟩ trivial
      show SV.bl (decide (R3.2 = 7) == decide ((i : Int) + 1 > 1024)) = .bl true
      rw [hg]
      by_cases h : 1024 < i + 1 <;> simp [h] <;> omega
  · rw [if_neg h1] at he
    refine at_true 72 rfl (by rw [he]; rfl) ?_
    refine run 400 rfl ?_
    refine at_true 85 rfl (by rw [hf]; by_cases h : j + 1 ≤ 16 <;> simp [h] <;> omega) ?_
    refine run 400 rfl ?_
    by_cases h2 : j + 1 ≤ 16
    · rw [if_pos h2] at hf
      refine at_true 88 rfl (by rw [hf]; rfl) ?_
      refine run 400 rfl ?_
      refine at_ret rfl rfl [] ⟨?_, rfl, rfl⟩ trivial
      show SV.bl (decide (R3.2 = 7) == decide ((i : Int) + 1 > 1024)) = .bl true
      rw [hg]
      by_cases h : 1024 < i + 1 <;> simp [h] <;> omega
    · rw [if_neg h2] at hf
      refine at_false 88 rfl (by rw [hf]; rfl) ?_
      refine run 400 rfl ?_
      refine at_true 93 rfl (by rw [hf]; rfl) ?_
      refine run 400 rfl ?_
      refine at_ret rfl rfl [] ⟨?_, rfl, rfl⟩ trivial
      show SV.bl (decide (R3.2 = 7) == decide ((i : Int) + 1 > 1024)) = .bl true
      rw [hg]
      by_cases h : 1024 < i + 1 <;> simp [h] <;> omega
end Go.Proofs.Ytmnmhehddbemkaa
