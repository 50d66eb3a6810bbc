import Derived.Test.YtmnmhehddbemkaaW4n
namespace Go.Proofs.Ytmnmhehddbemkaa
open Go Go.Eng

def stepT (l res : List Tm) : St → Option Tm
  | .given n => some (l.getD n.toNat .zero)
  | .atom s => some (.mk 1 0 s [])
  | .half a k d => if (res.getD a.toNat .zero).k = k ∧ d < (res.getD a.toNat .zero).kids.length then some ((res.getD a.toNat .zero).kids.getD d.toNat .zero) else none
  | .one k a => some (.mk k 0 .empty [res.getD a.toNat .zero])
  | .two k a b => some (.mk k 0 .empty [res.getD a.toNat .zero, res.getD b.toNat .zero])
def doesF (l res : List Tm) (s : St) : Tm × Bool :=
  match stepT l res s with
  | none => (.zero, false)
  | some t => (t, mayF t)
def okS : St → Prop
  | .half _ _ d => 0 ≤ d
  | _ => True
theorem SVle.nils : SVle (.tl 0 []) (.lst 4 (rowsT [])) := by
  rw [rowsT_nil]
  exact fun g H x h => SVle.tl 4 [] g H x (SVle.nil 4 g H x h)

theorem does_fn (l res : List Tm) (s : St) (hn : nearF s res.length l.length = true) (ho : okS s) :
    Gives Try.prog 85 [.val (.iface s.ty s.v), .lst 4 (rowsT l), .lst 4 (rowsT res)] (.tup [(doesF l res s).1.sv, .val (errV (doesF l res s).2)]) := by
  cases s with
  | given n => exact does_given n l res hn _ rfl
  | atom s => exact (does_atom s l res _ rfl).le (SVle.tup ⟨SVle.agg ⟨SVle.refl _, SVle.refl _, SVle.refl _, SVle.nils, trivial⟩, SVle.refl _, trivial⟩)
  | half a k d =>
    by_cases h : (res.getD a.toNat .zero).k = k ∧ d < (res.getD a.toNat .zero).kids.length
    · have e : doesF l res (.half a k d) = ((res.getD a.toNat .zero).kids.getD d.toNat .zero, mayF ((res.getD a.toNat .zero).kids.getD d.toNat .zero)) := by simp only [doesF, stepT, if_pos h]
      rw [e]
      exact does_half a k d l res hn h.1 ⟨ho, h.2⟩ _ rfl
    · have e : doesF l res (.half a k d) = (.zero, false) := by simp only [doesF, stepT, if_neg h]
      rw [e]
      refine (does_half_no a k d l res hn ?_).le (SVle.tup ⟨SVle.agg ⟨SVle.refl _, SVle.refl _, SVle.refl _, SVle.nils, trivial⟩, SVle.refl _, trivial⟩)
      by_cases h1 : (res.getD a.toNat .zero).k = k
      · exact .inr (by have := fun q => h ⟨h1, q⟩; omega)
      · exact .inl h1
  | one k a => exact (does_one k a l res hn _ rfl).le (SVle.tup ⟨SVle.agg ⟨SVle.refl _, SVle.refl _, SVle.refl _, by show SVle _ (.lst 4 (rowsT [_])); rw [rowsT_cons, rowsT_nil]; exact SVle.tl _ _, trivial⟩, SVle.refl _, trivial⟩)
  | two k a b =>
    rw [nearF, Bool.and_eq_true] at hn
    exact (does_two k a b l res hn.1 hn.2 _ rfl).le (SVle.tup ⟨SVle.agg ⟨SVle.refl _, SVle.refl _, SVle.refl _, by show SVle _ (.lst 4 (rowsT [_, _])); rw [rowsT_cons, rowsT_cons, rowsT_nil]; exact SVle.tl _ _, trivial⟩, SVle.refl _, trivial⟩)

theorem read_ok {m : Mv} {s : St} (h : readF m = some s) : okS s := by
  unfold readF at h
  repeat' split at h
  all_goals (first | (cases h; trivial) | (cases h; show (0 : Int) ≤ _; decide) | cases h)

/-- A term that may be has as many kids as its kinds say. -/
theorem mayT_gd : ∀ (t : Tm) (d c : Int), (mayT t d c).1 = true → Gd t := by
  intro t
  induction t using Tm.ind with
  | h k n s l ih =>
    intro d c h
    rw [mayT] at h
    split at h
    · cases h
    split at h
    · cases h
    split at h
    · cases h
    · rename_i h3
      have h3 : rightF (.mk k n s l) = true := by simpa using h3
      have hlen : (l.length : Int) = kidsF k := by
        unfold rightF at h3
        rw [Bool.and_eq_true, Bool.and_eq_true] at h3
        simpa using h3.1.1
      refine .mk hlen ?_
      have key : ∀ (m : List Tm) (d c : Int), (∀ t ∈ m, t ∈ l) → (mayL m d c).1 = true → ∀ t ∈ m, Gd t := by
        intro m
        induction m with
        | nil => intro _ _ _ _ t ht; cases ht
        | cons u m ihm =>
          intro d c hm h t ht
          rw [mayL] at h
          rcases hu : mayT u d c with ⟨b, c'⟩
          rw [hu] at h
          cases b with
          | false => cases h
          | true =>
            rcases List.mem_cons.1 ht with rfl | ht
            · exact ih t (hm t (by simp)) d c (by rw [hu])
            · exact ihm d c' (fun t ht => hm t (by simp [ht])) h t ht
      exact key l _ _ (fun _ h => h) h
theorem mayF_gd {t : Tm} (h : mayF t = true) : Gd t := mayT_gd t 1 0 h

theorem st_plain (s : St) : (tiOf Try.prog s.ty).kd.plain = true := by
  rw [← ty_ok]
  cases s
  · exact (rfl : (ty 125).kd.plain = true)
  · exact (rfl : (ty 126).kd.plain = true)
  · exact (rfl : (ty 108).kd.plain = true)
  · exact (rfl : (ty 128).kd.plain = true)
  · exact (rfl : (ty 130).kd.plain = true)
theorem st_np (s : St) : (tiOf Try.prog s.ty).kd ≠ .ptr := by
  intro h
  have := st_plain s
  rw [← ty_ok] at h
  cases s
  · exact absurd (show (ty 125).kd = .ptr from h) (by intro e; cases e)
  · exact absurd (show (ty 126).kd = .ptr from h) (by intro e; cases e)
  · exact absurd (show (ty 108).kd = .ptr from h) (by intro e; cases e)
  · exact absurd (show (ty 128).kd = .ptr from h) (by intro e; cases e)
  · exact absurd (show (ty 130).kd = .ptr from h) (by intro e; cases e)

/-- What moves come to. -/
def runG (l : List Tm) : List Mv → List Tm → List Tm × Int
  | [], acc => (acc, 0)
  | m :: ms, acc => match readF m with
    | none => ([], 2)
    | some s => if nearF s acc.length l.length then (match doesF l acc s with
      | (t, true) => runG l ms (acc ++ [t])
      | (_, false) => ([], 3)) else ([], 8)
def runF (l : List Tm) (ms : List Mv) : List Tm × Int := if 1024 < ms.length then ([], 7) else runG l ms []
abbrev errI (e : Int) : Value := if e = 0 then .nilIface else .iface 28 (.int .i64 e)

set_option maxRecDepth 100000 in
theorem run58_fn (l : List Tm) (ms : List Mv) (_hl : l.length ≤ 1000000) : Gives Try.prog 58 [.lst 4 (rowsT l), .lst 4 (rowsM ms)] (.tup [.lst 4 (rowsT (runF l ms).1), .val (errI (runF l ms).2)]) := by
  refine GivesP.le (Post := fun s => ∃ a, s = .tup [a, .val (errI (runF l ms).2)] ∧ SVle a (.lst 4 (rowsT (runF l ms).1))) ?_ (fun s h => by
    obtain ⟨a, rfl, h⟩ := h
    exact SVle.tup ⟨h, SVle.refl _, trivial⟩)
  have hlen : (rowsM ms).length = ms.length := by simp
  have hlenl : (rowsT l).length = l.length := rowsT_len l
  refine contract_of ty_ok [0, 1, 2, 3, 4, 6, 7] Try.func58 rfl (by decide) Try.ntmps58 rfl fun z => ?_
  refine run 400 rfl ?_
  refine at_ifd rfl (fun h => ?_) (fun h => ?_)
  · rw [hlen] at h
    have e : runF l ms = ([], 7) := by rw [runF, if_pos (by omega)]
    rw [e]
    refine run 400 rfl ?_
    refine at_val (.val (.iface 28 (.int .i64 7))) (does_iface ty_ok (.int .i64 7) rfl rfl rfl) ?_
    refine run 400 rfl ?_
    exact at_ret rfl rfl [] ⟨⟨_, rfl, SVle.nils⟩, rfl, rfl⟩ trivial
  rw [hlen] at h
  have e : runF l ms = runG l ms [] := by rw [runF, if_neg (by omega)]
  rw [e]
  generalize hR : runG l ms [] = R
  refine run 400 rfl ?_
  refine at_new 5 4 [] (doesT_make0 ty_ok rfl rfl rfl (by omega) (show ((56 : Nat) : Int) * ((rowsM ms).length : Int) ≤ 281474976710656 by omega) (by omega) rfl) ?_
  refine run 400 rfl ?_
  refine at_loop (fun x : Nat × List Tm => x.1 ≤ ms.length ∧ x.2.length = x.1 ∧ (∀ t ∈ x.2, Sm t) ∧ runG l (ms.drop x.1) x.2 = R) (fun x => [(0, .lst 4 (rowsT l)), (6, .gl 5 4 (rowsT x.2)), (19, .lst 4 (rowsM ms)), (20, I (rowsM ms).length), (21, I x.1)]) (fun _ => [(5, .tok 4)]) (fun x => ms.length - x.1) [0, 1, 2, 3, 4, 6, 7]
    (0, []) ⟨by simp, rfl, by simp, by simpa using hR⟩ ⟨SVle.refl _, SVle.of_eq (by show SV.gl 5 4 [] = SV.gl 5 4 (rowsT []); rw [rowsT_nil]), SVle.refl _, SVle.refl _, SVle.refl _, trivial⟩ ⟨rfl, trivial⟩ ?_
  rintro ⟨i, acc⟩ ⟨a1, a2, a3, a4⟩
  dsimp only at a1 a2 a3 a4
  have hacc : (rowsT acc).length = acc.length := rowsT_len acc
  refine run 400 rfl ?_
  refine at_ifd rfl (fun g => ?_) (fun g => ?_)
  rotate_left
  · rw [hlen] at g
    dsimp only at g
    rw [List.drop_eq_nil_of_le (by omega), runG] at a4
    subst a4
    refine run 400 rfl ?_
    refine at_fn ((owns_fn acc (by omega) a3).weak (args' := [.gl 5 4 (rowsT acc)]) ⟨SVle.gl 5 4 _, trivial⟩) rfl ?_
    refine run 400 rfl ?_
    exact at_ret rfl rfl [] ⟨⟨_, rfl, SVle.tl 4 _⟩, rfl, rfl⟩ trivial
  rw [hlen] at g
  dsimp only at g
  have hlt : i < ms.length := by omega
  have hget := rowsM_get hlt
  have hdrop : ms.drop i = ms.getD i .zero :: ms.drop (i + 1) := by
    rw [List.getD_eq_getElem?_getD, List.getElem?_eq_getElem hlt, List.drop_eq_getElem_cons hlt]
    rfl
  rw [hdrop, runG] at a4
  generalize ms.getD i .zero = m at hget a4
  refine run 400 rfl ?_
  refine at_val (.rp (mr m) 0) (does_index ty_ok _ rfl rfl rfl (by omega) (show (rowsM ms)[(i : Int).toNat]? = some (mr m) from hget) rfl) ?_
  refine run 400 rfl ?_
  refine at_fn (read_fn m) rfl ?_
  refine run 400 rfl ?_
  cases hr : readF m with
  | none =>
    rw [hr] at a4
    subst a4
    refine at_val .tt (does_isNil ty_ok rfl rfl rfl) ?_
    refine run 400 rfl ?_
    refine at_val (.val (.iface 28 (.int .i64 2))) (does_iface ty_ok (.int .i64 2) rfl rfl rfl) ?_
    refine run 400 rfl ?_
    exact at_ret rfl rfl [] ⟨⟨_, rfl, SVle.nils⟩, rfl, rfl⟩ trivial
  | some s =>
    rw [hr] at a4
    refine at_val .ff (does_isNil_no ty_ok rfl rfl rfl) ?_
    refine run 400 rfl ?_
    refine at_invoke (near_meth s) (st_plain s) (st_np s) (near_fn s i (rowsT l).length) rfl rfl rfl rfl (St.den s) rfl ?_
    refine run 400 rfl ?_
    dsimp only at a4
    rw [hlenl]
    rw [a2] at a4
    refine at_if rfl (fun q => ?_) (fun q => ?_)
    · have q : nearF s i l.length = false := by simpa using q
      rw [q] at a4
      have a4 : ([], 8) = R := a4
      subst a4
      refine run 400 rfl ?_
      refine at_val (.val (.iface 28 (.int .i64 8))) (does_iface ty_ok (.int .i64 8) rfl rfl rfl) ?_
      refine run 400 rfl ?_
      exact at_ret rfl rfl [] ⟨⟨_, rfl, SVle.nils⟩, rfl, rfl⟩ trivial
    have q : nearF s i l.length = true := by simpa using q
    rw [if_pos q] at a4
    have hd := does_fn l acc s (by rw [a2]; exact q) (read_ok hr)
    have hd2 := hd.weak (args' := [.val (.iface s.ty s.v), .lst 4 (rowsT l), .gl 5 4 (rowsT acc)]) ⟨SVle.refl _, SVle.refl _, SVle.gl 5 4 _, trivial⟩
    have hgd : (doesF l acc s).2 = true → Sm (doesF l acc s).1 := by
      unfold doesF
      split
      · intro h; cases h
      · exact fun h => (mayF_gd h).sm
    generalize doesF l acc s = r at hd2 a4 hgd
    obtain ⟨t, b⟩ := r
    refine run 400 rfl ?_
    refine at_fn hd2 rfl ?_
    refine run 400 rfl ?_
    cases b with
    | false =>
      have a4 : ([], 3) = R := a4
      subst a4
      refine at_val .tt (does_notNil ty_ok rfl rfl rfl) ?_
      refine run 400 rfl ?_
      exact at_ret rfl rfl [] ⟨⟨_, rfl, SVle.nils⟩, rfl, rfl⟩ trivial
    | true =>
      have a4 : runG l (ms.drop (i + 1)) (acc ++ [t]) = R := a4
      refine at_val .ff (does_notNil_no ty_ok rfl rfl rfl) ?_
      refine run 400 rfl ?_
      refine at_gro (.tl 4 [tr t]) (doesG_build ty_ok _ rfl ⟨⟨rfl, rfl, _, rfl, SVles.refl _⟩, trivial⟩ rfl rfl (by decide)) ?_
      refine at_grow 5 5 4 (rowsT acc ++ [tr t]) rfl (doesU_append ty_ok rfl rfl rfl rfl rfl rfl rfl (by simp; omega) (by show _ * 56 ≤ _; simp; omega)) rfl ?_
      refine run 400 rfl ?_
      exact at_again (i + 1, acc ++ [t]) ⟨by dsimp only; omega, by simp [a2], fun u hu => (List.mem_append.1 hu).elim (a3 u) (fun h => by simp at h; rw [h]; exact hgd rfl), a4⟩ (by dsimp only; omega)
        ⟨SVle.refl _, SVle.of_eq (by show SV.gl 5 4 (rowsT acc ++ [tr t]) = SV.gl 5 4 (rowsT (acc ++ [t])); rw [rowsT_app, rowsT_cons, rowsT_nil]), SVle.refl _, SVle.refl _, SVle.of_eq (by show I ((i : Int) + 1) = I ((i + 1 : Nat) : Int); rw [Int.natCast_add]; rfl), trivial⟩ ⟨rfl, trivial⟩
end Go.Proofs.Ytmnmhehddbemkaa
