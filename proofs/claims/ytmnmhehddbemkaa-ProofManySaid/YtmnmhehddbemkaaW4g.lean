import Derived.Test.YtmnmhehddbemkaaW4f
namespace Go.Proofs.Ytmnmhehddbemkaa
open Go Go.Eng

/-- As many kids as the kind says, here and below. -/
inductive Gd : Tm → Prop
  | mk {k n : Int} {s : ByteArray} {l : List Tm} (h : (l.length : Int) = kidsF k) (hl : ∀ t ∈ l, Gd t) : Gd (.mk k n s l)
theorem Gd.sm {t : Tm} (h : Gd t) : Sm t := by
  induction t using Tm.ind with
  | h k n s l ih =>
    cases h with
    | mk h1 h2 =>
      have := kidsF_le k
      exact .mk (by omega) fun t ht => ih t ht (h2 t ht)

mutual
def szT : Tm → Nat
  | .mk _ _ _ l => 1 + szL l
def szL : List Tm → Nat
  | [] => 0
  | t :: l => szT t + szL l
end
theorem szT_pos (t : Tm) : 0 < szT t := by cases t; rw [szT]; omega
theorem szL_app : ∀ a b : List Tm, szL (a ++ b) = szL a + szL b
  | [], b => by rw [szL]; simp
  | t :: a, b => by rw [List.cons_append, szL, szL, szL_app a b]; omega
theorem szL_len : ∀ l : List Tm, l.length ≤ szL l
  | [] => by rw [szL]; simp
  | t :: l => by
    have := szL_len l
    have := szT_pos t
    rw [szL, List.length_cons]
    omega

/-- What comes out of a term. -/
def parts : Tm → List Tm
  | .mk k _ _ l => if k = 7 then l else if k = 6 then l.drop 1 else []
def Closed (O : List Tm) : Prop := ∀ x ∈ O, ∀ p ∈ parts x, p ∈ O
structure OpenP (l O : List Tm) : Prop where
  has : ∀ x ∈ l, x ∈ O
  closed : Closed O
  least : ∀ C : Tm → Prop, (∀ x ∈ l, C x) → (∀ x, C x → ∀ p ∈ parts x, C p) → ∀ x ∈ O, C x
  gd : ∀ x ∈ O, Gd x
  len : O.length ≤ szL l

structure OpenI (l : List Tm) (x : List Tm × List Tm) : Prop where
  gdT : ∀ t ∈ x.1, Gd t
  gdO : ∀ t ∈ x.2, Gd t
  has : ∀ t ∈ l, t ∈ x.1 ∨ t ∈ x.2
  closed : ∀ t ∈ x.2, ∀ p ∈ parts t, p ∈ x.1 ∨ p ∈ x.2
  least : ∀ C : Tm → Prop, (∀ t ∈ l, C t) → (∀ t, C t → ∀ p ∈ parts t, C p) → (∀ t ∈ x.1, C t) ∧ ∀ t ∈ x.2, C t
  len : x.2.length + szL x.1 ≤ szL l

theorem gd_parts {t : Tm} (h : Gd t) : ∀ p ∈ parts t, Gd p := by
  intro p hp
  obtain ⟨hk, hl⟩ := h
  rw [parts] at hp
  split at hp
  · exact hl p hp
  · split at hp
    · exact hl p (List.mem_of_mem_drop hp)
    · cases hp

/-- One term is taken off, and put to the others; what comes out of it is put behind. -/
theorem openI_step {l T L L' : List Tm} {t : Tm} (h : OpenI l (t :: T, L)) (ha : AddP L t L') (q : List Tm) (hq : L' = L ∧ t ∈ L ∧ q = [] ∨ L'.length = L.length + 1 ∧ q = parts t) (hs : szL q < szT t) : OpenI l (T ++ q, L') := by
  obtain ⟨hm, _⟩ := ha
  refine ⟨fun x hx => ?_, fun x hx => ?_, fun x hx => ?_, fun x hx p hp => ?_, fun C h1 h2 => ?_, ?_⟩
  · rcases List.mem_append.1 hx with hx | hx
    · exact h.gdT x (by simp [hx])
    · rcases hq with ⟨_, _, e⟩ | ⟨_, e⟩
      · rw [e] at hx; cases hx
      · rw [e] at hx; exact gd_parts (h.gdT t (by simp)) x hx
  · rcases (hm x).1 hx with hx | rfl
    · exact h.gdO x hx
    · exact h.gdT x (by simp)
  · rcases h.has x hx with hx | hx
    · rcases List.mem_cons.1 hx with rfl | hx
      · exact .inr ((hm x).2 (.inr rfl))
      · exact .inl (List.mem_append.2 (.inl hx))
    · exact .inr ((hm x).2 (.inl hx))
  · have old : x ∈ L → p ∈ T ++ q ∨ p ∈ L' := fun hx => by
      rcases h.closed x hx p hp with h' | h'
      · rcases List.mem_cons.1 h' with rfl | h'
        · exact .inr ((hm p).2 (.inr rfl))
        · exact .inl (List.mem_append.2 (.inl h'))
      · exact .inr ((hm p).2 (.inl h'))
    rcases (hm x).1 hx with hx | rfl
    · exact old hx
    · rcases hq with ⟨_, hx, _⟩ | ⟨_, e⟩
      · exact old hx
      · exact .inl (List.mem_append.2 (.inr (by rw [e]; exact hp)))
  · obtain ⟨c1, c2⟩ := h.least C h1 h2
    refine ⟨fun x hx => ?_, fun x hx => ?_⟩
    · rcases List.mem_append.1 hx with hx | hx
      · exact c1 x (by simp [hx])
      · rcases hq with ⟨_, _, e⟩ | ⟨_, e⟩
        · rw [e] at hx; cases hx
        · rw [e] at hx; exact h2 t (c1 t (by simp)) x hx
    · rcases (hm x).1 hx with hx | rfl
      · exact c2 x hx
      · exact c1 x (by simp)
  · have := h.len
    simp only [szL] at this
    simp only [szL_app]
    have := szT_pos t
    rcases hq with ⟨e, _, _⟩ | ⟨e, _⟩
    · rw [e]; omega
    · omega

def openG : Nat → List Tm → List Tm → List Tm
  | 0, _, L => L
  | _, [], L => L
  | n + 1, t :: T, L => if (addF L t).length = L.length then openG n T (addF L t) else openG n (T ++ parts t) (addF L t)

theorem sz_parts (t : Tm) : szL (parts t) < szT t := by
  obtain ⟨k, n, s, l⟩ := t
  rw [parts, szT]
  split
  · omega
  · split
    · cases l with
      | nil => simp [szL]
      | cons a l => simp only [List.drop_succ_cons, List.drop_zero, szL]; omega
    · rw [szL]; omega
theorem openG_irr : ∀ (n m : Nat) (T L : List Tm), szL T ≤ n → szL T ≤ m → openG n T L = openG m T L := by
  intro n
  induction n with
  | zero =>
    intro m T L h1 _
    cases T with
    | nil => cases m <;> simp [openG]
    | cons t T =>
      have := szT_pos t
      rw [szL] at h1
      omega
  | succ n ih =>
    intro m T L h1 h2
    cases T with
    | nil => cases m <;> simp [openG]
    | cons t T =>
      have h3 := szT_pos t
      have h4 := sz_parts t
      rw [szL] at h1 h2
      cases m with
      | zero => omega
      | succ m =>
        rw [openG, openG]
        split
        · exact ih m T _ (by omega) (by omega)
        · exact ih m _ _ (by rw [szL_app]; omega) (by rw [szL_app]; omega)

/-- What is open. -/
def openF (l : List Tm) : List Tm := openG (szL l) l []

theorem openG_P {l : List Tm} : ∀ (n : Nat) (T L : List Tm), szL T ≤ n → OpenI l (T, L) → OpenP l (openG n T L) := by
  have fin : ∀ L, OpenI l ([], L) → OpenP l L := fun L hI =>
    ⟨fun x hx => (hI.has x hx).resolve_left (by simp), fun x hx p hp => (hI.closed x hx p hp).resolve_left (by simp), fun C h1 h2 => (hI.least C h1 h2).2, hI.gdO, by have := hI.len; simpa [szL] using this⟩
  intro n
  induction n with
  | zero =>
    intro T L h hI
    cases T with
    | nil => exact fin L hI
    | cons t T => have := szT_pos t; rw [szL] at h; omega
  | succ n ih =>
    intro T L h hI
    cases T with
    | nil => exact fin L hI
    | cons t T =>
      have h3 := szT_pos t
      have h4 := sz_parts t
      rw [szL] at h
      have hA := addF_P L t
      rw [openG]
      split
      · rename_i g
        have hq := hA.2.resolve_right (by omega)
        have hI' := openI_step hI hA [] (.inl ⟨hq.1, hq.2, rfl⟩) (by rw [szL]; exact h3)
        rw [List.append_nil] at hI'
        exact ih T _ (by omega) hI'
      · rename_i g
        have g' : (addF L t).length = L.length + 1 := hA.2.resolve_left fun e => g (by rw [e.1])
        exact ih _ _ (by rw [szL_app]; omega) (openI_step hI hA (parts t) (.inr ⟨g', rfl⟩) h4)
theorem openF_P {l : List Tm} (hg : ∀ t ∈ l, Gd t) : OpenP l (openF l) :=
  openG_P _ l [] (Nat.le_refl _) ⟨hg, by simp, fun t h => .inl h, by simp, fun C h1 _ => ⟨h1, by simp⟩, by simp⟩

set_option maxRecDepth 100000 in
theorem open_fn (l : List Tm) (hg : ∀ t ∈ l, Gd t) (hl : szL l ≤ 1000000) : Gives Try.prog 30 [.lst 4 (rowsT l)] (.lst 4 (rowsT (openF l))) := by
  have hlen : (rowsT l).length = l.length := rowsT_len l
  have hll := szL_len l
  refine contract_of ty_ok [0, 1, 2, 3, 4, 6, 7] Try.func30 rfl (by decide) Try.ntmps30 rfl fun z => ?_
  refine run 400 rfl ?_
  refine at_gro (.tl 4 []) (doesG_build ty_ok _ rfl trivial rfl rfl (by decide)) ?_
  refine run 400 rfl ?_
  refine at_new 5 4 ([] ++ rowsT l) (doesT_append ty_ok rfl rfl rfl rfl rfl rfl rfl (by simp; omega) (by show _ * 56 ≤ _; simp; omega)) ?_
  refine run 400 rfl ?_
  refine at_loop (fun x : List Tm × List Tm => OpenI l x ∧ openG (szL x.1) x.1 x.2 = openF l) (fun x => [(4, .gl 5 4 (rowsT x.1)), (3, .lst 4 (rowsT x.2))]) (fun _ => [(5, .tok 4)]) (fun x => szL x.1) [0, 1, 2, 3, 4, 6, 7]
    (l, []) ⟨⟨hg, by simp, fun t h => .inl h, by simp, fun C h1 _ => ⟨h1, by simp⟩, by simp⟩, rfl⟩ ⟨SVle.refl _, ?_, trivial⟩ ⟨rfl, trivial⟩ ?_
  · rw [rowsT_nil]
    exact fun g H x h => SVle.tl 4 [] g H x (SVle.nil 4 g H x h)
  rintro ⟨T, L⟩ ⟨hI, hF⟩
  dsimp only at hF
  have hTlen : ((rowsT T).length : Int) = T.length := by rw [rowsT_len]
  have hT0 := szL_len T
  have hlen0 := hI.len
  dsimp only at hlen0
  refine run 400 rfl ?_
  refine at_ifd rfl (fun h => ?_) (fun h => ?_)
  rotate_left
  · rw [hTlen] at h
    have : T = [] := List.eq_nil_of_length_eq_zero (by omega)
    subst this
    refine run 400 rfl ?_
    have e : L = openF l := by rw [← hF, szL, openG]
    exact at_ret rfl rfl [] ⟨by rw [e], rfl, rfl⟩ trivial
  rw [hTlen] at h
  cases T with
  | nil => simp at h
  | cons t T =>
    refine run 400 rfl ?_
    refine at_val (.rp (tr t) 0) (does_index ty_ok _ rfl rfl rfl (by omega) (show (rowsT (t :: T))[(0 : Int).toNat]? = some (tr t) by rw [rowsT_cons]; rfl) rfl) ?_
    refine run 400 rfl ?_
    refine at_grow 5 5 4 ((rowsT (t :: T)).drop (1 : Int).toNat) rfl (doesU_slice_l ty_ok rfl rfl rfl (by omega) rfl) rfl ?_
    have e1 : (rowsT (t :: T)).drop (1 : Int).toNat = rowsT T := by rw [rowsT_cons]; rfl
    rw [e1]
    refine run 400 rfl ?_
    have hLlen : (rowsT L).length = L.length := rowsT_len L
    have hT1 : (rowsT T).length = T.length := rowsT_len T
    refine at_fn (add_fn L t (fun x hx => (hI.gdO x hx).sm) (by omega)) rfl ?_
    have hA := addF_P L t
    have hstep : openF l = if (addF L t).length = L.length then openG (szL T) T (addF L t) else openG (szL (T ++ parts t)) (T ++ parts t) (addF L t) := by
      have h3 := szT_pos t
      have h4 := sz_parts t
      obtain ⟨q, hq⟩ : ∃ q, szL (t :: T) = q + 1 := ⟨szL (t :: T) - 1, by rw [szL]; omega⟩
      have hq' : szT t + szL T = q + 1 := by rw [← hq, szL]
      rw [← hF, hq, openG]
      split
      · exact openG_irr _ _ _ _ (by omega) (Nat.le_refl _)
      · exact openG_irr _ _ _ _ (by rw [szL_app]; omega) (Nat.le_refl _)
    generalize addF L t = L' at hA hstep
    have hLlen' : (rowsT L').length = L'.length := rowsT_len L'
    have hsz : szL (t :: T) = szT t + szL T := by rw [szL]
    refine run 400 rfl ?_
    refine at_if rfl (fun g => ?_) (fun g => ?_)
    · rw [hLlen, hLlen', beq_iff_eq] at g
      have hq : L' = L ∧ t ∈ L := hA.2.resolve_right (by omega)
      have hI' := openI_step hI hA [] (.inl ⟨hq.1, hq.2, rfl⟩) (by rw [szL]; exact szT_pos t)
      rw [List.append_nil] at hI'
      refine run 400 rfl ?_
      rw [if_pos (by omega)] at hstep
      exact at_again (T, L') ⟨hI', hstep.symm⟩ (by have := szT_pos t; dsimp only; omega) ⟨SVle.refl _, SVle.refl _, trivial⟩ ⟨rfl, trivial⟩
    · rw [hLlen, hLlen'] at g
      have g0 : ¬ L'.length = L.length := by simp at g; omega
      rw [if_neg g0] at hstep
      have g : L'.length = L.length + 1 := hA.2.resolve_left fun e => by rw [e.1] at g; simp at g
      have hgt := hI.gdT t (by simp)
      obtain ⟨k, n, s, ks⟩ := t
      obtain ⟨hk1, hk2⟩ := hgt
      refine run 400 rfl ?_
      refine at_if rfl (fun g7 => ?_) (fun g7 => ?_)
      · have g7 : k = 7 := by simpa using g7
        subst g7
        obtain ⟨a, b, rfl⟩ : ∃ a b, ks = [a, b] := by
          have : ks.length = 2 := by simp [kidsF] at hk1; omega
          match ks, this with
          | [a, b], _ => exact ⟨a, b, rfl⟩
        have hI' := openI_step hI hA [a, b] (.inr ⟨g, by simp [parts]⟩) (by simp only [szT, szL]; omega)
        refine run 400 rfl ?_
        refine at_drawn 10 rfl rfl [(3, .val (.rp (tr a) 0)), (7, .val (.rp (tr b) 0)), (9, .gro (.tl 4 [tr a, tr b]))] [20, 21, 22] rfl
          ⟨doesG_build ty_ok _ rfl ⟨⟨rfl, rfl, _, rfl, SVles.refl _⟩, ⟨rfl, rfl, _, rfl, SVles.refl _⟩, trivial⟩ rfl rfl (by decide), does_index ty_ok _ rfl rfl rfl (by omega) (show (rowsT [a, b])[(1 : Int).toNat]? = some (tr b) by rw [rowsT_cons, rowsT_cons]; rfl) rfl, does_index ty_ok _ rfl rfl rfl (by omega) (show (rowsT [a, b])[(0 : Int).toNat]? = some (tr a) by rw [rowsT_cons]; rfl) rfl⟩ ?_
        refine at_grow 5 5 4 (rowsT T ++ [tr a, tr b]) rfl (doesU_append ty_ok rfl rfl rfl rfl rfl rfl rfl (by simp; simp at hT0; omega) (by show _ * 56 ≤ _; simp; simp at hT0; omega)) rfl ?_
        refine run 400 rfl ?_
        exact at_again (T ++ [a, b], L') ⟨hI', by rw [hstep]; simp [parts]⟩ (by simp only [szT, szL, szL_app]; omega) ⟨SVle.of_eq (by show SV.gl 5 4 (rowsT T ++ [tr a, tr b]) = SV.gl 5 4 (rowsT (T ++ [a, b])); rw [rowsT_app, rowsT_cons, rowsT_cons, rowsT_nil]), SVle.refl _, trivial⟩ ⟨rfl, trivial⟩
      · have g7 : k ≠ 7 := by simpa using g7
        refine run 400 rfl ?_
        refine at_if rfl (fun g6 => ?_) (fun g6 => ?_)
        · have g6 : k = 6 := by simpa using g6
          subst g6
          obtain ⟨a, b, rfl⟩ : ∃ a b, ks = [a, b] := by
            have : ks.length = 2 := by simp [kidsF] at hk1; omega
            match ks, this with
            | [a, b], _ => exact ⟨a, b, rfl⟩
          have hI' := openI_step hI hA [b] (.inr ⟨g, by simp [parts]⟩) (by simp only [szT, szL]; omega)
          refine run 400 rfl ?_
          refine at_val (.rp (tr b) 0) (does_index ty_ok _ rfl rfl rfl (by omega) (show (rowsT [a, b])[(1 : Int).toNat]? = some (tr b) by rw [rowsT_cons, rowsT_cons]; rfl) rfl) ?_
          refine run 400 rfl ?_
          refine at_gro (.tl 4 [tr b]) (doesG_build ty_ok _ rfl ⟨⟨rfl, rfl, _, rfl, SVles.refl _⟩, trivial⟩ rfl rfl (by decide)) ?_
          refine at_grow 5 5 4 (rowsT T ++ [tr b]) rfl (doesU_append ty_ok rfl rfl rfl rfl rfl rfl rfl (by simp; simp at hT0; omega) (by show _ * 56 ≤ _; simp; simp at hT0; omega)) rfl ?_
          refine run 400 rfl ?_
          exact at_again (T ++ [b], L') ⟨hI', by rw [hstep]; simp [parts]⟩ (by simp only [szT, szL, szL_app]; omega) ⟨SVle.of_eq (by show SV.gl 5 4 (rowsT T ++ [tr b]) = SV.gl 5 4 (rowsT (T ++ [b])); rw [rowsT_app, rowsT_cons, rowsT_nil]), SVle.refl _, trivial⟩ ⟨rfl, trivial⟩
        · have g6 : k ≠ 6 := by simpa using g6
          have hI' := openI_step hI hA [] (.inr ⟨g, by simp [parts, g7, g6]⟩) (by simp only [szT, szL]; omega)
          rw [List.append_nil] at hI'
          refine run 400 rfl ?_
          exact at_again (T, L') ⟨hI', by rw [hstep]; simp [parts, g7, g6]⟩ (by have := szT_pos (.mk k n s ks); dsimp only; omega) ⟨SVle.refl _, SVle.refl _, trivial⟩ ⟨rfl, trivial⟩

theorem can_fn (l : List Tm) (t : Tm) (hg : ∀ t ∈ l, Gd t) (hl : szL l ≤ 1000000) (ht : Sm t) : Gives Try.prog 20 [.lst 4 (rowsT l), t.sv] (.bl (madeT (openF l) t)) := by
  have hO := openF_P hg
  refine contract_of ty_ok [0, 1, 2, 3, 4, 5, 6, 7] Try.func20 rfl (by decide) Try.ntmps20 rfl fun z => ?_
  refine run 400 rfl ?_
  refine at_drawn 4 rfl rfl [(1, .sv (.lst 4 (rowsT (openF l)))), (3, .sv (.bl (madeT (openF l) t)))] [20, 21, 22] rfl ⟨made_fn _ (fun x hx => (hO.gd x hx).sm) (by have := hO.len; omega) t ht, open_fn l hg hl⟩ ?_
  refine run 400 rfl ?_
  exact at_ret rfl rfl [] ⟨rfl, rfl, rfl⟩ trivial
end Go.Proofs.Ytmnmhehddbemkaa
