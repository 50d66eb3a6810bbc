/- The proof engine, part 13: where the run stops: calls, tests, loops. -/
import Derived.Test.YtmnmhehddbemkaaCall
namespace Go.Eng

mutual
/-- The names of blocks, turned. -/
def ren (r : Nat → Nat) : SV → SV
  | .gl k sz rows => .gl (r k) sz rows
  | .arr k n => .arr (r k) n
  | .mp k => .mp (r k)
  | .ptr k off => .ptr (r k) off
  | .agg l => .agg (rens r l)
  | .tup l => .tup (rens r l)
  | .clo f l => .clo f (rens r l)
  | s => s
def rens (r : Nat → Nat) : List SV → List SV
  | [] => []
  | s :: l => ren r s :: rens r l
end

mutual
def SV.lt (m : Nat) : SV → Bool
  | .gl k _ _ => Nat.blt k m
  | .arr k _ => Nat.blt k m
  | .mp k => Nat.blt k m
  | .ptr k _ => Nat.blt k m
  | .agg l => SV.lts m l
  | .tup l => SV.lts m l
  | .clo _ l => SV.lts m l
  | _ => true
def SV.lts (m : Nat) : List SV → Bool
  | [] => true
  | s :: l => bif SV.lt m s then SV.lts m l else false
end

mutual
theorem Den.ren {g g' : Nat → Value} {H : Hp} {m : Nat} {r : Nat → Nat} (hg : ∀ k, k < m → g' (r k) = g k) : ∀ (d : SV) (x : Value), d.lt m = true → Den g H d x → Den g' H (ren r d) x
  | .int _ _, _, _, h => h
  | .bl _, _, _, h => h
  | .tt, _, _, h => h
  | .ff, _, _, h => h
  | .str _, _, _, h => h
  | .val _, _, _, h => h
  | .lst _ _, _, _, h => h
  | .gl k _ _, _, hl, h => ⟨h.1, by rw [hg k (Nat.blt_eq.mp hl)]; exact h.2⟩
  | .tl _ _, _, _, h => h
  | .arr k _, _, hl, h => by obtain ⟨b, h1, h2⟩ := h; exact ⟨b, by rw [hg k (Nat.blt_eq.mp hl)]; exact h1, h2⟩
  | .mp k, _, hl, h => by obtain ⟨b, h1, h2⟩ := h; exact ⟨b, by rw [hg k (Nat.blt_eq.mp hl)]; exact h1, h2⟩
  | .ptr k _, _, hl, h => by obtain ⟨b, h1, h2⟩ := h; exact ⟨b, by rw [hg k (Nat.blt_eq.mp hl)]; exact h1, h2⟩
  | .rp _ _, _, _, h => h
  | .agg l, _, hl, h => by obtain ⟨cs, e, h⟩ := h; exact ⟨cs, e, Dens.ren hg l cs hl h⟩
  | .tup l, _, hl, h => by obtain ⟨cs, e, h⟩ := h; exact ⟨cs, e, Dens.ren hg l cs hl h⟩
  | .clo _ l, _, hl, h => by obtain ⟨cs, e, h⟩ := h; exact ⟨cs, e, Dens.ren hg l cs hl h⟩
  | .any, _, _, _ => trivial
theorem Dens.ren {g g' : Nat → Value} {H : Hp} {m : Nat} {r : Nat → Nat} (hg : ∀ k, k < m → g' (r k) = g k) : ∀ (ds : List SV) (vs : List Value), SV.lts m ds = true → Dens g H ds vs → Dens g' H (rens r ds) vs
  | [], [], _, _ => trivial
  | d :: ds, v :: vs, hl, h => by
    have h1 : d.lt m = true := by
      cases hd : d.lt m with
      | true => rfl
      | false => simp [SV.lts, hd] at hl
    have h2 : SV.lts m ds = true := by simpa [SV.lts, h1] using hl
    exact ⟨Den.ren hg d v h1 h.1, Dens.ren hg ds vs h2 h.2⟩
  | [], _ :: _, _, h => h.elim
  | _ :: _, [], _, h => h.elim
end

mutual
theorem Den.unren {g g' : Nat → Value} {H : Hp} {r : Nat → Nat} (hg : ∀ k, g k = g' (r k)) : ∀ (d : SV) (x : Value), Den g' H (ren r d) x → Den g H d x
  | .int _ _, _, h => h
  | .bl _, _, h => h
  | .tt, _, h => h
  | .ff, _, h => h
  | .str _, _, h => h
  | .val _, _, h => h
  | .lst _ _, _, h => h
  | .gl k _ _, _, h => ⟨h.1, by rw [hg k]; exact h.2⟩
  | .tl _ _, _, h => h
  | .arr k _, _, h => by obtain ⟨b, h1, h2⟩ := h; exact ⟨b, by rw [hg k]; exact h1, h2⟩
  | .mp k, _, h => by obtain ⟨b, h1, h2⟩ := h; exact ⟨b, by rw [hg k]; exact h1, h2⟩
  | .ptr k _, _, h => by obtain ⟨b, h1, h2⟩ := h; exact ⟨b, by rw [hg k]; exact h1, h2⟩
  | .rp _ _, _, h => h
  | .agg l, _, h => by obtain ⟨cs, e, h⟩ := h; exact ⟨cs, e, Dens.unren hg l cs h⟩
  | .tup l, _, h => by obtain ⟨cs, e, h⟩ := h; exact ⟨cs, e, Dens.unren hg l cs h⟩
  | .clo _ l, _, h => by obtain ⟨cs, e, h⟩ := h; exact ⟨cs, e, Dens.unren hg l cs h⟩
  | .any, _, _ => trivial
theorem Dens.unren {g g' : Nat → Value} {H : Hp} {r : Nat → Nat} (hg : ∀ k, g k = g' (r k)) : ∀ (ds : List SV) (vs : List Value), Dens g' H (rens r ds) vs → Dens g H ds vs
  | [], [], _ => trivial
  | d :: ds, v :: vs, h => ⟨Den.unren hg d v h.1, Dens.unren hg ds vs h.2⟩
  | [], _ :: _, h => h.elim
  | _ :: _, [], h => h.elim
end

def renO (r : Nat → Nat) : SO → SO
  | .cells t cs => .cells t (rens r cs)
  | o => o

/-- The own blocks of a callee, each as the caller has it. -/
def pres (r : Nat → Nat) (own : List (Nat × SO)) : List (Nat × SO) → Prop
  | [] => True
  | (k, o) :: l => ownq own (r k) = some (renO r o) ∧ pres r own l

theorem pres_spec {r : Nat → Nat} {own : List (Nat × SO)} : ∀ {pre : List (Nat × SO)}, pres r own pre → ∀ k o, ownq pre k = some o → ownq own (r k) = some (renO r o)
  | [], _, k, o, h => by simp [ownq] at h
  | (i, x) :: l, hs, k, o, h => by
    simp only [ownq] at h
    cases hb : Nat.beq i k with
    | true =>
      simp only [hb, cond_true, Option.some.injEq] at h
      subst h
      rw [← beq_true hb]
      exact hs.1
    | false =>
      simp only [hb, cond_false] at h
      exact pres_spec hs.2 k o h

/-- What the callee left. -/
def posts (r : Nat → Nat) : List (Nat × SO) → List (Nat × SO) → List (Nat × SO)
  | [], own => own
  | (k, o) :: l, own => setOwn (r k) (renO r o) (posts r l own)

def cellsLt (m : Nat) : List (Nat × SO) → Bool
  | [] => true
  | (k, .cells _ cs) :: l => bif Nat.blt k m then (bif SV.lts m cs then cellsLt m l else false) else false
  | (k, .obj _) :: l => bif Nat.blt k m then cellsLt m l else false
  | (_, .tok _) :: _ => false

theorem cellsLt_spec {m : Nat} : ∀ {l : List (Nat × SO)} {k : Nat} {o : SO}, cellsLt m l = true → ownq l k = some o → k < m ∧ match o with | .cells _ cs => SV.lts m cs = true | .obj _ => True | .tok _ => False
  | [], _, _, _, h => by simp [ownq] at h
  | (i, .cells t cs) :: l, k, o, hl, h => by
    simp only [cellsLt] at hl
    cases h1 : Nat.blt i m with
    | false => simp [h1] at hl
    | true =>
      cases h2 : SV.lts m cs with
      | false => simp [h1, h2] at hl
      | true =>
        simp only [h1, h2, cond_true] at hl
        simp only [ownq] at h
        cases hb : Nat.beq i k with
        | true =>
          simp only [hb, cond_true, Option.some.injEq] at h
          subst h
          rw [← beq_true hb]
          exact ⟨Nat.blt_eq.mp h1, h2⟩
        | false =>
          simp only [hb, cond_false] at h
          exact cellsLt_spec hl h
  | (i, .obj q) :: l, k, o, hl, h => by
    simp only [cellsLt] at hl
    cases h1 : Nat.blt i m with
    | false => simp [h1] at hl
    | true =>
      simp only [h1, cond_true] at hl
      simp only [ownq] at h
      cases hb : Nat.beq i k with
      | true =>
        simp only [hb, cond_true, Option.some.injEq] at h
        subst h
        rw [← beq_true hb]
        exact ⟨Nat.blt_eq.mp h1, trivial⟩
      | false =>
        simp only [hb, cond_false] at h
        exact cellsLt_spec hl h
  | (_, .tok _) :: _, _, _, hl, _ => by simp [cellsLt] at hl

theorem ownq_posts_other {r : Nat → Nat} : ∀ (post own : List (Nat × SO)) (j : Nat), (∀ k o, (k, o) ∈ post → r k ≠ j) → ownq (posts r post own) j = ownq own j
  | [], _, _, _ => rfl
  | (k, o) :: l, own, j, h => by
    simp only [posts, ownq_setOwn]
    rw [if_neg (fun e => h k o (by simp) e.symm)]
    exact ownq_posts_other l own j fun k o hm => h k o (by simp [hm])

theorem ownq_posts_some {r : Nat → Nat} : ∀ (post own : List (Nat × SO)) (j : Nat), (ownq (posts r post own) j).isSome = (ownq own j).isSome
  | [], _, _ => rfl
  | (k, o) :: l, own, j => by
    simp only [posts, ownq_setOwn]
    by_cases h : j = r k
    · rw [if_pos h, h]
      have := ownq_posts_some (r := r) l own (r k)
      cases hq : ownq (posts r l own) (r k) with
      | none => rw [hq] at this; simpa using this
      | some x => rw [hq] at this; simpa using this
    · rw [if_neg h]
      exact ownq_posts_some l own j

theorem ownq_posts_at {r : Nat → Nat} {own : List (Nat × SO)} : ∀ {post : List (Nat × SO)} {j : Nat} {o : SO}, ownq (posts r post own) j = some o →
    (∃ k x, ownq post k = some x ∧ r k = j ∧ o = renO r x) ∨ ((∀ k x, ownq post k = some x → r k ≠ j) ∧ ownq own j = some o)
  | [], j, o, h => .inr ⟨fun k x hk => by simp [ownq] at hk, h⟩
  | (i, x) :: l, j, o, h => by
    simp only [posts, ownq_setOwn] at h
    by_cases hj : j = r i
    · rw [if_pos hj] at h
      cases hq : ownq (posts r l own) (r i) with
      | none => rw [hq] at h; simp at h
      | some y =>
        rw [hq] at h
        simp only [Option.map_some, Option.some.injEq] at h
        exact .inl ⟨i, x, by simp [ownq], hj.symm, h.symm⟩
    · rw [if_neg hj] at h
      rcases ownq_posts_at h with ⟨k, y, hk, hr, he⟩ | ⟨h1, h2⟩
      · by_cases hik : i = k
        · subst hik; exact absurd hr.symm hj
        · refine .inl ⟨k, y, ?_, hr, he⟩
          have : Nat.beq i k = false := by
            cases hb : Nat.beq i k with
            | false => rfl
            | true => exact absurd (beq_true hb) hik
          simp [ownq, this, hk]
      · refine .inr ⟨fun k y hk => ?_, h2⟩
        simp only [ownq] at hk
        cases hb : Nat.beq i k with
        | true => rw [← beq_true hb]; exact fun e => hj e.symm
        | false =>
          simp only [hb, cond_false] at hk
          exact h1 k y hk

def keysB (post : List (Nat × SO)) : List (Nat × SO) → Bool
  | [] => true
  | (k, _) :: l => bif (ownq post k).isSome then keysB post l else false
theorem keysB_spec {post : List (Nat × SO)} : ∀ {pre : List (Nat × SO)}, keysB post pre = true → ∀ k o, ownq pre k = some o → (ownq post k).isSome = true
  | [], _, k, o, h => by simp [ownq] at h
  | (i, x) :: l, hs, k, o, h => by
    simp only [keysB] at hs
    cases h1 : (ownq post i).isSome with
    | false => simp [h1] at hs
    | true =>
      simp only [h1, cond_true] at hs
      simp only [ownq] at h
      cases hb : Nat.beq i k with
      | true => rw [← beq_true hb]; exact h1
      | false =>
        simp only [hb, cond_false] at h
        exact keysB_spec hs k o h

/-- Behind a call. -/
theorem Dn.called {cx : Cx} {g : Nat → Value} {H : Hp} {env : List (Nat × SV)} {own : List (Nat × SO)} {n : Nat} {tmps : Array Value} {w w' : World} {m : Nat} {pre : List (Nat × SO)} {r : Nat → Nat}
    {Post : SV → List (Nat × SO) → Prop} {v : Value}
    (h : Dn cx g H env own n tmps w) (hpre : pres r own pre) (hlt : ∀ k, k < m → (ownq pre k).isSome = true)
    (hf : Fin ⟨w, H, fun k => g (r k), m, preX (fun k => g (r k)) pre⟩ Post v w') :
    ∃ sv post, Post sv post ∧ (sv.lt m = true → cellsLt m post = true → keysB post pre = true → ∃ H', Den g H' (ren r sv) v ∧ Dn cx g H' env (posts r post own) n tmps w') := by
  obtain ⟨g', H', sv, post, hP, hv, hok, hinj, hon, hb⟩ := hf
  refine ⟨sv, post, hP, fun hsv hpl hkeys => ⟨H', ?_, ?_⟩⟩
  · exact Den.ren (g := g') (g' := g) (r := r) (m := m) (fun k hk => (hb.fix k hk).symm) sv v hsv hv
  have hXm : ∀ b, preX (fun k => g (r k)) pre b → ∃ k, (ownq own k).isSome = true ∧ blkOf (g k) = some b := by
    rintro b ⟨k, hk, hkb⟩
    cases ho : ownq pre k with
    | none => rw [ho] at hk; cases hk
    | some o => exact ⟨r k, by rw [pres_spec hpre k o ho]; rfl, hkb⟩
  have hblk : ∀ b, b < w.heap.size → ¬ preX (fun k => g (r k)) pre b → w'.heap[b]? = w.heap[b]? := hb.block
  have hhold : ∀ b, b < w.heap.size → ¬ preX (fun k => g (r k)) pre b → ∀ o, H' b o = H b o := hb.hold
  have hmine : ∀ b, preX (fun k => g (r k)) pre b → cx.mine b := by
    intro b hx
    obtain ⟨k, hk, hkb⟩ := hXm b hx
    cases ho : ownq own k with
    | none => rw [ho] at hk; cases hk
    | some o => exact (h.ok k o ho).blk_mine hkb
  refine { size := h.size, den := fun t => Den.mono hb.le _ _ (h.den t), ok := fun j o hj => ?_, inj := fun i j hi hj => h.inj i j (by rw [← ownq_posts_some (r := r) post own i]; exact hi) (by rw [← ownq_posts_some (r := r) post own j]; exact hj), hp := hon, base := ?_ }
  · rcases ownq_posts_at hj with ⟨k, x, hk, hr, he⟩ | ⟨hno, hj⟩
    · subst hr; subst he
      have hlk := cellsLt_spec hpl hk
      have ho := hok k x hk
      have hfix : g' k = g (r k) := hb.fix k hlk.1
      cases ho' : ownq pre k with
      | none => have := hlt k hlk.1; rw [ho'] at this; cases this
      | some x0 =>
        have hown := h.ok (r k) _ (pres_spec hpre k x0 ho')
        cases x with
        | cells ty cs =>
          obtain ⟨b, vs, e, h1, h2, h3, h4, h5⟩ := ho
          rw [hfix] at e
          exact ⟨b, vs, e, Dens.ren (g := g') (g' := g) (r := r) (m := m) (fun k hk => (hb.fix k hk).symm) cs vs hlk.2 h1, h2, h3, h4, hown.blk_mine (by rw [e]; rfl)⟩
        | tok sz => exact hlk.2.elim
        | obj f =>
          obtain ⟨q, o, e, h1, h2, h3, h4⟩ := ho
          rw [hfix] at e
          exact ⟨q, o, e, h1, h2, h3, hown.blk_mine (by rw [e]; rfl)⟩
    · have hown := h.ok j o hj
      have hnX : ∀ b, blkOf (g j) = some b → ¬ preX (fun k => g (r k)) pre b := by
        rintro b hbj ⟨k, hk, hkb⟩
        cases ho : ownq pre k with
        | none => rw [ho] at hk; cases hk
        | some o' =>
          have hq := pres_spec hpre k o' ho
          have := h.inj (r k) j (by rw [hq]; rfl) (by rw [hj]; rfl) b hkb hbj
          have hs := keysB_spec hkeys k o' ho
          cases hp : ownq post k with
          | some x => exact hno k x hp this
          | none => rw [hp] at hs; cases hs
      have hb1 : ∀ b, blkOf (g j) = some b → b < w.heap.size := fun b hbj => hown.blk_lt hbj
      have hw' := hown.at (w' := w') fun b hbj => hblk b (hb1 b hbj) (hnX b hbj)
      cases o with
      | cells ty cs =>
        obtain ⟨b, vs, e, h1, h2, h3, h4, h5⟩ := hw'
        have hbb : blkOf (g j) = some b := by rw [e]; rfl
        exact ⟨b, vs, e, Dens.mono hb.le cs vs h1, h2, h3, fun o => by rw [hhold b (hb1 b hbb) (hnX b hbb)]; exact h4 o, h5⟩
      | tok sz =>
        obtain ⟨a, q, c, e, h1, hle, h2⟩ := hw'
        refine ⟨a, q, c, e, h1, hle, fun p hpa hlt => ?_⟩
        obtain ⟨h3, h4, cs, ty, h5, h6, h7⟩ := h2 p hpa hlt
        have hbb : blkOf (g j) = some p.block := by rw [e, hpa]; simp [blkOf, Nat.blt_eq.mpr hlt]
        exact ⟨h3, h4, cs, ty, h5, h6, fun i hi => by rw [hhold p.block (hb1 _ hbb) (hnX _ hbb)]; exact h7 i hi⟩
      | obj f =>
        obtain ⟨q, o, e, h1, h2, h3, h4⟩ := hw'
        have hbb : blkOf (g j) = some q := by rw [e]; rfl
        exact ⟨q, o, e, h1, fun H'' hl => h2 H'' (Hp.le_trans hb.le hl), fun i => by rw [hhold q (hb1 _ hbb) (hnX _ hbb)]; exact h3 i, h4⟩
  · refine { os := hb.os.trans h.base.os, tape := hb.tape.trans h.base.tape, output := hb.output.trans h.base.output, size := Nat.le_trans h.base.size hb.size, block := fun b hb0 hx => ?_, hold := fun b hb0 hx o => ?_, le := Hp.le_trans h.base.le hb.le, fix := h.base.fix, froz := fun a => (hb.froz a).trans (h.base.froz a) }
    · have hnx : ¬ preX (fun k => g (r k)) pre b := fun hx' => (hmine b hx').elim (fun hle => absurd hb0 (by omega)) hx
      exact (hblk b (Nat.lt_of_lt_of_le hb0 h.base.size) hnx).trans (h.base.block b hb0 hx)
    · have hnx : ¬ preX (fun k => g (r k)) pre b := fun hx' => (hmine b hx').elim (fun hle => absurd hb0 (by omega)) hx
      exact (hhold b (Nat.lt_of_lt_of_le hb0 h.base.size) hnx o).trans (h.base.hold b hb0 hx o)

/-- Behind a call that was handed own blocks for good. -/
theorem Dn.left {cx : Cx} {g g' : Nat → Value} {H H' : Hp} {env : List (Nat × SV)} {own own2 : List (Nat × SO)} {n : Nat} {tmps : Array Value} {w w' : World} {m : Nat} {pre : List (Nat × SO)} {r : Nat → Nat}
    (h : Dn cx g H env own n tmps w) (hpre : pres r own pre) (hb : Base ⟨w, H, fun k => g (r k), m, preX (fun k => g (r k)) pre⟩ g' H' w') (hon : H'.on w')
    (hless : ∀ j o, ownq own2 j = some o → ownq own j = some o ∧ ∀ k, (ownq pre k).isSome = true → j ≠ r k) :
    Dn cx g H' env own2 n tmps w' ∧ ∀ b, (w.heap.size ≤ b ∨ preX (fun k => g (r k)) pre b) → cx.mine b ∧ ∀ j o, ownq own2 j = some o → blkOf (g j) ≠ some b := by
  have hXm : ∀ b, preX (fun k => g (r k)) pre b → ∃ k, (ownq own (r k)).isSome = true ∧ (ownq pre k).isSome = true ∧ blkOf (g (r k)) = some b := by
    rintro b ⟨k, hk, hkb⟩
    cases ho : ownq pre k with
    | none => rw [ho] at hk; cases hk
    | some o => exact ⟨k, by rw [pres_spec hpre k o ho]; rfl, by rw [ho]; rfl, hkb⟩
  have hblk : ∀ b, b < w.heap.size → ¬ preX (fun k => g (r k)) pre b → w'.heap[b]? = w.heap[b]? := hb.block
  have hhold : ∀ b, b < w.heap.size → ¬ preX (fun k => g (r k)) pre b → ∀ o, H' b o = H b o := hb.hold
  have hmine : ∀ b, preX (fun k => g (r k)) pre b → cx.mine b := by
    intro b hx
    obtain ⟨k, hk, _, hkb⟩ := hXm b hx
    cases ho : ownq own (r k) with
    | none => rw [ho] at hk; cases hk
    | some o => exact (h.ok (r k) o ho).blk_mine hkb
  have hdiff : ∀ j o, ownq own2 j = some o → ∀ b, blkOf (g j) = some b → ¬ preX (fun k => g (r k)) pre b := by
    intro j o hj b hbj hx
    obtain ⟨k, hk, hp, hkb⟩ := hXm b hx
    exact (hless j o hj).2 k hp (h.inj j (r k) (by rw [(hless j o hj).1]; rfl) hk b hbj hkb)
  refine ⟨{ size := h.size, den := fun t => Den.mono hb.le _ _ (h.den t), ok := fun j o hj => ?_, inj := fun i j hi hj => h.inj i j ?_ ?_, hp := hon, base := ?_ }, fun b hbb => ⟨?_, fun j o hj e => ?_⟩⟩
  · have hown := h.ok j o (hless j o hj).1
    have hnX := hdiff j o hj
    have hb1 : ∀ b, blkOf (g j) = some b → b < w.heap.size := fun b hbj => hown.blk_lt hbj
    have hw' := hown.at (w' := w') fun b hbj => hblk b (hb1 b hbj) (hnX b hbj)
    cases o with
    | cells ty cs =>
      obtain ⟨b, vs, e, h1, h2, h3, h4, h5⟩ := hw'
      have hbb : blkOf (g j) = some b := by rw [e]; rfl
      exact ⟨b, vs, e, Dens.mono hb.le cs vs h1, h2, h3, fun o => by rw [hhold b (hb1 b hbb) (hnX b hbb)]; exact h4 o, h5⟩
    | tok sz =>
      obtain ⟨a, q, c, e, h1, hle, h2⟩ := hw'
      refine ⟨a, q, c, e, h1, hle, fun p hpa hlt => ?_⟩
      obtain ⟨h3, h4, cs, ty, h5, h6, h7⟩ := h2 p hpa hlt
      have hbb : blkOf (g j) = some p.block := by rw [e, hpa]; simp [blkOf, Nat.blt_eq.mpr hlt]
      exact ⟨h3, h4, cs, ty, h5, h6, fun i hi => by rw [hhold p.block (hb1 _ hbb) (hnX _ hbb)]; exact h7 i hi⟩
    | obj f =>
      obtain ⟨q, o, e, h1, h2, h3, h4⟩ := hw'
      have hbb : blkOf (g j) = some q := by rw [e]; rfl
      exact ⟨q, o, e, h1, fun H'' hl => h2 H'' (Hp.le_trans hb.le hl), fun i => by rw [hhold q (hb1 _ hbb) (hnX _ hbb)]; exact h3 i, h4⟩
  · cases hq : ownq own2 i with
    | none => rw [hq] at hi; cases hi
    | some o => rw [(hless i o hq).1]; rfl
  · cases hq : ownq own2 j with
    | none => rw [hq] at hj; cases hj
    | some o => rw [(hless j o hq).1]; rfl
  · refine { os := hb.os.trans h.base.os, tape := hb.tape.trans h.base.tape, output := hb.output.trans h.base.output, size := Nat.le_trans h.base.size hb.size, block := fun b hb0 hx => ?_, hold := fun b hb0 hx o => ?_, le := Hp.le_trans h.base.le hb.le, fix := h.base.fix, froz := fun a => (hb.froz a).trans (h.base.froz a) }
    · have hnx : ¬ preX (fun k => g (r k)) pre b := fun hx' => (hmine b hx').elim (fun hle => absurd hb0 (by omega)) hx
      exact (hblk b (Nat.lt_of_lt_of_le hb0 h.base.size) hnx).trans (h.base.block b hb0 hx)
    · have hnx : ¬ preX (fun k => g (r k)) pre b := fun hx' => (hmine b hx').elim (fun hle => absurd hb0 (by omega)) hx
      exact (hhold b (Nat.lt_of_lt_of_le hb0 h.base.size) hnx o).trans (h.base.hold b hb0 hx o)
  · rcases hbb with hbb | hbb
    · exact .inl (Nat.le_trans h.base.size hbb)
    · exact hmine b hbb
  · rcases hbb with hbb | hbb
    · have := (h.ok j o (hless j o hj).1).blk_lt e
      omega
    · exact hdiff j o hj b e hbb

end Go.Eng
