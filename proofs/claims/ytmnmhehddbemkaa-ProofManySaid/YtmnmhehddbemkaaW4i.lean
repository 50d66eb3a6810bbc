import Derived.Test.YtmnmhehddbemkaaW4h
namespace Go.Proofs.Ytmnmhehddbemkaa
open Go Go.Eng

def words : List ByteArray := [⟨#[]⟩, ⟨#[97]⟩, ⟨#[98]⟩, ⟨#[97, 98]⟩, ⟨#[0]⟩, ⟨#[126]⟩, ⟨#[97, 108, 105, 99, 101]⟩, ⟨#[99, 49]⟩, ⟨#[126, 65, 103, 65, 65, 65, 65, 69, 126]⟩]
def nums : List Int := [1, 2, 3, 4, 5, 0, 300, 1073741824]
def leafA (ns : List Int) (j : Int) : Tm × Int := let p := pickF ns j words; (.mk 1 0 p.1 [], p.2)
def leafN (ns : List Int) (j : Int) : Tm × Int := let q := nextF ns j 8; (.mk 2 (nums.getD q.1.toNat 0) .empty [], q.2)
/-- A term of numbers. -/
def genT (ns : List Int) : Nat → Int → Tm × Int
  | 0, j => let r := nextF ns j 10; if r.1.tmod 5 < 2 then leafA ns r.2 else leafN ns r.2
  | d + 1, j => let r := nextF ns j 10
    if r.1 < 2 then leafA ns r.2 else if r.1 < 5 then leafN ns r.2
    else if r.1 < 7 then (let u := genT ns d r.2; (.mk (3 + r.1 - 5) 0 .empty [u.1], u.2))
    else (let u := genT ns d r.2; let v := genT ns d u.2; (.mk (5 + r.1 - 7) 0 .empty [u.1, v.1], v.2))

theorem genT_le (ns : List Int) : ∀ (d : Nat) (j : Int), 0 ≤ j ∧ j ≤ ns.length → 0 ≤ (genT ns d j).2 ∧ (genT ns d j).2 ≤ ns.length := by
  have hA : ∀ j : Int, 0 ≤ j ∧ j ≤ ns.length → 0 ≤ (leafA ns j).2 ∧ (leafA ns j).2 ≤ ns.length := fun j h => by
    have := nextF_le (l := ns) (j := j) (n := words.length) h
    exact this.2.2
  have hN : ∀ j : Int, 0 ≤ j ∧ j ≤ ns.length → 0 ≤ (leafN ns j).2 ∧ (leafN ns j).2 ≤ ns.length := fun j h => by
    have := nextF_le (l := ns) (j := j) (n := 8) h
    exact this.2.2
  intro d
  induction d with
  | zero =>
    intro j h
    have hx := nextF_le (l := ns) (j := j) (n := 10) h
    simp only [genT]
    split
    · exact hA _ hx.2.2
    · exact hN _ hx.2.2
  | succ d ih =>
    intro j h
    have hx := nextF_le (l := ns) (j := j) (n := 10) h
    simp only [genT]
    split
    · exact hA _ hx.2.2
    · split
      · exact hN _ hx.2.2
      · split
        · exact ih _ hx.2.2
        · exact ih _ (ih _ hx.2.2)

set_option maxRecDepth 100000 in
theorem term_fn (ns : List Int) (hl : ns.length ≤ 9223372036854775807) : ∀ (d : Nat), d ≤ 100 → ∀ j : Int, 0 ≤ j → j ≤ ns.length →
    Contract Try.prog 55 1 [(0, tape ns j)] [.ptr 0 0, I d] fun s post => s = (genT ns d j).1.sv ∧ post = [(0, tape ns (genT ns d j).2)] := by
  intro d
  induction d with
  | zero =>
    intro _ j h0 h1
    refine contract_of ty_ok [1, 2, 3, 4, 5, 6, 7] Try.func55 rfl (by decide) Try.ntmps55 rfl fun z => ?_
    have hx := nextF_le (l := ns) (j := j) (n := 10) ⟨h0, h1⟩
    have hn := next_fn ns j 10 hl ⟨h0, h1⟩ (by omega)
    have hg : genT ns 0 j = if (nextF ns j 10).1.tmod 5 < 2 then leafA ns (nextF ns j 10).2 else leafN ns (nextF ns j 10).2 := rfl
    generalize nextF ns j 10 = r at hx hn hg
    obtain ⟨v, j1⟩ := r
    dsimp only at hx hn hg
    have ht := (tmod_val v 5 (by omega)).2
    refine run 400 rfl ?_
    refine at_metF 0 hn rfl rfl rfl ?_
    refine run 400 rfl ?_
    refine at_ifd rfl (fun g1 => ?_) (fun g1 => absurd (by omega) g1)
    refine run 400 rfl ?_
    refine at_ifd rfl (fun g2 => ?_) (fun g2 => ?_)
    · rw [if_pos g2] at hg
      refine run 400 rfl ?_
      refine at_gro (.tl 1 (strs words)) (doesG_build ty_ok _ rfl ⟨⟨rfl, rfl, _, rfl, SVles.refl _⟩, ⟨rfl, rfl, _, rfl, SVles.refl _⟩, ⟨rfl, rfl, _, rfl, SVles.refl _⟩, ⟨rfl, rfl, _, rfl, SVles.refl _⟩, ⟨rfl, rfl, _, rfl, SVles.refl _⟩, ⟨rfl, rfl, _, rfl, SVles.refl _⟩, ⟨rfl, rfl, _, rfl, SVles.refl _⟩, ⟨rfl, rfl, _, rfl, SVles.refl _⟩, ⟨rfl, rfl, _, rfl, SVles.refl _⟩, trivial⟩ rfl rfl (by decide)) ?_
      refine run 400 rfl ?_
      refine at_metF 0 (pick_fn ns j1 words (by simp [words]) (by simp [words]) hl (by omega)) rfl rfl rfl ?_
      refine run 400 rfl ?_
      refine at_fn (A_fn _) rfl ?_
      refine run 400 rfl ?_
      exact at_ret rfl rfl [(0, tape ns (pickF ns j1 words).2)] ⟨by rw [hg]; rfl, by rw [hg]; rfl⟩ ⟨rfl, trivial⟩
    · rw [if_neg g2] at hg
      refine run 400 rfl ?_
      refine at_ifd rfl (fun g3 => ?_) (fun g3 => absurd (by omega) g3)
      refine run 400 rfl ?_
      refine at_gro (.tl 1 (ints nums)) (doesG_build ty_ok _ rfl ⟨⟨rfl, rfl, _, rfl, SVles.refl _⟩, ⟨rfl, rfl, _, rfl, SVles.refl _⟩, ⟨rfl, rfl, _, rfl, SVles.refl _⟩, ⟨rfl, rfl, _, rfl, SVles.refl _⟩, ⟨rfl, rfl, _, rfl, SVles.refl _⟩, ⟨rfl, rfl, _, rfl, SVles.refl _⟩, ⟨rfl, rfl, _, rfl, SVles.refl _⟩, ⟨rfl, rfl, _, rfl, SVles.refl _⟩, trivial⟩ rfl rfl (by decide)) ?_
      refine run 400 rfl ?_
      have hq := nextF_le (l := ns) (j := j1) (n := 8) (by omega)
      refine at_metF 0 (next_fn ns j1 8 hl (by omega) (by omega)) rfl rfl rfl ?_
      refine run 400 rfl ?_
      refine at_val (.rp [.int .i64 (nums.getD (nextF ns j1 8).1.toNat 0)] 0) (does_index ty_ok _ rfl rfl rfl hq.1 (ints_get hq.1 (by simp [nums]; omega)) rfl) ?_
      refine run 400 rfl ?_
      refine at_fn (N_fn _) rfl ?_
      refine run 400 rfl ?_
      exact at_ret rfl rfl [(0, tape ns (nextF ns j1 8).2)] ⟨by rw [hg]; rfl, by rw [hg]; rfl⟩ ⟨rfl, trivial⟩
  | succ d ih =>
    intro hd j h0 h1
    refine contract_of ty_ok [1, 2, 3, 4, 5, 6, 7] Try.func55 rfl (by decide) Try.ntmps55 rfl fun z => ?_
    have hx := nextF_le (l := ns) (j := j) (n := 10) ⟨h0, h1⟩
    have hn := next_fn ns j 10 hl ⟨h0, h1⟩ (by omega)
    have hg : genT ns (d + 1) j = if (nextF ns j 10).1 < 2 then leafA ns (nextF ns j 10).2 else if (nextF ns j 10).1 < 5 then leafN ns (nextF ns j 10).2
      else if (nextF ns j 10).1 < 7 then (.mk (3 + (nextF ns j 10).1 - 5) 0 .empty [(genT ns d (nextF ns j 10).2).1], (genT ns d (nextF ns j 10).2).2)
      else (.mk (5 + (nextF ns j 10).1 - 7) 0 .empty [(genT ns d (nextF ns j 10).2).1, (genT ns d (genT ns d (nextF ns j 10).2).2).1], (genT ns d (genT ns d (nextF ns j 10).2).2).2) := rfl
    generalize nextF ns j 10 = r at hx hn hg
    obtain ⟨v, j1⟩ := r
    dsimp only at hx hn hg
    refine run 400 rfl ?_
    refine at_metF 0 hn rfl rfl rfl ?_
    refine run 400 rfl ?_
    refine at_ifd rfl (fun g1 => absurd g1 (by omega)) (fun g1 => ?_)
    refine run 400 rfl ?_
    refine at_ifd rfl (fun g2 => ?_) (fun g2 => ?_)
    · rw [if_pos g2] at hg
      refine run 400 rfl ?_
      refine at_gro (.tl 1 (strs words)) (doesG_build ty_ok _ rfl ⟨⟨rfl, rfl, _, rfl, SVles.refl _⟩, ⟨rfl, rfl, _, rfl, SVles.refl _⟩, ⟨rfl, rfl, _, rfl, SVles.refl _⟩, ⟨rfl, rfl, _, rfl, SVles.refl _⟩, ⟨rfl, rfl, _, rfl, SVles.refl _⟩, ⟨rfl, rfl, _, rfl, SVles.refl _⟩, ⟨rfl, rfl, _, rfl, SVles.refl _⟩, ⟨rfl, rfl, _, rfl, SVles.refl _⟩, ⟨rfl, rfl, _, rfl, SVles.refl _⟩, trivial⟩ rfl rfl (by decide)) ?_
      refine run 400 rfl ?_
      refine at_metF 0 (pick_fn ns j1 words (by simp [words]) (by simp [words]) hl (by omega)) rfl rfl rfl ?_
      refine run 400 rfl ?_
      refine at_fn (A_fn _) rfl ?_
      refine run 400 rfl ?_
      exact at_ret rfl rfl [(0, tape ns (pickF ns j1 words).2)] ⟨by rw [hg]; rfl, by rw [hg]; rfl⟩ ⟨rfl, trivial⟩
    rw [if_neg g2] at hg
    refine run 400 rfl ?_
    refine at_ifd rfl (fun g3 => ?_) (fun g3 => ?_)
    · rw [if_pos g3] at hg
      refine run 400 rfl ?_
      refine at_gro (.tl 1 (ints nums)) (doesG_build ty_ok _ rfl ⟨⟨rfl, rfl, _, rfl, SVles.refl _⟩, ⟨rfl, rfl, _, rfl, SVles.refl _⟩, ⟨rfl, rfl, _, rfl, SVles.refl _⟩, ⟨rfl, rfl, _, rfl, SVles.refl _⟩, ⟨rfl, rfl, _, rfl, SVles.refl _⟩, ⟨rfl, rfl, _, rfl, SVles.refl _⟩, ⟨rfl, rfl, _, rfl, SVles.refl _⟩, ⟨rfl, rfl, _, rfl, SVles.refl _⟩, trivial⟩ rfl rfl (by decide)) ?_
      refine run 400 rfl ?_
      have hq := nextF_le (l := ns) (j := j1) (n := 8) (by omega)
      refine at_metF 0 (next_fn ns j1 8 hl (by omega) (by omega)) rfl rfl rfl ?_
      refine run 400 rfl ?_
      refine at_val (.rp [.int .i64 (nums.getD (nextF ns j1 8).1.toNat 0)] 0) (does_index ty_ok _ rfl rfl rfl hq.1 (ints_get hq.1 (by simp [nums]; omega)) rfl) ?_
      refine run 400 rfl ?_
      refine at_fn (N_fn _) rfl ?_
      refine run 400 rfl ?_
      exact at_ret rfl rfl [(0, tape ns (nextF ns j1 8).2)] ⟨by rw [hg]; rfl, by rw [hg]; rfl⟩ ⟨rfl, trivial⟩
    rw [if_neg g3] at hg
    have e1 : (((d + 1 : Nat) : Int) - 1) = (d : Int) := by omega
    have hu := ih (by omega) j1 (by omega) (by omega)
    have hu2 := genT_le ns d j1 (by omega)
    generalize genT ns d j1 = u at hu hu2 hg
    obtain ⟨a, j2⟩ := u
    dsimp only at hu hu2 hg
    refine run 400 rfl ?_
    refine at_ifd rfl (fun g4 => ?_) (fun g4 => ?_)
    · rw [if_pos g4] at hg
      refine run 400 rfl ?_
      refine at_metF 0 hu (by rw [← e1]; rfl) rfl rfl ?_
      refine run 400 rfl ?_
      refine at_gro (.tl 4 [tr a]) (doesG_build ty_ok _ rfl ⟨⟨rfl, rfl, _, rfl, SVles.refl _⟩, trivial⟩ rfl rfl (by decide)) ?_
      have hT : Gives Try.prog 35 [I (3 + v - 5), .tl 4 [tr a]] (Tm.mk (3 + v - 5) 0 .empty [a]).sv := (T_fn _ [a]).weak ⟨SVle.refl _, by rw [rowsT_cons, rowsT_nil]; exact SVle.tl _ _, trivial⟩
      refine at_fn hT rfl ?_
      refine run 400 rfl ?_
      exact at_ret rfl rfl [(0, tape ns j2)] ⟨by rw [hg], by rw [hg]⟩ ⟨rfl, trivial⟩
    · rw [if_neg g4] at hg
      have hv := ih (by omega) j2 (by omega) (by omega)
      have hv2 := genT_le ns d j2 (by omega)
      generalize genT ns d j2 = w at hv hv2 hg
      obtain ⟨b, j3⟩ := w
      dsimp only at hv hv2 hg
      refine run 400 rfl ?_
      refine at_metF 0 hu (by rw [← e1]; rfl) rfl rfl ?_
      refine run 400 rfl ?_
      have hT : Gives Try.prog 35 [I (5 + v - 7), .tl 4 [tr a, tr b]] (Tm.mk (5 + v - 7) 0 .empty [a, b]).sv := (T_fn _ [a, b]).weak ⟨SVle.refl _, by rw [rowsT_cons, rowsT_cons, rowsT_nil]; exact SVle.tl _ _, trivial⟩
      refine at_drawn_st 10 [0] rfl rfl [(7, .met 0 (tape ns j3) b.sv), (8, .gro (.tl 4 [tr a, tr b])), (9, .sv (Tm.mk (5 + v - 7) 0 .empty [a, b]).sv)] [20, 21, 22] rfl
        ⟨hT, doesG_build ty_ok _ rfl ⟨⟨rfl, rfl, _, rfl, SVles.refl _⟩, ⟨rfl, rfl, _, rfl, SVles.refl _⟩, trivial⟩ rfl rfl (by decide), doesM_call hv (by rw [← e1]; rfl), by show _ ∧ _; omega, by show _ ∧ _; omega, by show _ ∧ _; omega⟩ ?_
      refine run 400 rfl ?_
      exact at_ret rfl rfl [(0, tape ns j3)] ⟨by rw [hg], by rw [hg]⟩ ⟨rfl, trivial⟩
end Go.Proofs.Ytmnmhehddbemkaa
