/- The texts W6c, W6d, W6e, W6f, W6g, W7b, W7c, L4, W4y, W4z, one behind the other: an executor over the translated code, contracts of functions, and their laws. -/
import Derived.Shelf.Sort.Plain
import Derived.Test.YtmnmhehddbemkaaKnowC8
namespace Go.Proofs.Ytmnmhehddbemkaa
open Go Go.Eng
set_option maxRecDepth 100000

abbrev eqI (u v : Int) : Bool := u == v
abbrev slI (l : List Int) (r : Nat) : List (Nat × SO) := [(0, .buf (ints l) r)]
theorem ints_set (B : List Int) (k : Nat) (u : Int) : (ints B).set k [.int .i64 u] = ints (B.set k u) := by
  simp [List.map_set]
theorem ints_app (a b : List Int) : ints (a ++ b) = ints a ++ ints b := by simp
theorem ints_at' {l : List Int} {i : Nat} {u : Int} (h : l[i]? = some u) : (ints l)[i]? = some [.int .i64 u] := by
  rw [List.getElem?_map, h]; rfl
theorem ints_sz {l : List Int} : ∀ q ∈ ints l, q.length = 1 := by
  intro q hq
  obtain ⟨x, _, rfl⟩ := List.mem_map.1 hq
  rfl

theorem cmpactI_fn (l : List Int) (c r : Nat) (hl : l.length ≤ 1000000) (hc : l.length ≤ c) :
    Contract Try.prog 74 1 (slI l r) [.sl 0 0 l.length c] fun s post => s = .sl 0 0 (cmpF eqI l).length c ∧ post = slI (cmpF eqI l) ((l.length - (cmpF eqI l).length) * 1 + r) := by
  refine contract_of ty_ok [1, 2, 3, 4, 5, 6, 7] Try.func74 rfl (by decide) Try.ntmps74 rfl fun z => ?_
  refine run 400 rfl ?_
  refine at_ifd rfl (fun g => ?_) (fun g => ?_)
  · have e : cmpF eqI l = l := by
      match l, g with
      | [], _ => rfl
      | [x], _ => rfl
      | _ :: _ :: l, g => simp at g; omega
    refine run 400 rfl ?_
    exact at_ret rfl rfl (slI l r) ⟨by rw [e], by rw [e, Nat.sub_self, Nat.zero_mul, Nat.zero_add]⟩ ⟨rfl, trivial⟩
  refine run 400 rfl ?_
  refine at_loop (fun i : Nat => 1 ≤ i ∧ i ≤ l.length ∧ cmpF eqI (l.take i) = l.take i) (fun i => [(0, .sl 0 0 l.length c), (3, I i)]) (fun _ => slI l r) (fun i => l.length - i) [1, 2, 3, 4, 5, 6, 7]
    1 ⟨by omega, by omega, cmp_one _ _⟩ ⟨SVle.refl _, SVle.refl _, trivial⟩ ⟨rfl, trivial⟩ ?_
  rintro i ⟨a1, a2, a3⟩
  refine run 400 rfl ?_
  refine at_ifd rfl (fun g => ?_) (fun g => ?_)
  rotate_left
  · have e : i = l.length := by omega
    subst e
    rw [List.take_length] at a3
    refine run 400 rfl ?_
    exact at_ret rfl rfl (slI l r) ⟨by rw [a3], by rw [a3, Nat.sub_self, Nat.zero_mul, Nat.zero_add]⟩ ⟨rfl, trivial⟩
  have hlt : i < l.length := by omega
  obtain ⟨u, hu⟩ : ∃ u, l[i]? = some u := ⟨_, List.getElem?_eq_getElem hlt⟩
  obtain ⟨v, hv⟩ : ∃ v, l[i - 1]? = some v := ⟨_, List.getElem?_eq_getElem (by omega)⟩
  have h63 : ((i : Int) - 1).toNat = i - 1 := by omega
  refine run 400 rfl ?_
  refine at_drawn 10 rfl rfl [(2, .val (.ptr 0 (0 + (i : Int).toNat * 1))), (3, .val (I u)), (7, .val (.ptr 0 (0 + ((i : Int) - 1).toNat * 1))), (8, .val (I v))] [1, 2, 3] rfl
    ⟨does_loadB1 (j := 0) (sz := 1) (i := i - 1) ty_ok rfl rfl rfl (fun e => by cases e) (fun e => by cases e) (by omega) ints_sz (ints_at' hv) rfl, does_indexS ty_ok rfl rfl rfl (by omega) rfl, by constructor <;> omega, does_loadB1 (j := 0) (sz := 1) (i := i) ty_ok rfl rfl rfl (fun e => by cases e) (fun e => by cases e) (by omega) ints_sz (ints_at' hu) rfl, does_indexS ty_ok rfl rfl rfl (by omega) rfl⟩ ?_
  refine run 400 rfl ?_
  refine at_if rfl (fun q => ?_) (fun q => ?_)
  rotate_left
  · have q : eqI u v = false := by simpa using q
    refine run 400 rfl ?_
    exact at_again (i + 1) ⟨by omega, by omega, by rw [cmp_step eqI a1 hu hv, q, a3, List.take_add_one, hu]; rfl⟩ (by omega) ⟨SVle.refl _, SVle.of_eq (by show I ((i : Int) + 1) = I ((i + 1 : Nat) : Int); rw [Int.natCast_add]; rfl), trivial⟩ ⟨rfl, trivial⟩
  have q : eqI u v = true := by simpa using q
  refine run 400 rfl ?_
  refine at_val (.sl 0 (0 + (i : Int).toNat * 1) (l.length - (i : Int).toNat) (c - (i : Int).toNat)) (does_sliceS_l ty_ok rfl rfl rfl (by omega) hc rfl) ?_
  refine run 400 rfl ?_
  have hst := Cin.start a1 hlt hu hv q a3
  clear hu hv q
  refine at_loop (fun p : Nat × Nat × List Int => 1 ≤ p.1 ∧ Cin eqI l (i + p.1) p.2.1 p.2.2) (fun p => [(0, .sl 0 0 l.length c), (3, I p.2.1), (4, .sl 0 (0 + (i : Int).toNat * 1) (l.length - (i : Int).toNat) (c - (i : Int).toNat)), (5, I p.1)]) (fun p => slI p.2.2 r) (fun p => l.length - p.1) [1, 2, 3, 4, 5, 6, 7]
    (1, i, l) ⟨Nat.le_refl _, hst⟩ ⟨SVle.refl _, SVle.refl _, SVle.refl _, SVle.refl _, trivial⟩ ⟨rfl, trivial⟩ ?_
  rintro ⟨j, k, B⟩ ⟨b1, b2⟩
  dsimp only at b1 b2
  have c1 := b2.k1
  have c2 := b2.km
  have c3 := b2.ml
  have c4 := b2.len
  refine run 400 rfl ?_
  refine at_ifd rfl (fun g2 => ?_) (fun g2 => ?_)
  rotate_left
  · have e : i + j = l.length := by simp at g2; omega
    rw [e] at b2
    obtain ⟨d1, d2⟩ := b2.done
    refine run 400 rfl ?_
    refine at_val (.sl 0 (0 + (k : Int).toNat * 1) (l.length - (k : Int).toNat) (c - (k : Int).toNat)) (does_sliceS_l ty_ok rfl rfl rfl (by omega) hc rfl) ?_
    refine at_clearS (ints (B.take k)) (ints (B.drop k)) ty_ok rfl rfl rfl rfl rfl rfl (by rw [← ints_app, List.take_append_drop]) ints_sz (by rw [ints_len, List.length_take]; omega) (by rw [ints_len, List.length_drop]; omega) (by omega) rfl ?_
    refine run 400 rfl ?_
    refine at_val (.sl 0 0 (k : Int).toNat c) (does_sliceS_h (sz := 1) ty_ok rfl rfl rfl (by omega) rfl) ?_
    refine run 400 rfl ?_
    exact at_ret rfl rfl (slI (cmpF eqI l) ((l.length - (cmpF eqI l).length) * 1 + r)) ⟨by show SV.sl _ _ _ _ = _; rw [← d2]; rfl, rfl⟩ ⟨by rw [← d2, ← d1]; rfl, trivial⟩
  have hlt2 : i + j < l.length := by simp at g2; omega
  obtain ⟨u, hu⟩ : ∃ u, l[i + j]? = some u := ⟨_, List.getElem?_eq_getElem hlt2⟩
  obtain ⟨v, hv⟩ : ∃ v, l[i + j - 1]? = some v := ⟨_, List.getElem?_eq_getElem (by omega)⟩
  have hBu : B[i + j]? = some u := by rw [b2.at (by omega)]; exact hu
  have hBv : B[i + j - 1]? = some v := by rw [b2.at (by omega)]; exact hv
  refine run 400 rfl ?_
  refine at_drawn 10 rfl rfl [(2, .val (.ptr 0 (0 + (i : Int).toNat * 1 + (j : Int).toNat * 1))), (3, .val (I u)), (7, .val (.ptr 0 (0 + (i : Int).toNat * 1 + ((j : Int) - 1).toNat * 1))), (8, .val (I v))] [1, 2, 3] rfl
    ⟨does_loadB1 (j := 0) (sz := 1) (i := i + j - 1) ty_ok rfl rfl rfl (fun e => by cases e) (fun e => by cases e) (by omega) ints_sz (ints_at' hBv) rfl, does_indexS ty_ok rfl rfl rfl (by omega) rfl, by constructor <;> omega, does_loadB1 (j := 0) (sz := 1) (i := i + j) ty_ok rfl rfl rfl (fun e => by cases e) (fun e => by cases e) (by omega) ints_sz (ints_at' hBu) rfl, does_indexS ty_ok rfl rfl rfl (by omega) rfl⟩ ?_
  refine run 400 rfl ?_
  refine at_if rfl (fun q => ?_) (fun q => ?_)
  rotate_left
  · have q : eqI u v = true := by simpa using q
    refine run 400 rfl ?_
    exact at_again (j + 1, k, B) ⟨by dsimp only; omega, b2.skip hlt2 hu hv q⟩ (by dsimp only; omega) ⟨SVle.refl _, SVle.refl _, SVle.refl _, SVle.of_eq (by show I ((j : Int) + 1) = I ((j + 1 : Nat) : Int); rw [Int.natCast_add]; rfl), trivial⟩ ⟨rfl, trivial⟩
  have q : eqI u v = false := by simpa using q
  refine run 400 rfl ?_
  refine at_val (.ptr 0 (0 + (i : Int).toNat * 1 + (j : Int).toNat * 1)) (does_indexS ty_ok rfl rfl rfl (by omega) rfl) ?_
  refine at_val (I u) (does_loadB1 (j := 0) (sz := 1) (i := i + j) ty_ok rfl rfl rfl (fun e => by cases e) (fun e => by cases e) (by omega) ints_sz (ints_at' hBu) rfl) ?_
  refine at_val (.ptr 0 (0 + (k : Int).toNat * 1)) (does_indexS ty_ok rfl rfl rfl (by omega) rfl) ?_
  refine at_storeB (sz := 1) (i := k) ty_ok [.int .i64 u] rfl rfl rfl rfl rfl (fun e => by cases e) rfl (by omega) ints_sz (by show k < (ints B).length; rw [ints_len]; omega) rfl rfl ?_
  refine run 400 rfl ?_
  exact at_again (j + 1, k + 1, B.set k u) ⟨by dsimp only; omega, b2.keep hlt2 hu hv q⟩ (by dsimp only; omega) ⟨SVle.refl _, SVle.of_eq (by show I ((k : Int) + 1) = I ((k + 1 : Nat) : Int); rw [Int.natCast_add]; rfl), SVle.refl _, SVle.of_eq (by show I ((j : Int) + 1) = I ((j + 1 : Nat) : Int); rw [Int.natCast_add]; rfl), trivial⟩ ⟨by show some (SO.buf ((ints B).set k [.int .i64 u]) r) = some (.buf (ints (B.set k u)) r); rw [ints_set], trivial⟩

theorem clipI_fn (l : List Int) (n c r : Nat) (hn : n ≤ c) : Contract Try.prog 73 1 (slI l r) [.sl 0 0 n c] fun s post => s = .sl 0 0 n n ∧ post = slI l r := by
  refine contract_of ty_ok [1, 2, 3, 4, 5, 6, 7] Try.func73 rfl (by decide) Try.ntmps73 rfl fun z => ?_
  refine run 400 rfl ?_
  refine at_val (.sl 0 0 (n : Int).toNat (n : Int).toNat) (does_sliceS_hm (sz := 1) ty_ok rfl rfl rfl rfl (by omega) rfl) ?_
  refine run 400 rfl ?_
  exact at_ret rfl rfl (slI l r) ⟨rfl, rfl⟩ ⟨rfl, trivial⟩

abbrev nbO (l : List Int) (c r : Nat) : List (Nat × SO) := [(0, .cells 22 [.sl 1 0 l.length c]), (1, .buf (ints l) r)]
abbrev nbP (l : List Int) (c r : Nat) : List (Nat × SO) := [(0, .cells 22 [.sl 2 0 l.length c]), (2, .buf (ints l) r)]
theorem non1B_fn (t : Tm) (l : List Int) (c r : Nat) (hl : l.length ≤ 1000000) (hc : l.length ≤ c) (hr : l.length + r = c) : Contract Try.prog 71 2 (nbO l c r) [t.sv, .ptr 0 0] fun s post => ∃ c' r', (l ++ if t.k = 2 then [t.n] else []).length ≤ c' ∧ (l ++ if t.k = 2 then [t.n] else []).length + r' = c' ∧ s = .tt ∧ post = nbP (l ++ if t.k = 2 then [t.n] else []) c' r' := by
  have hln := ints_len l
  refine contract_of ty_ok [3, 4, 5, 6, 7] Try.func71 rfl (by decide) Try.ntmps71 rfl fun z => ?_
  refine run 400 rfl ?_
  refine at_if rfl (fun g => ?_) (fun g => ?_)
  · have g : t.k = 2 := by simpa using g
    rw [if_pos g]
    refine run 400 rfl ?_
    refine at_gro (.tl 1 (ints [t.n])) (doesG_build ty_ok _ rfl ⟨⟨rfl, rfl, _, rfl, SVles.refl _⟩, trivial⟩ rfl rfl (by decide)) ?_
    refine run 400 rfl ?_
    refine at_appendS 1 2 1 ty_ok rfl rfl rfl rfl rfl rfl rfl hln.symm ints_sz (by omega) hc (by simp) rfl (by simp; omega) (by show _ * 8 ≤ _; simp; omega) rfl ?_
    intro c' r' h1 h2
    refine run 400 rfl ?_
    exact at_ret rfl rfl (nbP (l ++ [t.n]) c' r') ⟨c', r', by simpa using h1, by simpa using h2, rfl, rfl⟩ ⟨by show some (SO.cells 22 [.sl 2 0 (l.length + 1) c']) = some (SO.cells 22 [.sl 2 0 (l ++ [t.n]).length c']); simp, by show some (SO.buf (ints l ++ ints [t.n]) r') = some (SO.buf (ints (l ++ [t.n])) r'); simp, trivial⟩
  · have g : ¬ t.k = 2 := by simpa using g
    rw [if_neg g, List.append_nil]
    refine at_ren 1 2 ?_
    refine run 400 rfl ?_
    exact at_ret rfl rfl (nbP l c r) ⟨c, r, hc, hr, rfl, rfl⟩ ⟨rfl, rfl, trivial⟩

theorem eachB_fn : ∀ (t : Tm) (l : List Int) (c r : Nat), Sm t → l.length + szT t ≤ 1000000 → l.length ≤ c → l.length + r = c → Contract Try.prog 70 2 (nbO l c r) [t.sv, .clo 71 [.ptr 0 0]] fun s post => ∃ c' r', (l ++ nonT t).length ≤ c' ∧ (l ++ nonT t).length + r' = c' ∧ s = .tt ∧ post = nbP (l ++ nonT t) c' r' := by
  intro t
  induction t using Tm.ind with
  | h k n s l ih =>
    intro L cp rr hsm hc hcc hrr
    have hL := hsm.ks
    have hlen0 : ((rowsT l).length : Int) = l.length := by rw [rowsT_len]
    refine contract_of ty_ok [3, 4, 5, 6, 7] Try.func70 rfl (by decide) Try.ntmps70 rfl fun z => ?_
    refine run 400 rfl ?_
    rw [szT] at hc
    rw [nonT]
    refine at_callG [0, 1, 2] (non1B_fn (.mk k n s l) L cp rr (by omega) hcc hrr) rfl ⟨rfl, rfl, trivial⟩ rfl ?_
    rintro sv post ⟨c1, r1, e1, e2, rfl, rfl⟩
    refine ⟨rfl, rfl, ?_⟩
    refine run 400 rfl ?_
    refine at_loop (fun p : Nat × List Int × Nat × Nat => p.1 ≤ l.length ∧ p.2.1 ++ nonL (l.drop p.1) = L ++ ((if k = 2 then [n] else []) ++ nonL l) ∧ p.2.1.length + szL (l.drop p.1) ≤ 1000000 ∧ p.2.1.length ≤ p.2.2.1 ∧ p.2.1.length + p.2.2.2 = p.2.2.1) (fun p => [(1, .clo 71 [.ptr 0 0]), (2, .ptr 3 0), (12, .lst 4 (rowsT l)), (13, I (rowsT l).length), (14, I p.1)]) (fun p => (3, .cells 33 [I k, I n, .str s, .lst 4 (rowsT l)]) :: nbP p.2.1 p.2.2.1 p.2.2.2) (fun p => l.length - p.1) [4, 5, 6, 7]
      (0, L ++ (if k = 2 then [n] else []), c1, r1) ⟨by dsimp only; omega, by dsimp only; rw [List.drop_zero, List.append_assoc], by dsimp only; rw [List.drop_zero, List.length_append]; split <;> simp <;> omega, e1, e2⟩ ⟨SVle.refl _, SVle.refl _, SVle.refl _, SVle.refl _, SVle.refl _, trivial⟩ ⟨rfl, rfl, rfl, trivial⟩ ?_
    rintro ⟨i, q, c2, r2⟩ ⟨a1, a2, a3, a4, a5⟩
    dsimp only at a1 a2 a3 a4 a5
    refine run 400 rfl ?_
    refine at_ifd rfl (fun g => ?_) (fun g => ?_)
    rotate_left
    · dsimp only at g
      rw [hlen0] at g
      have e : i = l.length := by omega
      subst e
      rw [List.drop_length] at a2
      rw [nonL, List.append_nil] at a2
      refine run 400 rfl ?_
      exact at_ret rfl rfl (nbP q c2 r2) ⟨c2, r2, by rw [← a2]; exact a4, by rw [← a2]; exact a5, rfl, by rw [a2]⟩ ⟨rfl, rfl, trivial⟩
    dsimp only at g
    rw [hlen0] at g
    have hlt : i < l.length := by omega
    have hget := rowsT_get hlt
    have hmem := getD_mem hlt
    rw [drop_getD hlt] at a2 a3
    generalize l.getD i .zero = u at hget hmem a2 a3
    refine run 400 rfl ?_
    refine at_val (.rp (tr u) 0) (does_index ty_ok _ rfl rfl rfl (by omega) (show (rowsT l)[(i : Int).toNat]? = some (tr u) from hget) rfl) ?_
    refine run 400 rfl ?_
    rw [nonL] at a2
    rw [szL] at a3
    have hnl := nonT_len u
    refine at_callG [0, 2, 8] (ih u hmem q c2 r2 (hL.2 u hmem) (by omega) a4 a5) rfl ⟨rfl, rfl, trivial⟩ rfl ?_
    rintro sv post ⟨c3, r3, e3, e4, rfl, rfl⟩
    refine ⟨rfl, rfl, ?_⟩
    refine at_swap 8 2 ?_
    refine run 400 rfl ?_
    exact at_again (i + 1, q ++ nonT u, c3, r3) ⟨by dsimp only; omega, by dsimp only; rw [← a2, List.append_assoc], by dsimp only; rw [List.length_append]; omega, e3, e4⟩ (by dsimp only; omega) ⟨SVle.refl _, SVle.refl _, SVle.refl _, SVle.refl _, SVle.of_eq (by show I ((i : Int) + 1) = I ((i + 1 : Nat) : Int); rw [Int.natCast_add]; rfl), trivial⟩ ⟨rfl, rfl, rfl, trivial⟩
end Go.Proofs.Ytmnmhehddbemkaa
namespace Go.Eng
variable {env : List (Nat × SV)} {own : List (Nat × SO)}
/-- A byte of a string. -/
theorem does_byteAt {T : Nat → TI} {P : Program} (hT : ∀ t, T t = tiOf P t) {o : Oper} {t : Nat} {x i : Operand} {b : ByteArray} {k : IntKind} {n : Int} (y : Int) (ho : o.op = .index t x i) (hx : ev env x = .str b) (hi : ev env i = .int k n) (ht : (T t).kd = .str)
    (h0 : 0 ≤ n) (hy : ∃ h : n.toNat < b.size, ((b[n.toNat]'h).toNat : Int) = y) : DoesV P o env own (.int .u8 y) := by
  refine does_val fun cx g H q a w hd => ?_
  have e1 := hd.ev x
  rw [hx] at e1
  have e2 := hd.ev i
  rw [hi] at e2
  have e1 : a.eval x = .string b := e1
  have e2 : a.eval i = .int k n := e2
  have hu : P.underlying t = some .string := by
    rw [hT] at ht
    obtain ⟨i, d, hs, e⟩ := und_kd (P := P) ht (by simp)
    cases d <;> simp [kdOf] at e
    exact hs.und
  refine ⟨_, ?_, rfl⟩
  obtain ⟨hlt, hy⟩ := hy
  simp [execOp, ho, e1, e2, run_index_string _ _ _ _ _ hu, h0, hy, show n < b.size by omega]
end Go.Eng
namespace Go.Proofs.Ytmnmhehddbemkaa
open Go Go.Eng
set_option maxRecDepth 100000
theorem len64_0 : Gives Try.prog 115 [.int .u64 0] (I 0) := by
  refine contract_of ty_ok [1, 2, 3, 4, 5, 6, 7] Try.func115 rfl (by decide) Try.ntmps115 rfl fun z => ?_
  refine run 400 rfl ?_
  refine at_ifd rfl (fun g => absurd g (by decide)) (fun _ => ?_)
  refine run 400 rfl ?_
  refine at_ifd rfl (fun g => absurd g (by decide)) (fun _ => ?_)
  refine run 400 rfl ?_
  refine at_ifd rfl (fun g => absurd g (by decide)) (fun _ => ?_)
  refine run 400 rfl ?_
  refine at_val (.int .u8 0) (does_byteAt ty_ok (y := 0) rfl rfl rfl rfl (by decide) ⟨by decide, rfl⟩) ?_
  refine run 400 rfl ?_
  exact at_ret rfl rfl [] ⟨rfl, rfl, rfl⟩ trivial
theorem len_0 : Gives Try.prog 96 [.int .u64 0] (I 0) := by
  refine contract_of ty_ok [1, 2, 3, 4, 5, 6, 7] Try.func96 rfl (by decide) Try.ntmps96 rfl fun z => ?_
  refine run 400 rfl ?_
  refine at_fn len64_0 rfl ?_
  refine run 400 rfl ?_
  exact at_ret rfl rfl [] ⟨rfl, rfl, rfl⟩ trivial

theorem ins_0 : Gives Try.prog 105 [.lst 1 [], I 0, I 0] (.tup []) := by
  refine contract_of ty_ok [1, 2, 3, 4, 5, 6, 7] Try.func105 rfl (by decide) Try.ntmps105 rfl fun z => ?_
  refine run 400 rfl ?_
  refine at_loop (fun _ : Unit => True) (fun _ => [(6, I 1), (2, I 0)]) (fun _ => []) (fun _ => 0) [1, 2, 3, 4, 5, 6, 7] () trivial ⟨SVle.refl _, SVle.refl _, trivial⟩ trivial ?_
  intro _ _
  refine run 400 rfl ?_
  refine at_ifd rfl (fun g => absurd g (by decide)) (fun _ => ?_)
  refine run 400 rfl ?_
  refine at_end ?_
  exact at_ret rfl rfl [] ⟨rfl, rfl, rfl⟩ trivial
theorem pdq_0 : Gives Try.prog 95 [.lst 1 [], I 0, I 0, I 0] (.tup []) := by
  refine contract_of ty_ok [1, 2, 3, 4, 5, 6, 7] Try.func95 rfl (by decide) Try.ntmps95 rfl fun z => ?_
  refine run 400 rfl ?_
  refine at_loop (fun _ : Unit => True) (fun _ => [(0, .lst 1 []), (1, I 0), (2, I 0)]) (fun _ => []) (fun _ => 0) [1, 2, 3, 4, 5, 6, 7] () trivial ⟨SVle.refl _, SVle.refl _, SVle.refl _, trivial⟩ trivial ?_
  intro _ _
  refine run 400 rfl ?_
  refine at_ifd rfl (fun _ => ?_) (fun g => absurd (by decide) g)
  refine run 400 rfl ?_
  refine at_fn ins_0 rfl ?_
  refine run 400 rfl ?_
  exact at_ret rfl rfl [] ⟨rfl, rfl, rfl⟩ trivial
theorem sort_0 : Gives Try.prog 72 [.lst 1 []] (.tup []) := by
  refine contract_of ty_ok [1, 2, 3, 4, 5, 6, 7] Try.func72 rfl (by decide) Try.ntmps72 rfl fun z => ?_
  refine run 400 rfl ?_ (by simp [All, inR])
  refine at_fn len_0 rfl ?_
  refine run 400 rfl ?_
  refine at_fn pdq_0 rfl ?_
  refine run 400 rfl ?_
  refine at_end ?_
  exact at_ret rfl rfl [] ⟨rfl, rfl, rfl⟩ trivial
end Go.Proofs.Ytmnmhehddbemkaa
namespace Go.Proofs.Ytmnmhehddbemkaa
open Go Go.Eng Go.Shelf Go.RowKit Go.Lib Go.Sort
set_option maxRecDepth 100000
def Try.sortI_ren : Go.Shelf.Ren := ⟨fun | 189 => 72 | 125 => 96 | 257 => 95 | 128 => 114 | 129 => 115 | 294 => 105 | 295 => 106 | 296 => 107 | 297 => 108 | 298 => 109 | 299 => 110 | 216 => 111 | 300 => 112 | 301 => 113 | 328 => 127 | 329 => 128 | 330 => 129 | 331 => 130 | 332 => 131 | 215 => 116 | 343 => 136 | n => n, fun | 28 => 22 | 3 => 3 | 46 => 118 | 0 => 0 | 51 => 141 | 53 => 143 | 4 => 4 | 183 => 135 | 182 => 134 | 131 => 110 | 5 => 5 | 9 => 9 | 218 => 150 | 222 => 154 | 228 => 158 | 229 => 159 | n => n, fun | n => n⟩
theorem Try.sortI : Go.Proofs.Lays.n189 Try.prog Try.sortI_ren := {
  mixed := by kernel_rfl,
  f125 := Try.func96.trans (congrArg some (by kernel_rfl)),
  f128 := Try.func114.trans (congrArg some (by kernel_rfl)),
  f129 := Try.func115.trans (congrArg some (by kernel_rfl)),
  f189 := Try.func72.trans (congrArg some (by kernel_rfl)),
  f215 := Try.func116.trans (congrArg some (by kernel_rfl)),
  f216 := Try.func111.trans (congrArg some (by kernel_rfl)),
  f257 := Try.func95.trans (congrArg some (by kernel_rfl)),
  f294 := Try.func105.trans (congrArg some (by kernel_rfl)),
  f295 := Try.func106.trans (congrArg some (by kernel_rfl)),
  f296 := Try.func107.trans (congrArg some (by kernel_rfl)),
  f297 := Try.func108.trans (congrArg some (by kernel_rfl)),
  f298 := Try.func109.trans (congrArg some (by kernel_rfl)),
  f299 := Try.func110.trans (congrArg some (by kernel_rfl)),
  f300 := Try.func112.trans (congrArg some (by kernel_rfl)),
  f301 := Try.func113.trans (congrArg some (by kernel_rfl)),
  f328 := Try.func127.trans (congrArg some (by kernel_rfl)),
  f329 := Try.func128.trans (congrArg some (by kernel_rfl)),
  f330 := Try.func129.trans (congrArg some (by kernel_rfl)),
  f331 := Try.func130.trans (congrArg some (by kernel_rfl)),
  f332 := Try.func131.trans (congrArg some (by kernel_rfl)),
  f343 := Try.func136.trans (congrArg some (by kernel_rfl)),
  t0 := Try.underlying0,
  a0 := Try.isAgg0,
  z0 := Try.sizeOf0,
  v0 := Try.zeroValue0,
  t3 := Try.underlying3,
  a3 := Try.isAgg3,
  z3 := Try.sizeOf3,
  v3 := Try.zeroValue3,
  t4 := Try.underlying4,
  a4 := Try.isAgg4,
  z4 := Try.sizeOf4,
  v4 := Try.zeroValue4,
  t5 := Try.underlying5,
  a5 := Try.isAgg5,
  z5 := Try.sizeOf5,
  v5 := Try.zeroValue5,
  t9 := Try.underlying9,
  a9 := Try.isAgg9,
  z9 := Try.sizeOf9,
  v9 := Try.zeroValue9,
  t28 := Try.underlying22,
  a28 := Try.isAgg22,
  z28 := Try.sizeOf22,
  v28 := Try.zeroValue22,
  t46 := Try.underlying118,
  a46 := Try.isAgg118,
  z46 := Try.sizeOf118,
  v46 := Try.zeroValue118,
  t51 := Try.underlying141,
  a51 := Try.isAgg141,
  z51 := Try.sizeOf141,
  v51 := Try.zeroValue141,
  t53 := Try.underlying143,
  a53 := Try.isAgg143,
  z53 := Try.sizeOf143,
  v53 := Try.zeroValue143,
  t131 := Try.underlying110,
  a131 := Try.isAgg110,
  z131 := Try.sizeOf110,
  v131 := Try.zeroValue110,
  t182 := Try.underlying134,
  a182 := Try.isAgg134,
  z182 := Try.sizeOf134,
  v182 := Try.zeroValue134,
  t183 := Try.underlying135,
  a183 := Try.isAgg135,
  z183 := Try.sizeOf135,
  v183 := Try.zeroValue135,
  t218 := Try.underlying150,
  a218 := Try.isAgg150,
  z218 := Try.sizeOf150,
  v218 := Try.zeroValue150,
  t222 := Try.underlying154,
  a222 := Try.isAgg154,
  z222 := Try.sizeOf154,
  v222 := Try.zeroValue154,
  t228 := Try.underlying158,
  a228 := Try.isAgg158,
  z228 := Try.sizeOf158,
  v228 := Try.zeroValue158,
  t229 := Try.underlying159,
  a229 := Try.isAgg159,
  z229 := Try.sizeOf159,
  v229 := Try.zeroValue159 }

def sortZ (l : List Int) : List Int := l.mergeSort fun x y => decide (x ≤ y)
theorem sortZ_len (l : List Int) : (sortZ l).length = l.length := List.length_mergeSort _

variable {E : Stc} {all rest : List Oper} {o : Oper} {s : List Fr} {env : List (Nat × SV)} {own own2 : List (Nat × SO)} {nx : List Nat}

theorem flat_ints : ∀ l : List Int, flatU (ints l) = l.map (SV.int .i64)
  | [] => rfl
  | x :: l => by
    have := flat_ints l
    unfold flatU at this ⊢
    simp only [List.map_cons, List.flatten_cons, List.map_append, this]
    rfl
theorem dens_ints {g : Nat → Value} {H : Hp} : ∀ {l : List Int} {vs : List Value}, Dens g H (l.map (SV.int .i64)) vs → vs = l.map (Value.int .i64)
  | [], [], _ => rfl
  | [], _ :: _, h => h.elim
  | _ :: _, [], h => h.elim
  | x :: l, v :: vs, h => by
    rw [List.map_cons, ← dens_ints h.2]
    have : v = .int .i64 x := h.1
    rw [this]
theorem dens_ints_mk {g : Nat → Value} {H : Hp} : ∀ (l : List Int), Dens g H (l.map (SV.int .i64)) (l.map (Value.int .i64))
  | [] => trivial
  | _ :: l => ⟨rfl, dens_ints_mk l⟩

/-- Numbers are sorted in place. -/
theorem at_sortI (k : Nat) {l : List Int} {c r : Nat} (hP : E.P = Try.prog) (hc : callK o.op env (fun f l => some (f, l)) none = some (72, [.sl k 0 l.length c])) (hk : ownq own k = some (.buf (ints l) r)) (hl : l.length ≤ 1000000)
    (hso : setOwnK k (.buf (ints (sortZ l)) r) own some = some own2)
    (kk : Sat E (.ops all rest) s (put o.dst (.tup []) env) own2 nx)
    (hg : guardK all o.guard env true false false = true := by rfl) (hd : dstLt o.dst E.n = true := by rfl) : Sat E (.ops all (o :: rest)) s env own nx := by
  rw [setOwnK_eq] at hso
  simp only [Option.some.injEq] at hso
  subst hso
  intro a w hat0
  have hwant := wanted_of (E := E) (own := own) hg a w hat0
  unfold wpList
  rw [if_pos hwant]
  refine .inl ?_
  obtain ⟨hdf, g, H, hdn⟩ := hat0
  have hE : Enter E.P 72 := by rw [hP]; exact enter_of Try.func72 rfl (by decide)
  obtain ⟨vs0, hv0, hr⟩ := run_call (P := E.P) hdn hE hc
  obtain ⟨x, rfl, hx⟩ : ∃ x, vs0 = [x] ∧ Den g H (.sl k 0 l.length c) x := by
    match vs0, hv0 with
    | [x], h => exact ⟨x, rfl, h.1⟩
    | [], h => exact h.elim
    | _ :: _ :: _, h => exact h.2.elim
  unfold Oper.wp
  rw [hr]
  show Calls E.P 72 #[x] w _
  rcases hx with ⟨b, hgk, rfl⟩ | ⟨_, hl0, hc0, hgk, ad, rfl⟩
  rotate_left
  · have hl0 : l = [] := List.length_eq_zero_iff.1 hl0
    subst hl0
    have hx : Dens g H [.lst 1 []] [.slice ad 0 0] := ⟨⟨ad, 0, rfl, Nat.le_refl _, fun _ => ⟨rfl, rfl⟩, fun p _ => ⟨.inl rfl, trivial⟩⟩, trivial⟩
    have hC0 : Gives E.P 72 [.lst 1 []] (.tup []) := by rw [hP]; exact sort_0
    refine (hC0.2 g H w [.slice ad 0 0] hdn.hp (fun k o hk => by simp [ownq] at hk) (fun i j hi => by simp [ownq] at hi) hx).mono fun e w' he => ?_
    cases e with
    | returned v =>
      obtain ⟨g', H', sv, own', ⟨rfl, _, rfl⟩, hv, _, _, _, hbase⟩ := he
      have hv : v = .tuple #[] := by
        obtain ⟨cs, e, hcs⟩ := hv
        cases cs with
        | nil => exact e
        | cons _ _ => exact hcs.elim
      subst hv
      obtain ⟨q, os, rfl⟩ := world_grow hbase.os hbase.tape hbase.output hbase.drawn hbase.size fun c hc => hbase.block c hc (by
        rintro ⟨k, hk, _⟩
        simp [ownq] at hk)
      have hd1 := hdn.grown (w' := grow (w.drewN q) os) rfl rfl rfl (by show _ ≤ (_ ++ os).size; rw [Array.size_append]; exact Nat.le_add_right _ _) (fun c hc => by
        show (w.heap ++ os)[c]? = _
        rw [Array.getElem?_append_left hc]) (Nat.le_add_right _ _)
      have hd1 := hd1.le (env' := env) (own' := setOwn k (.buf (ints (sortZ [])) r) own) (fun t => SVle.refl _) (fun j o' hj => by
        rw [ownq_setOwn] at hj
        split at hj
        · rename_i e
          subst e
          rw [hk] at hj
          simp only [Option.map_some, Option.some.injEq] at hj
          subst hj
          rw [show sortZ [] = [] by simp [sortZ]]
          exact hk
        · exact hj)
      exact kk _ _ (At.put hdf hd1 (⟨[], rfl, trivial⟩ : Den g H (.tup []) (.tuple #[])) fun d e => by rw [e] at hd; exact Nat.blt_eq.mp hd)
    | _ => exact he.elim
  rcases hdn.ok k _ hk with ⟨ty, b', vs, e0, hv, hone, hw, hH, hm⟩ | ⟨e0, _⟩
  rotate_left
  · rw [e0] at hgk; cases hgk
  have hbb : b' = b := by rw [e0] at hgk; simpa using hgk
  subst hbb
  have hv' : Dens g H (flatU (ints l) ++ anys r) vs := hv
  obtain ⟨v1, v2, rfl, hva, hvb⟩ := Dens.append_inv hv'
  rw [flat_ints] at hva
  have e1 := dens_ints hva
  subst e1
  have hcon := Any.slices_Sort_int Try.sortI b' 0 c l w (holds_at (Value.int .i64) w b' ty v2 l.toArray hw) (heap_lt hw) (by omega)
  have hcon2 : Calls E.P 72 #[.slice (some ⟨b', 0, none⟩) l.length c] w fun e w' => e = .returned (.tuple #[]) ∧ ∃ n os, w' = grow (putRow (Value.int .i64) (Sort.ahead w n) b' 0 (sortZ l).toArray) os := by rw [hP]; exact hcon
  refine hcon2.mono ?_
  rintro e w' ⟨rfl, n, os, rfl⟩
  have hd1 : Dn E.cx g H env own E.n a.tmps (Sort.ahead w n) := hdn.grown (w' := Sort.ahead w n) rfl rfl rfl (Nat.le_refl _) (fun _ _ => rfl) (Nat.le_add_right _ _)
  obtain ⟨ty', hd2⟩ := hd1.openB hk e0
  have hk' : ownq (setOwn k (.cells ty' (bufC (ints l) r)) own) k = some (.cells ty' (bufC (ints l) r)) := by rw [ownq_setOwn, if_pos rfl, hk]; rfl
  have hden : Dens g H (bufC (ints (sortZ l)) r) ((sortZ l).map (Value.int .i64) ++ v2) := by
    rw [bufC, flat_ints]
    exact Dens.append (dens_ints_mk _) hvb
  have hone2 : ∀ v ∈ (sortZ l).map (Value.int .i64) ++ v2, v.oneCell' = true := by
    intro v hv
    rcases List.mem_append.1 hv with hv | hv
    · obtain ⟨z, _, rfl⟩ := List.mem_map.1 hv
      rfl
    · exact hone v (by simp [hv])
  have hd3 := hd2.write (new := bufC (ints (sortZ l)) r) hk' e0 hden hone2
  have hd4 := hd3.closeB (k := k) (ty := ty') (rw' := ints (sortZ l)) (nn := r) (by rw [ownq_setOwn, if_pos rfl, hk']; rfl)
  rw [setOwn_setOwn, setOwn_setOwn] at hd4
  have hput : putRow (Value.int .i64) (Sort.ahead w n) b' 0 (sortZ l).toArray = (Sort.ahead w n).setRow b' ((sortZ l).map (Value.int .i64) ++ v2).toArray := by
    have := putRow_at (Value.int .i64) (Sort.ahead w n) b' ty (l.map (Value.int .i64)) v2 (sortZ l).toArray hw (by simp [sortZ_len])
    exact this
  have hd5 : Dn E.cx g H env (setOwn k (.buf (ints (sortZ l)) r) own) E.n a.tmps (grow (putRow (Value.int .i64) (Sort.ahead w n) b' 0 (sortZ l).toArray) os) := by
    rw [hput]
    exact hd4.grown (w' := grow ((Sort.ahead w n).setRow b' ((sortZ l).map (Value.int .i64) ++ v2).toArray) os) rfl rfl rfl (by show _ ≤ (_ ++ os).size; rw [Array.size_append]; omega) (fun c hc => by
      show (_ ++ os)[c]? = _
      rw [Array.getElem?_append_left hc]) (Nat.le_refl _)
  exact kk _ _ (At.put hdf hd5 (⟨[], rfl, trivial⟩ : Den g H (.tup []) (.tuple #[])) fun d e => by rw [e] at hd; exact Nat.blt_eq.mp hd)
end Go.Proofs.Ytmnmhehddbemkaa
namespace Go.Proofs.Ytmnmhehddbemkaa
open Go Go.Eng
set_option maxRecDepth 100000
theorem sortZ_perm (l : List Int) : (sortZ l).Perm l := List.mergeSort_perm _ _
theorem sortZ_ss (l : List Int) : (sortZ l).Pairwise fun a b => a ≤ b := by
  have := List.pairwise_mergeSort (le := fun x y : Int => decide (x ≤ y)) (fun a b c h1 h2 => by simp at *; omega) (fun a b => by simp; omega) l
  exact this.imp fun h => by simpa using h
theorem nonces_fn (t : Tm) (h : Sm t) (hs : szT t ≤ 1000000) : Gives Try.prog 41 [t.sv] (.tl 1 (ints (rnonT t))) := by
  have hn := nonT_len t
  refine contract_of ty_ok [0, 1, 4, 5, 6, 7, 8, 9] Try.func41 rfl (by decide) Try.ntmps41 rfl fun z => ?_
  refine run 400 rfl ?_
  refine at_nilSI 1 2 0 rfl rfl rfl ?_
  refine at_callG [1, 2, 3] (eachB_fn t [] 0 0 h (by simpa using hs) (by simp) (by simp)) rfl ⟨rfl, rfl, trivial⟩ rfl ?_
  rintro sv post ⟨c, r, h1, h2, rfl, rfl⟩
  rw [List.nil_append] at h1 h2
  refine ⟨rfl, rfl, ?_⟩
  show Sat _ _ _ _ [(1, .cells 22 [.sl 3 0 (nonT t).length c]), (3, .buf (ints (nonT t)) r), (0, .cells 33 [I t.k, I t.n, .str t.s, .lst 4 (rowsT t.kids)])] _
  have hp := sortZ_perm (nonT t)
  have hl := hp.length_eq
  have hlaw := cmp_rnon (t := t) (sortZ_ss (nonT t)) fun x => hp.mem_iff
  refine run 400 rfl ?_
  refine at_sortI 3 rfl rfl rfl (by omega) rfl ?_
  rw [← hl] at h1 ⊢
  generalize sortZ (nonT t) = l at *
  refine run 400 rfl ?_
  refine at_callF [3] (cmpactI_fn l c r (by omega) h1) rfl ⟨rfl, trivial⟩ rfl rfl rfl ?_
  refine run 400 rfl ?_
  have hlen := cmp_len eqI l
  refine at_callF [3] (clipI_fn _ _ _ _ (by omega)) rfl ⟨rfl, trivial⟩ rfl rfl rfl ?_
  refine run 400 rfl ?_
  refine at_pubT 2 3 1 (ints (cmpF eqI l)) [] rfl rfl (List.append_nil _).symm (ints_len _).symm (fun r hr => ints_sz r hr) rfl ?_
  exact at_ret rfl rfl [] ⟨by rw [← hlaw], rfl, rfl⟩ trivial
end Go.Proofs.Ytmnmhehddbemkaa
namespace Go.Proofs.Ytmnmhehddbemkaa
open Go Go.Eng
set_option maxRecDepth 100000
theorem sort_fn (l : List Tm) (hl : l.length ≤ 1000000) (h : ∀ t ∈ l, Sm t) : Gives Try.prog 50 [.lst 4 (rowsT l)] (.tl 4 (rowsT (rsortF l))) :=
  (sortT_fn l hl h).le (fun s hs => by
    obtain ⟨l', hp, hs, rfl⟩ := hs
    rw [cmp_rsort hs fun x => hp.mem_iff]
    exact SVle.refl _)
theorem gives_is {f : Nat} {args : List SV} {b c : Bool} (h : Gives Try.prog f args (.bl b)) (e : b = c) : Gives Try.prog f args (cond c .tt .ff) := by
  subst e
  exact h.le (by cases b <;> exact fun _ _ _ h => h) (by cases b <;> rfl)

abbrev aT : Tm := .mk 1 0 ⟨#[98]⟩ []
abbrev nT : Tm := .mk 2 0 .empty []
abbrev hT : Tm := .mk 3 0 .empty [nT]
abbrev zT : Tm := .mk 0 0 .empty []
theorem may_aT : mayF aT = true := by
  have e : seq aT.s .empty = false := by rw [seq_data]; rfl
  have e2 : rightF aT = true := by unfold rightF; rw [e]; rfl
  unfold mayF
  rw [mayT, e2]
  rfl
theorem may_zT : mayF zT = false := by
  have e2 : rightF zT = false := by unfold rightF; rfl
  unfold mayF
  rw [mayT, e2]
  rfl
theorem ord_an : ordT aT nT = -1 := by
  rw [ordT_lex]
  exact orI_ne (by decide)
theorem ord_na : ordT nT aT = 1 := by rw [ord_anti, ord_an]; rfl
theorem same_an : same aT nT = false := by
  cases h : same aT nT with
  | false => rfl
  | true => have := same_iff.1 h; cases this
theorem has_hn : hasT nT hT = true := by
  rw [hasT, hasL, hasT, same_iff.2 rfl]; simp
theorem rnon_hT : rnonT hT = [0] := by simp [rnonT, rnonL, insF]
theorem rsort_nan : rsortF [nT, aT, nT] = [aT, nT] := by
  have e1 : addF [] nT = [nT] := rfl
  have e2 : addF [nT] aT = [aT, nT] := by
    rw [addF, ord_na, if_neg (by decide)]
    rw [if_neg]
    rw [same_iff]
    intro h; cases h
  have e3 : addF [aT, nT] nT = [aT, nT] := by
    rw [addF, ord_an, if_pos (by decide), addF, ord_irr, if_neg (by decide), if_pos (same_iff.2 rfl)]
  show addF (addF (addF [] nT) aT) nT = _
  rw [e1, e2, e3]
theorem sm_leaf (k n : Int) (s : ByteArray) : Sm (.mk k n s []) := .mk (by simp) (by simp)
theorem sm_hT : Sm hT := .mk (by simp) (fun t ht => by rw [List.mem_singleton] at ht; subst ht; exact sm_leaf _ _ _)

theorem known37_fn : Gives Try.prog 37 [] .tt := by
  have k1 : Gives Try.prog 39 [aT.sv] .tt := gives_is (may_fn aT) may_aT
  have k2 : Gives Try.prog 39 [zT.sv] .ff := gives_is (may_fn zT) may_zT
  have k3 := size_fn hT sm_hT (by simp [szT, szL])
  have e3 : szT hT = 2 := by simp [szT, szL]
  rw [e3] at k3
  have k4 : Gives Try.prog 45 [hT.sv, hT.sv] .tt := gives_is (tsame_fn hT hT sm_hT) (same_iff.2 rfl)
  have k5 : Gives Try.prog 45 [aT.sv, nT.sv] .ff := gives_is (tsame_fn aT nT (sm_leaf _ _ _)) same_an
  have k6 : Gives Try.prog 47 [aT.sv, nT.sv] .tt := gives_is (c := true) (tless_fn aT nT (sm_leaf _ _ _)) (by rw [ord_an]; rfl)
  have k7 : Gives Try.prog 47 [nT.sv, aT.sv] .ff := gives_is (c := false) (tless_fn nT aT (sm_leaf _ _ _)) (by rw [ord_na]; rfl)
  have k8 : Gives Try.prog 49 [hT.sv, nT.sv] .tt := gives_is (has_fn hT nT sm_hT) has_hn
  have k9 := nonces_fn hT sm_hT (by simp [szT, szL])

  rw [rnon_hT] at k9
  have k10 := sort_fn [nT, aT, nT] (by simp) (by intro t ht; simp at ht; rcases ht with rfl | rfl | rfl <;> exact sm_leaf _ _ _)
  rw [rsort_nan] at k10
  have k11 : Gives Try.prog 50 [.tl 4 [tr nT, tr aT, tr nT]] (.tl 4 [tr aT, tr nT]) := by
    have := k10.weak (args' := [.tl 4 [tr nT, tr aT, tr nT]]) ⟨by rw [rowsT_cons, rowsT_cons, rowsT_cons, rowsT_nil]; exact SVle.tl _ _, trivial⟩
    rw [rowsT_cons, rowsT_cons, rowsT_nil] at this
    exact this
  refine contract_of ty_ok [0, 1, 2, 3, 4, 5, 6, 7] Try.func37 rfl (by decide) Try.ntmps37 rfl fun z => ?_
  refine run 400 rfl ?_
  have hnil : SVle (.tl 0 []) (up (.lst 4 (rowsT []))) := fun g H x h => by rw [rowsT_nil]; exact SVle.tl 4 [] g H x (SVle.nil 4 g H x h)
  refine at_gro (.tl 4 [tr nT]) (doesG_build ty_ok _ rfl ⟨⟨rfl, rfl, _, rfl, ⟨SVle.refl _, SVle.refl _, SVle.refl _, hnil, trivial⟩⟩, trivial⟩ rfl rfl (by decide)) ?_
  refine run 400 rfl ?_
  have hnT : SVle (.tl 4 [tr nT]) (.lst 4 (rowsT [nT])) := by rw [rowsT_cons, rowsT_nil]; exact SVle.tl _ _
  refine at_weakO [(2, own33 hT), (1, own33 nT), (0, own33 aT)] ⟨rfl, ⟨rfl, SVle.refl _, SVle.refl _, SVle.refl _, hnT, trivial⟩, rfl, ⟨rfl, SVle.refl _, SVle.refl _, SVle.refl _, hnil, trivial⟩, rfl, ⟨rfl, SVle.refl _, SVle.refl _, SVle.refl _, hnil, trivial⟩, trivial⟩ ?_
  refine at_less [(9, aT.sv), (1, .ptr 0 0), (2, .ptr 1 0), (3, .ptr 2 0)] [(2, own33 hT), (1, own33 nT), (0, own33 aT)] [3, 4, 5, 6, 7] ⟨SVle.agg ⟨SVle.refl _, SVle.refl _, SVle.refl _, hnil, trivial⟩, SVle.refl _, SVle.refl _, SVle.refl _, trivial⟩ ⟨rfl, rfl, rfl, trivial⟩ ?_
  refine at_fn k1 rfl ?_
  refine run 400 rfl ?_
  refine at_less [(11, .tt), (12, zT.sv), (1, .ptr 0 0), (2, .ptr 1 0), (3, .ptr 2 0)] [(2, own33 hT), (1, own33 nT), (0, own33 aT)] [3, 4, 5, 6, 7] ⟨SVle.refl _, SVle.agg ⟨SVle.refl _, SVle.refl _, SVle.refl _, hnil, trivial⟩, SVle.refl _, SVle.refl _, SVle.refl _, trivial⟩ ⟨rfl, rfl, rfl, trivial⟩ ?_
  refine at_fn k2 rfl ?_
  refine run 400 rfl ?_
  refine at_fn k3 rfl ?_
  refine run 400 rfl ?_
  refine at_true 21 rfl (by rfl) ?_
  refine run 400 rfl ?_
  refine at_fn k4 rfl ?_
  refine run 400 rfl ?_
  refine at_fn k5 rfl ?_
  refine run 400 rfl ?_
  refine at_fn k6 rfl ?_
  refine run 400 rfl ?_
  refine at_fn k7 rfl ?_
  refine run 400 rfl ?_
  refine at_fn k8 rfl ?_
  refine run 400 rfl ?_
  refine at_fn k9 rfl ?_
  refine run 400 rfl ?_
  refine at_true 54 rfl (by rfl) ?_
  refine run 400 rfl ?_
  refine at_gro (.tl 4 [tr nT, tr aT, tr nT]) (doesG_build ty_ok _ rfl ⟨⟨rfl, rfl, _, rfl, SVles.refl _⟩, ⟨rfl, rfl, _, rfl, SVles.refl _⟩, ⟨rfl, rfl, _, rfl, SVles.refl _⟩, trivial⟩ rfl rfl (by decide)) ?_
  refine run 400 rfl ?_
  refine at_fn k11 rfl ?_
  refine run 400 rfl ?_
  refine at_true 0 rfl (by rfl) ?_
  exact at_ret rfl rfl [] ⟨rfl, rfl, rfl⟩ trivial
end Go.Proofs.Ytmnmhehddbemkaa
namespace Go.Proofs.Ytmnmhehddbemkaa
open Go Go.Eng Go.MapKept
set_option maxRecDepth 100000

theorem noMap_S (d : TypeDesc) : ∀ r H o, noMap r H o → mapS d [] r H o := by
  rintro r H o ⟨c, rfl⟩
  exact ⟨#[], c, rfl, trivial, ⟨by simp, .nil, by simp, by simp, by simp⟩⟩

theorem parts_fn (t : Tm) (h : Gd t) : Gives Try.prog 91 [t.sv] (.lst 4 (rowsT (parts t))) := by
  refine GivesP.le (Post := fun s => SVle s (.lst 4 (rowsT (parts t)))) ?_ (fun s h => h)
  obtain ⟨k, n, s, l⟩ := t
  have hk := h.ks.1
  have hl := rowsT_len l
  have hnil : SVle (.tl 0 []) (.lst 4 (rowsT [])) := fun g H x h => by rw [rowsT_nil]; exact SVle.tl 4 [] g H x (SVle.nil 4 g H x h)
  refine contract_of ty_ok [0, 1, 2, 3, 4, 5, 6, 7] Try.func91 rfl (by decide) Try.ntmps91 rfl fun z => ?_
  refine run 400 rfl ?_
  refine at_if rfl (fun q => ?_) (fun q => ?_)
  · have q : ((rowsT l).length : Int) ≠ 2 := by simpa using q
    rw [hl] at q
    have e : parts (.mk k n s l) = [] := by
      rw [parts, if_neg (fun e => q (by rw [hk, e]; rfl)), if_neg (fun e => q (by rw [hk, e]; rfl))]
    refine run 400 rfl ?_
    exact at_ret rfl rfl [] ⟨by show SVle _ _; rw [e]; exact hnil, rfl, rfl⟩ trivial
  refine run 400 rfl ?_
  refine at_if rfl (fun q7 => ?_) (fun q7 => ?_)
  · have q7 : k = 7 := by simpa using q7
    have e : parts (.mk k n s l) = l := by rw [parts, if_pos q7]
    refine run 400 rfl ?_
    exact at_ret rfl rfl [] ⟨by show SVle _ _; rw [e]; exact SVle.refl _, rfl, rfl⟩ trivial
  have q7 : ¬ k = 7 := by simpa using q7
  refine run 400 rfl ?_
  refine at_if rfl (fun q6 => ?_) (fun q6 => ?_)
  · have q6 : k = 6 := by simpa using q6
    have e : parts (.mk k n s l) = l.drop 1 := by rw [parts, if_neg q7, if_pos q6]
    have hl2 : (rowsT l).length = 2 := by rw [hl]; have := hk; rw [q6] at this; have h2 : kidsF 6 = 2 := rfl; omega
    refine run 400 rfl ?_
    refine at_val (.lst 4 ((rowsT l).drop (1 : Int).toNat)) (does_slice_l ty_ok rfl rfl rfl (by omega) rfl) ?_
    refine run 400 rfl ?_
    exact at_ret rfl rfl [] ⟨by show SVle _ _; rw [e, rowsT_map, rowsT_map, List.map_drop]; exact SVle.refl _, rfl, rfl⟩ trivial
  have q6 : ¬ k = 6 := by simpa using q6
  have e : parts (.mk k n s l) = [] := by rw [parts, if_neg q7, if_neg q6]
  refine run 400 rfl ?_
  exact at_ret rfl rfl [] ⟨by show SVle _ _; rw [e]; exact hnil, rfl, rfl⟩ trivial

abbrev putO (O : List Tm) : List (Nat × SO) := [(0, .cells 85 [.mp 2]), (1, .cells 113 [.clo 90 [.ptr 0 0, .ptr 1 0]]), (2, .obj (mapS .string (entsT O)))]
theorem zT_den : ∀ g H, Den g H (.agg [I 0, I 0, .str .empty, .lst 4 []]) (.agg #[.int .i64 0, .int .i64 0, .string .empty, .slice none 0 0]) := fun g H => ⟨_, rfl, rfl, rfl, rfl, ⟨none, 0, rfl, Nat.le_refl _, fun _ => ⟨rfl, rfl⟩, fun p hp => by cases hp⟩, trivial⟩

theorem put90_fn : ∀ (n : Nat) (t : Tm), szT t ≤ n → mayF t = true → ∀ O : List Tm, (∀ u ∈ O, mayF u = true) → Contract Try.prog 90 3 (putO O) [t.sv, .ptr 0 0, .ptr 1 0] fun s post => s = .tup [] ∧ post = putO (putM t O)
  | 0, t, h, _, _, _ => by have := szT_pos t; omega
  | n + 1, t, h, ht, O, hO => by
    have hK := key66_fn t ht (may_enc ht)
    have hp := parts_fn t (mayF_gd ht)
    have hsz := sz_parts t
    have hpl : (parts t).length ≤ 64 := by
      have := szL_len (parts t)
      have h2 := ht
      rw [mayF_iff, Bool.and_eq_true, decide_eq_true_eq] at h2
      omega
    refine contract_of ty_ok [3, 4, 5, 6, 7] Try.func90 rfl (by decide) Try.ntmps90 rfl fun z => ?_
    rw [putM_eq]
    refine run 400 rfl ?_
    refine at_fn hK rfl ?_
    refine run 400 rfl ?_
    cases ha : amongF O t with
    | true =>
      rw [if_pos rfl]
      refine at_val (.tup [t.sv, .tt]) (does_lookY _ Try.underlying85 Try.underlying9 rfl rfl rfl rfl trivial (entsT_yes ha)) ?_
      refine run 400 rfl ?_
      exact at_ret rfl rfl (putO O) ⟨rfl, rfl⟩ ⟨rfl, rfl, rfl, trivial⟩
    | false =>
      rw [if_neg (by decide)]
      have hno := entsT_no hO ht ha
      refine at_val (.tup [.agg [I 0, I 0, .str .empty, .lst 4 []], .ff]) (does_lookN _ Try.underlying85 Try.underlying9 z33 rfl rfl rfl rfl trivial hno zT_den) ?_
      refine run 400 rfl ?_
      refine at_mput t.sv Try.underlying85 Try.underlying9 (.inl rfl) rfl rfl rfl rfl rfl rfl trivial hno rfl ?_
      rw [← entsT_app]
      refine run 400 rfl ?_
      refine at_fn hp rfl ?_
      generalize hL : parts t = L at hp hsz hpl
      have hll := rowsT_len L
      have hLm : ∀ u ∈ L, mayF u = true ∧ szT u ≤ n := fun u hu => by
        rw [← hL] at hu
        have := sz_part hu
        exact ⟨may_part ht hu, by omega⟩
      have hO1 : ∀ u ∈ O ++ [t], mayF u = true := fun u hu => by
        rcases List.mem_append.1 hu with h | h
        · exact hO u h
        · rw [List.mem_singleton] at h; subst h; exact ht
      generalize O ++ [t] = O1 at hO1
      refine run 400 rfl ?_
      refine at_loop (fun p : Nat × List Tm => p.1 ≤ L.length ∧ (∀ u ∈ p.2, mayF u = true) ∧ (L.drop p.1).foldl (fun O u => putM u O) p.2 = L.foldl (fun O u => putM u O) O1) (fun p => [(1, .ptr 0 0), (2, .ptr 1 0), (22, .lst 4 (rowsT L)), (23, I (rowsT L).length), (24, I p.1)]) (fun p => putO p.2) (fun p => L.length - p.1) [3, 4, 5, 6, 7]
        (0, O1) ⟨by dsimp only; omega, hO1, rfl⟩ ⟨SVle.refl _, SVle.refl _, SVle.refl _, SVle.refl _, SVle.refl _, trivial⟩ ⟨rfl, rfl, rfl, trivial⟩ ?_
      rintro ⟨i, Q⟩ ⟨a1, a2, a3⟩
      dsimp only at a1 a2 a3
      refine run 400 rfl ?_
      refine at_ifd rfl (fun g => ?_) (fun g => ?_)
      rotate_left
      · dsimp only at g
        rw [hll] at g
        have e : i = L.length := by omega
        subst e
        rw [List.drop_length] at a3
        refine run 400 rfl ?_
        refine at_end ?_
        exact at_ret rfl rfl (putO Q) ⟨rfl, by rw [← a3]; rfl⟩ ⟨rfl, rfl, rfl, trivial⟩
      dsimp only at g
      rw [hll] at g
      have hlt : i < L.length := by omega
      have hget := rowsT_get hlt
      have hmem := getD_mem hlt
      rw [drop_getD hlt] at a3
      generalize L.getD i .zero = u at hget hmem a3
      obtain ⟨hu1, hu2⟩ := hLm u hmem
      refine run 400 rfl ?_
      refine at_val (.rp (tr u) 0) (does_index ty_ok _ rfl rfl rfl (by omega) (show (rowsT L)[(i : Int).toNat]? = some (tr u) from hget) rfl) ?_
      refine run 400 rfl ?_
      refine at_callF [0, 1, 2] (put90_fn n u hu2 hu1 Q a2) rfl ⟨rfl, rfl, rfl, trivial⟩ rfl rfl rfl ?_
      refine run 400 rfl ?_
      exact at_again (i + 1, putM u Q) ⟨by dsimp only; omega, putM_may hu1 a2, a3⟩ (by dsimp only; omega) ⟨SVle.refl _, SVle.refl _, SVle.refl _, SVle.refl _, SVle.of_eq (by show I ((i : Int) + 1) = I ((i + 1 : Nat) : Int); rw [Int.natCast_add]; rfl), trivial⟩ ⟨rfl, rfl, rfl, trivial⟩

theorem open63_fn (l : List Tm) (hm : ∀ u ∈ l, mayF u = true) (hl : l.length ≤ 1000000) : Contract Try.prog 63 0 [] [.lst 4 (rowsT l)] fun s post => s = .mp 0 ∧ post = [(0, .obj (mapS .string (entsT (openM l))))] := by
  have hll := rowsT_len l
  refine contract_of ty_ok [1, 2, 3, 4, 5, 6] Try.func63 rfl (by decide) Try.ntmps63 rfl fun z => ?_
  refine run 400 rfl ?_
  refine at_mkmap 0 rfl ?_
  refine run 400 rfl ?_
  refine at_weakO [(2, .cells 113 [.clo 90 [.ptr 1 0, .ptr 2 0]]), (1, .cells 85 [.mp 0]), (0, .obj (mapS .string (entsT [])))] ⟨rfl, ⟨rfl, SVles.refl _⟩, rfl, ⟨rfl, SVles.refl _⟩, rfl, noMap_S _, trivial⟩ ?_
  refine at_loop (fun p : Nat × List Tm => p.1 ≤ l.length ∧ (∀ u ∈ p.2, mayF u = true) ∧ (l.drop p.1).foldl (fun O u => putM u O) p.2 = openM l) (fun p => [(3, .ptr 1 0), (4, .ptr 2 0), (9, .lst 4 (rowsT l)), (10, I (rowsT l).length), (11, I p.1)]) (fun p => [(0, .obj (mapS .string (entsT p.2))), (1, .cells 85 [.mp 0]), (2, .cells 113 [.clo 90 [.ptr 1 0, .ptr 2 0]])]) (fun p => l.length - p.1) [3, 4, 5, 6]
    (0, []) ⟨by dsimp only; omega, by simp, rfl⟩ ⟨SVle.refl _, SVle.refl _, SVle.refl _, SVle.refl _, SVle.refl _, trivial⟩ ⟨rfl, rfl, rfl, trivial⟩ ?_
  rintro ⟨i, Q⟩ ⟨a1, a2, a3⟩
  dsimp only at a1 a2 a3
  refine run 400 rfl ?_
  refine at_ifd rfl (fun g => ?_) (fun g => ?_)
  rotate_left
  · dsimp only at g
    rw [hll] at g
    have e : i = l.length := by omega
    subst e
    rw [List.drop_length] at a3
    refine run 400 rfl ?_
    exact at_ret rfl rfl [(0, .obj (mapS .string (entsT Q)))] ⟨rfl, by rw [← a3]; rfl⟩ ⟨rfl, trivial⟩
  dsimp only at g
  rw [hll] at g
  have hlt : i < l.length := by omega
  have hget := rowsT_get hlt
  have hmem := getD_mem hlt
  rw [drop_getD hlt] at a3
  generalize l.getD i .zero = u at hget hmem a3
  refine run 400 rfl ?_
  refine at_val (.rp (tr u) 0) (does_index ty_ok _ rfl rfl rfl (by omega) (show (rowsT l)[(i : Int).toNat]? = some (tr u) from hget) rfl) ?_
  refine run 400 rfl ?_
  refine at_callF [1, 2, 0] (put90_fn _ u (Nat.le_refl _) (hm u hmem) Q a2) rfl ⟨rfl, rfl, rfl, trivial⟩ rfl rfl rfl ?_
  refine run 400 rfl ?_
  exact at_again (i + 1, putM u Q) ⟨by dsimp only; omega, putM_may (hm u hmem) a2, a3⟩ (by dsimp only; omega) ⟨SVle.refl _, SVle.refl _, SVle.refl _, SVle.refl _, SVle.of_eq (by show I ((i : Int) + 1) = I ((i + 1 : Nat) : Int); rw [Int.natCast_add]; rfl), trivial⟩ ⟨rfl, rfl, rfl, trivial⟩
end Go.Proofs.Ytmnmhehddbemkaa
namespace Go.Proofs.Ytmnmhehddbemkaa
open Go Go.Eng Go.MapKept
set_option maxRecDepth 100000

theorem openM_len {l : List Tm} : (openM l).length ≤ szL l := by
  have := (openM_P l).len
  simpa using this
theorem entsT_get {O : List Tm} {i : Nat} {t : Tm} (h : O[i]? = some t) : (entsT O)[i]? = some (.string (keyT t), t.sv) := by
  rw [entsT, List.getElem?_map, h]; rfl
theorem idx_of_born {l : List MapEntry} (hn : (l.map (·.born)).Nodup) {i j : Nat} {e e' : MapEntry} (hi : l[i]? = some e) (hj : l[j]? = some e') (h : e.born = e'.born) : i = j := by
  have h1 : (l.map (·.born))[i]? = some e.born := by rw [List.getElem?_map, hi]; rfl
  have h2 : (l.map (·.born))[j]? = some e.born := by rw [List.getElem?_map, hj, h]; rfl
  obtain ⟨a1, a2⟩ := List.getElem?_eq_some_iff.1 h1
  obtain ⟨b1, b2⟩ := List.getElem?_eq_some_iff.1 h2
  exact (List.getElem_inj hn).1 (by rw [a2, b2])

theorem open29_fn (l : List Tm) (hm : ∀ u ∈ l, mayF u = true) (hl : szL l ≤ 100000) : Gives Try.prog 29 [.lst 4 (rowsT l)] (.tl 4 (rowsT (openF l))) := by
  have hg : ∀ t ∈ l, Gd t := fun t ht => mayF_gd (hm t ht)
  have hO := openM_may hm
  have hOl := openM_len (l := l)
  have hso : ∀ acc : List Tm, (∀ x, x ∈ acc ↔ x ∈ openM l) → rsortF acc = openF l := fun acc h => sort_open hg h
  have h63 := open63_fn l hm (by have := szL_len l; omega)
  generalize openM l = O at hO hOl hso h63
  refine contract_of ty_ok [0, 1, 2, 3, 4, 8, 9] Try.func29 rfl (by decide) Try.ntmps29 rfl fun z => ?_
  refine run 400 rfl ?_
  refine at_callF [5] h63 rfl trivial rfl rfl rfl ?_
  refine at_range 6 Try.underlying85 rfl rfl rfl ?_
  intro rm ri c L hsz hM
  have hsz : L.size = O.length := by rw [hsz, entsT, List.length_map]
  refine run 400 rfl ?_
  refine at_name 3 7 4 rfl (.inr rfl) ?_
  refine at_loop (fun p : List Tm × Array Nat => (∀ t ∈ p.1, t ∈ O) ∧ (∀ (i : Nat) (e : MapEntry) (t : Tm), L.toList[i]? = some e → O[i]? = some t → p.2.contains e.born = true → t ∈ p.1) ∧ p.1.length + (leftOf L p.2).size ≤ O.length)
    (fun p => [(3, .gl 7 4 (rowsT p.1)), (8, .val (.pointer (some ⟨ri, 0, none⟩)))]) (fun p => [(7, .tok 4), (6, .obj (itP ri rm c p.2)), (5, .obj (mapP rm L c (entsT O)))]) (fun p => (leftOf L p.2).size) [0, 1, 2, 3, 4, 8, 9]
    ([], #[]) ⟨by simp, by intro i e t _ _ h; simp at h, by dsimp only; rw [← hsz]; simp only [List.length_nil, Nat.zero_add]; unfold leftOf; exact Array.size_filter_le⟩ ⟨SVle.of_eq (by show SV.gl 7 4 [] = SV.gl 7 4 (rowsT []); rw [rowsT_nil]), SVle.refl _, trivial⟩ ⟨rfl, rfl, rfl, trivial⟩ ?_
  rintro ⟨acc, seen⟩ ⟨a1, a2, a3⟩
  dsimp only at a1 a2 a3
  refine run 400 rfl ?_
  refine at_next (ki := 6) (q := 5) (rm := rm) (seen := seen) (own1 := fun e => [(7, .tok 4), (6, .obj (itP ri rm c (seen.push e.born))), (5, .obj (mapP rm L c (entsT O)))]) hM rfl rfl rfl rfl (fun _ => rfl) (fun h0 => ?_) (fun e he => ?_)
  · have hall := all_seen L seen h0
    have hmem : ∀ x, x ∈ acc ↔ x ∈ O := fun x => ⟨a1 x, fun hx => by
      obtain ⟨i, hi⟩ := List.mem_iff_getElem?.1 hx
      have hlt : i < L.size := by rw [hsz]; exact (List.getElem?_eq_some_iff.1 hi).1
      have hLi : L.toList[i]? = some L[i] := by rw [Array.getElem?_toList]; exact Array.getElem?_eq_getElem hlt
      exact a2 i _ x hLi hi (hall _ (List.mem_of_getElem? hLi))⟩
    have hS := sort_fn acc (by omega) fun t ht => (mayF_gd (hO t (a1 t ht))).sm
    rw [hso acc hmem] at hS
    refine run 400 rfl ?_
    refine at_deg 7 ?_
    refine run 400 rfl ?_
    refine at_fn hS rfl ?_
    refine run 400 rfl ?_
    exact at_ret rfl rfl [] ⟨rfl, rfl, rfl⟩ trivial
  · obtain ⟨he1, he2⟩ := mem_left he
    obtain ⟨i, hi⟩ := List.mem_iff_getElem?.1 he1
    have hlt : i < O.length := by
      have := (List.getElem?_eq_some_iff.1 hi).1
      simpa [hsz] using this
    obtain ⟨t, ht⟩ : ∃ t, O[i]? = some t := ⟨_, List.getElem?_eq_getElem hlt⟩
    have hsh := left_shrinks L seen e he
    refine run 400 rfl ?_
    refine at_val (.tup [keyS (.string (keyT t)), t.sv]) (does_entry (ki := 6) (q := 5) (rm := rm) (seen := seen) hM rfl rfl rfl rfl (by rw [Array.getElem?_toList] at hi; exact hi) (entsT_get ht)) ?_
    refine run 400 rfl ?_
    refine at_gro (.tl 4 [tr t]) (doesG_build ty_ok _ rfl ⟨⟨rfl, rfl, _, rfl, SVles.refl _⟩, trivial⟩ rfl rfl (by decide)) ?_
    have hal := rowsT_len acc
    refine at_grow 7 7 4 (rowsT acc ++ [tr t]) rfl (doesU_append ty_ok rfl rfl rfl rfl rfl rfl rfl (by simp; omega) (by show _ * 56 ≤ _; simp; omega)) rfl ?_
    refine run 400 rfl ?_
    refine at_again (acc ++ [t], seen.push e.born) ⟨?_, ?_, ?_⟩ hsh ⟨SVle.of_eq (by show SV.gl 7 4 (rowsT acc ++ [tr t]) = SV.gl 7 4 (rowsT (acc ++ [t])); rw [rowsT_app, rowsT_cons, rowsT_nil]), SVle.refl _, trivial⟩ ⟨rfl, rfl, rfl, trivial⟩
    · intro u hu
      rcases List.mem_append.1 hu with h | h
      · exact a1 u h
      · rw [List.mem_singleton] at h; subst h; exact List.mem_of_getElem? ht
    · intro j e' u hj hu hc
      rw [contains_push] at hc
      rw [Bool.or_eq_true] at hc
      rcases hc with hc | hc
      · exact List.mem_append.2 (.inl (a2 j e' u hj hu hc))
      · have hb : e'.born = e.born := by simpa using hc
        have := idx_of_born hM.nodup hj hi hb
        subst this
        rw [ht] at hu
        cases hu
        simp
    · dsimp only
      rw [List.length_append, List.length_singleton]
      omega

abbrev canO (O : List Tm) : List (Nat × SO) := [(0, .cells 85 [.mp 2]), (1, .cells 55 [.clo 65 [.ptr 0 0, .ptr 1 0]]), (2, .obj (mapS .string (entsT O)))]
theorem can65_fn (O : List Tm) (hO : ∀ u ∈ O, mayF u = true) : ∀ (t : Tm), mayF t = true → ∀ b : Bool, madeT O t = b → Contract Try.prog 65 3 (canO O) [t.sv, .ptr 0 0, .ptr 1 0] fun s post => s = cond b .tt .ff ∧ post = canO O := by
  intro t
  induction t using Tm.ind with
  | h k n s l ih =>
    intro ht b hb
    have hK := key66_fn _ ht (may_enc ht)
    have hg := mayF_gd ht
    have hk0 := hg.ks.1
    have hll := rowsT_len l
    have hl1 : l.length ≤ 2 := by have := kidsF_le k; omega
    rw [madeT] at hb
    refine contract_of ty_ok [3, 4, 5, 6, 7] Try.func65 rfl (by decide) Try.ntmps65 rfl fun z => ?_
    refine run 400 rfl ?_
    cases ha : amongF O (.mk k n s l) with
    | true =>
      rw [ha, Bool.true_or, Bool.or_true] at hb
      subst hb
      refine at_drawn 9 rfl rfl [(2, .sv (.str (keyT (.mk k n s l)))), (3, .val (.tup [(Tm.mk k n s l).sv, .tt])), (7, .forget), (8, .forget)] [20, 21, 22] rfl
        ⟨does_lookY _ Try.underlying85 Try.underlying9 rfl rfl rfl rfl trivial (entsT_yes ha), hK⟩ ?_
      refine run 400 rfl ?_
      exact at_ret rfl rfl (canO O) ⟨rfl, rfl⟩ ⟨rfl, rfl, rfl, trivial⟩
    | false =>
      rw [ha, Bool.false_or] at hb
      refine at_drawn 9 rfl rfl [(2, .sv (.str (keyT (.mk k n s l)))), (3, .val (.tup [.agg [I 0, I 0, .str .empty, .lst 4 []], .ff])), (7, .forget), (8, .forget)] [20, 21, 22] rfl
        ⟨does_lookN _ Try.underlying85 Try.underlying9 z33 rfl rfl rfl rfl trivial (entsT_no hO ht ha) zT_den, hK⟩ ?_
      refine run 400 rfl ?_
      refine at_if rfl (fun q => ?_) (fun q => ?_)
      · have q : k = 1 := by simpa using q
        subst q
        have : true = b := by simpa using hb
        subst this
        refine run 400 rfl ?_
        exact at_ret rfl rfl (canO O) ⟨rfl, rfl⟩ ⟨rfl, rfl, rfl, trivial⟩
      have q : ¬ k = 1 := by simpa using q
      rw [show (k == 1) = false by simpa using q, Bool.false_or] at hb
      refine run 400 rfl ?_
      refine at_if rfl (fun q2 => ?_) (fun q2 => ?_)
      · have q2 : ((rowsT l).length : Int) = 0 := by simpa using q2
        rw [hll] at q2
        have hk2 : k = 2 := by
          have hz : kidsF k = 0 := by omega
          unfold kidsF at hz
          rw [if_neg q] at hz
          split at hz
          · assumption
          · repeat (first | omega | (split at hz))
        rw [hk2] at hb
        have : false = b := by simpa using hb
        subst this
        refine run 400 rfl ?_
        exact at_ret rfl rfl (canO O) ⟨rfl, rfl⟩ ⟨rfl, rfl, rfl, trivial⟩
      have q2 : ¬ ((rowsT l).length : Int) = 0 := by simpa using q2
      rw [hll] at q2
      have hk2 : ¬ k = 2 := fun e => q2 (by rw [hk0, e]; rfl)
      rw [show (k == 2) = false by simpa using hk2, Bool.not_false, Bool.true_and] at hb
      refine run 400 rfl ?_
      refine at_loop (fun i : Nat => i ≤ l.length ∧ madeL O (l.drop i) = b) (fun i => [(1, .ptr 0 0), (2, .ptr 1 0), (27, .lst 4 (rowsT l)), (28, I (rowsT l).length), (29, I i)]) (fun _ => canO O) (fun i => l.length - i) [3, 4, 5, 6, 7]
        0 ⟨by omega, hb⟩ ⟨SVle.refl _, SVle.refl _, SVle.refl _, SVle.refl _, SVle.refl _, trivial⟩ ⟨rfl, rfl, rfl, trivial⟩ ?_
      rintro i ⟨a1, a2⟩
      refine run 400 rfl ?_
      refine at_ifd rfl (fun g => ?_) (fun g => ?_)
      rotate_left
      · rw [hll] at g
        have e : i = l.length := by omega
        subst e
        rw [List.drop_length, madeL] at a2
        subst a2
        refine run 400 rfl ?_
        exact at_ret rfl rfl (canO O) ⟨rfl, rfl⟩ ⟨rfl, rfl, rfl, trivial⟩
      rw [hll] at g
      have hlt : i < l.length := by omega
      have hget := rowsT_get hlt
      have hmem := getD_mem hlt
      rw [drop_getD hlt, madeL] at a2
      generalize l.getD i .zero = u at hget hmem a2
      refine run 400 rfl ?_
      refine at_val (.rp (tr u) 0) (does_index ty_ok _ rfl rfl rfl (by omega) (show (rowsT l)[(i : Int).toNat]? = some (tr u) from hget) rfl) ?_
      refine run 400 rfl ?_
      have hu := ih u hmem (may_kid ht hmem) _ rfl
      cases hmu : madeT O u with
      | true =>
        rw [hmu] at a2 hu
        refine at_callF [0, 1, 2] hu rfl ⟨rfl, rfl, rfl, trivial⟩ rfl rfl rfl ?_
        refine run 400 rfl ?_
        exact at_again (i + 1) ⟨by omega, by simpa using a2⟩ (by omega) ⟨SVle.refl _, SVle.refl _, SVle.refl _, SVle.refl _, SVle.of_eq (by show I ((i : Int) + 1) = I ((i + 1 : Nat) : Int); rw [Int.natCast_add]; rfl), trivial⟩ ⟨rfl, rfl, rfl, trivial⟩
      | false =>
        rw [hmu] at a2 hu
        have : false = b := by simpa using a2
        subst this
        refine at_callF [0, 1, 2] hu rfl ⟨rfl, rfl, rfl, trivial⟩ rfl rfl rfl ?_
        refine run 400 rfl ?_
        exact at_ret rfl rfl (canO O) ⟨rfl, rfl⟩ ⟨rfl, rfl, rfl, trivial⟩

theorem can31_fn (l : List Tm) (t : Tm) (hm : ∀ u ∈ l, mayF u = true) (hl : l.length ≤ 1000000) (ht : mayF t = true) : Gives Try.prog 31 [.lst 4 (rowsT l), t.sv] (.bl (madeT (openM l) t)) := by
  have h63 := open63_fn l hm hl
  have h65 := can65_fn (openM l) (openM_may hm) t ht _ rfl
  have key : Gives Try.prog 31 [.lst 4 (rowsT l), t.sv] (cond (madeT (openM l) t) .tt .ff) := by
    generalize openM l = O at h63 h65
    generalize madeT O t = b at h65
    cases b <;>
    · refine contract_of ty_ok [0, 3, 4, 6, 7] Try.func31 rfl (by decide) Try.ntmps31 rfl fun z => ?_
      refine run 400 rfl ?_
      refine at_callF [5] h63 rfl trivial rfl rfl rfl ?_
      refine run 400 rfl ?_
      refine at_callF [3, 4, 5] h65 rfl ⟨rfl, rfl, rfl, trivial⟩ rfl rfl rfl ?_
      refine run 400 rfl ?_
      exact at_ret rfl rfl [] ⟨rfl, rfl, rfl⟩ trivial
  exact key.le (by cases madeT (openM l) t <;> exact fun _ _ _ h => h) (by cases madeT (openM l) t <;> rfl)
end Go.Proofs.Ytmnmhehddbemkaa
namespace Go.Proofs.Ytmnmhehddbemkaa
open Go Go.Eng

theorem gen_may (ns : List Int) (d : Nat) (hd : d ≤ 4) (j : Int) (hj : 0 ≤ j ∧ j ≤ ns.length) : mayF (genT ns d j).1 = true := by
  obtain ⟨h1, h2⟩ := genT_may ns d j hj
  have h3 := (genT_gd ns d j hj).2
  have : 2 ^ (d + 1) ≤ 2 ^ 5 := Nat.pow_le_pow_right (by omega) (by omega)
  rw [mayF_iff, h1, decide_eq_true (by omega)]
  rfl
theorem genL_may (ns : List Int) : ∀ (n : Nat) (j : Int), 0 ≤ j ∧ j ≤ ns.length → ∀ t ∈ genL ns n j, mayF t = true
  | 0, j, _, t, ht => by simp [genL] at ht
  | n + 1, j, h, t, ht => by
    rw [genL] at ht
    split at ht
    · rcases List.mem_cons.1 ht with e | ht
      · subst e; exact gen_may ns 3 (by omega) j h
      · exact genL_may ns n _ (genT_le ns 3 j h) t ht
    · cases ht

theorem among_congr {O O' : List Tm} (h : ∀ x, x ∈ O ↔ x ∈ O') (t : Tm) : amongF O t = amongF O' t := by
  cases e : amongF O' t with
  | true => exact among_iff.2 ((h t).2 (among_iff.1 e))
  | false =>
    cases e2 : amongF O t with
    | false => rfl
    | true => rw [among_iff.2 ((h t).1 (among_iff.1 e2))] at e; cases e
mutual
theorem made_congr {O O' : List Tm} (h : ∀ x, x ∈ O ↔ x ∈ O') : ∀ t : Tm, madeT O t = madeT O' t
  | .mk k n s l => by rw [madeT, madeT, among_congr h, madeL_congr h l]
theorem madeL_congr {O O' : List Tm} (h : ∀ x, x ∈ O ↔ x ∈ O') : ∀ l : List Tm, madeL O l = madeL O' l
  | [] => rfl
  | t :: l => by rw [madeL, madeL, made_congr h t, madeL_congr h l]
end
theorem made_in {O : List Tm} {t : Tm} (h : t ∈ O) : madeT O t = true := by
  obtain ⟨k, n, s, l⟩ := t
  rw [madeT, among_iff.2 h]
  simp
mutual
/-- What is made of what is made is made. -/
theorem made_tr {O O' : List Tm} (h : ∀ x ∈ O', madeT O x = true) : ∀ t : Tm, madeT O' t = true → madeT O t = true
  | .mk k n s l, hm => by
    have hm0 := hm
    rw [madeT] at hm
    simp only [Bool.or_eq_true, Bool.and_eq_true] at hm
    rcases hm with h1 | h1 | h1
    · rw [madeT, h1]; rfl
    · exact h _ (among_iff.1 h1)
    · rw [madeT, h1.1, madeL_tr h l h1.2]; simp
theorem madeL_tr {O O' : List Tm} (h : ∀ x ∈ O', madeT O x = true) : ∀ l : List Tm, madeL O' l = true → madeL O l = true
  | [], _ => rfl
  | t :: l, hm => by
    rw [madeL, Bool.and_eq_true] at hm
    rw [madeL, made_tr h t hm.1, madeL_tr h l hm.2]
    rfl
end
theorem madeL_mem {O : List Tm} : ∀ {l : List Tm}, madeL O l = true → ∀ t ∈ l, madeT O t = true
  | [], _, t, ht => by cases ht
  | u :: l, h, t, ht => by
    rw [madeL, Bool.and_eq_true] at h
    rcases List.mem_cons.1 ht with e | ht
    · subst e; exact h.1
    · exact madeL_mem h.2 t ht
theorem made_parts {O : List Tm} (hc : ∀ x ∈ O, ∀ p ∈ parts x, p ∈ O) {x : Tm} (hx : madeT O x = true) : ∀ p ∈ parts x, madeT O p = true := by
  intro p hp
  obtain ⟨k, n, s, l⟩ := x
  rw [madeT] at hx
  simp only [Bool.or_eq_true, Bool.and_eq_true] at hx
  rcases hx with h1 | h1 | h1
  · have : k = 1 := by simpa using h1
    subst this
    rw [parts] at hp
    simp at hp
  · exact made_in (hc _ (among_iff.1 h1) p hp)
  · exact madeL_mem h1.2 p (parts_sub hp)
theorem openM_cl (l : List Tm) : ∀ x ∈ openM l, ∀ p ∈ parts x, p ∈ openM l := fun x hx p hp => (openM_P l).cl x hx (by simp) p hp
theorem openM_sub {l m : List Tm} (h : ∀ x ∈ l, x ∈ m) : ∀ x ∈ openM l, x ∈ openM m := fun x hx =>
  ((openM_P l).least (· ∈ openM m) (fun t ht => (openM_P m).has t (h t ht)) (openM_cl m) x hx).elim (by simp) id
theorem made_mono {l m : List Tm} (h : ∀ x ∈ l, x ∈ m) {t : Tm} (ht : madeT (openM l) t = true) : madeT (openM m) t = true :=
  made_tr (fun x hx => made_in (openM_sub h x hx)) t ht
/-- What can be made adds nothing. -/
theorem made_adds {l : List Tm} {u : Tm} (hu : madeT (openM l) u = true) (t : Tm) : madeT (openM (l ++ [u])) t = madeT (openM l) t := by
  cases e : madeT (openM l) t with
  | true => exact made_mono (fun x hx => by simp [hx]) e
  | false =>
    cases e2 : madeT (openM (l ++ [u])) t with
    | false => rfl
    | true =>
      have hall : ∀ x ∈ openM (l ++ [u]), madeT (openM l) x = true := fun x hx =>
        ((openM_P (l ++ [u])).least (fun y => madeT (openM l) y = true) (fun y hy => by
          rcases List.mem_append.1 hy with h | h
          · exact made_in ((openM_P l).has y h)
          · rw [List.mem_singleton] at h; subst h; exact hu) (fun y hy p hp => made_parts (openM_cl l) hy p hp) x hx).elim (by simp) id
      rw [made_tr hall t e2] at e
      cases e
theorem openF_open {l : List Tm} (hm : ∀ u ∈ l, mayF u = true) : openF (openF l) = openF l := by
  have hg : ∀ t ∈ l, Gd t := fun t ht => mayF_gd (hm t ht)
  have hp := openF_P hg
  have hp2 := openF_P hp.gd
  exact ss_ext totT (openF_ss _) (openF_ss _) fun x => ⟨fun hx => hp2.least (· ∈ openF l) (fun y hy => hy) (fun y hy p hpp => hp.closed y hy p hpp) x hx, fun hx => hp2.has x hx⟩
theorem openF_may {l : List Tm} (hm : ∀ u ∈ l, mayF u = true) : ∀ u ∈ openF l, mayF u = true := fun u hu =>
  openM_may hm u ((openM_mem (fun t ht => mayF_gd (hm t ht)) u).2 hu)
theorem szL_may : ∀ {l : List Tm}, (∀ u ∈ l, mayF u = true) → szL l ≤ 64 * l.length
  | [], _ => by simp [szL]
  | t :: l, h => by
    have h1 := h t (by simp)
    rw [mayF_iff, Bool.and_eq_true, decide_eq_true_eq] at h1
    have h2 := szL_may (l := l) fun u hu => h u (by simp [hu])
    rw [szL, List.length_cons]
    omega
theorem may_T1 (k : Int) (u : Tm) (hk : k = 3 ∨ k = 4) (h : allR u = true) (hs : szT u ≤ 63) (hd : dpT u ≤ 15) : mayF (.mk k 0 .empty [u]) = true := by
  rw [mayF_iff, allR, right_k1 k u hk]
  simp [allRL, h, szT, szL, dpT, dpL]
  omega
theorem may_T2 (k : Int) (u v : Tm) (hk : k = 5 ∨ k = 6 ∨ k = 7) (h : allR u = true) (h' : allR v = true) (hs : szT u + szT v ≤ 63) (hd : dpT u ≤ 15) (hd' : dpT v ≤ 15) : mayF (.mk k 0 .empty [u, v]) = true := by
  rw [mayF_iff, allR, right_k2 k u v hk]
  simp [allRL, h, h', szT, szL, dpT, dpL]
  omega
end Go.Proofs.Ytmnmhehddbemkaa
namespace Go.Proofs.Ytmnmhehddbemkaa
open Go Go.Eng

abbrev rsO (L out : List Tm) (c r : Nat) : List (Nat × SO) := [(0, .cells 73 [.lst 4 (rowsT L), .sl 1 0 out.length c]), (1, .buf (rowsT out) r)]
abbrev zSV : SV := .agg [I 0, I 0, .str .empty, .tl 0 []]
theorem at_no_fn (L out : List Tm) (c r : Nat) (n : Int) (h : inF n out.length = false) : Contract Try.prog 86 2 (rsO L out c r) [.ptr 0 0, I n] fun s post => s = .tup [zSV, .ff] ∧ post = rsO L out c r := by
  refine contract_of ty_ok [3, 4, 5, 6, 7] Try.func86 rfl (by decide) Try.ntmps86 rfl fun z => ?_
  refine run 400 rfl ?_
  refine at_split 8 rfl (fun q => ?_) (fun q => ?_)
  · refine run 400 rfl ?_
    exact at_ret rfl rfl (rsO L out c r) ⟨rfl, rfl⟩ ⟨rfl, rfl, trivial⟩
  · refine run 400 rfl ?_
    refine at_ifd rfl (fun q2 => ?_) (fun q2 => ?_)
    · refine run 400 rfl ?_
      exact at_ret rfl rfl (rsO L out c r) ⟨rfl, rfl⟩ ⟨rfl, rfl, trivial⟩
    · exfalso
      simp [inF] at h q
      omega
theorem at_yes_fn (L out : List Tm) (c r : Nat) (n : Int) (h : inF n out.length = true) : Contract Try.prog 86 2 (rsO L out c r) [.ptr 0 0, I n] fun s post => s = .tup [(out.getD n.toNat .zero).sv, .tt] ∧ post = rsO L out c r := by
  have hn := inF_lt h
  have hget := rowsT_get (l := out) (n := n.toNat) (by omega)
  generalize out.getD n.toNat .zero = u at hget
  refine contract_of ty_ok [3, 4, 5, 6, 7] Try.func86 rfl (by decide) Try.ntmps86 rfl fun z => ?_
  refine run 400 rfl ?_
  refine at_false 8 rfl (by simp; omega) ?_
  refine run 400 rfl ?_
  refine at_ifd rfl (fun q2 => ?_) (fun q2 => ?_)
  · omega
  · refine run 400 rfl ?_
    refine at_val (.ptr 1 (0 + n.toNat * 4)) (does_indexS ty_ok rfl rfl rfl hn rfl) ?_
    refine at_val u.sv (does_loadB ty_ok rfl rfl rfl rfl rfl (Nat.zero_add _) rowsT_sz hget) ?_
    refine run 400 rfl ?_
    exact at_ret rfl rfl (rsO L out c r) ⟨rfl, rfl⟩ ⟨rfl, rfl, trivial⟩

/-- One move, by the document, ahead of the question whether the result may be. -/
def oneF (l res : List Tm) (m : Mv) : Option Tm × Int :=
  match readF m with
  | none => (none, 2)
  | some s => if nearF s res.length l.length then (match stepT l res s with
    | some t => (some t, 0)
    | none => (none, 3)) else (none, 8)
abbrev oneS (r : Option Tm × Int) : SV := match r with
  | (some t, e) => .tup [t.sv, I e]
  | (none, e) => .tup [zSV, I e]
end Go.Proofs.Ytmnmhehddbemkaa
namespace Go.Proofs.Ytmnmhehddbemkaa
open Go Go.Eng
set_option maxRecDepth 100000

theorem one_bad (l res : List Tm) (c r : Nat) (m : Mv) (h : m.k < 1 ∨ 10 < m.k) : Contract Try.prog 60 2 (rsO l res c r) [.ptr 0 0, m.sv] fun s post => s = .tup [zSV, I 2] ∧ post = rsO l res c r := by
  refine contract_of ty_ok [3, 4, 5, 6, 7] Try.func60 rfl (by decide) Try.ntmps60 rfl fun z => ?_
  refine run 400 rfl ?_
  refine at_split 15 rfl (fun q => ?_) (fun q => ?_)
  · refine run 400 rfl ?_
    exact at_ret rfl rfl (rsO l res c r) ⟨rfl, rfl⟩ ⟨rfl, rfl, trivial⟩
  · refine run 400 rfl ?_
    refine at_ifd rfl (fun q2 => ?_) (fun q2 => ?_)
    · refine run 400 rfl ?_
      exact at_ret rfl rfl (rsO l res c r) ⟨rfl, rfl⟩ ⟨rfl, rfl, trivial⟩
    · exfalso
      simp at q
      omega
theorem one_known (l res : List Tm) (c r : Nat) (m : Mv) (hk : m.k = 1) (h : inF m.a l.length = true) : Contract Try.prog 60 2 (rsO l res c r) [.ptr 0 0, m.sv] fun s post => s = .tup [(l.getD m.a.toNat .zero).sv, I 0] ∧ post = rsO l res c r := by
  have hl := rowsT_len l
  have hn := inF_lt h
  have hget := rowsT_get (l := l) (n := m.a.toNat) (by omega)
  generalize l.getD m.a.toNat .zero = u at hget
  refine contract_of ty_ok [3, 4, 5, 6, 7] Try.func60 rfl (by decide) Try.ntmps60 rfl fun z => ?_
  refine run 400 rfl ?_
  refine at_false 15 rfl (by rw [hk]; rfl) ?_
  refine run 400 rfl ?_
  refine at_ifd rfl (fun q2 => by omega) (fun _ => ?_)
  refine run 400 rfl ?_
  refine at_drawn 19 rfl rfl [(2, .yes), (6, .no)] [20, 21, 22] rfl ⟨by simp; omega, by rw [hk]; rfl⟩ ?_
  refine run 400 rfl ?_
  refine at_ifd rfl (fun q2 => by omega) (fun _ => ?_)
  refine run 400 rfl ?_
  refine at_if rfl (fun _ => ?_) (fun q2 => by rw [hk] at q2; cases q2)
  refine run 400 rfl ?_
  refine at_drawn 8 rfl rfl [(6, .val (.rp (tr u) 0))] [20, 21, 22] rfl (by exact does_index ty_ok _ rfl rfl rfl (by omega) (show (rowsT l)[m.a.toNat]? = some (tr u) from hget) rfl) ?_
  refine run 400 rfl ?_
  exact at_ret rfl rfl (rsO l res c r) ⟨rfl, rfl⟩ ⟨rfl, rfl, trivial⟩
theorem one_known_no (l res : List Tm) (c r : Nat) (m : Mv) (hk : m.k = 1) (h : inF m.a l.length = false) : Contract Try.prog 60 2 (rsO l res c r) [.ptr 0 0, m.sv] fun s post => s = .tup [zSV, I 8] ∧ post = rsO l res c r := by
  have hl := rowsT_len l
  have hn : m.a < 0 ∨ (l.length : Int) ≤ m.a := by
    simp [inF] at h
    omega
  by_cases h0 : m.a < 0
  · refine contract_of ty_ok [3, 4, 5, 6, 7] Try.func60 rfl (by decide) Try.ntmps60 rfl fun z => ?_
    refine run 400 rfl ?_
    refine at_false 15 rfl (by rw [hk]; rfl) ?_
    refine run 400 rfl ?_
    refine at_ifd rfl (fun q2 => by omega) (fun _ => ?_)
    refine run 400 rfl ?_
    refine at_drawn 19 rfl rfl [(2, .yes), (6, .yes)] [20, 21, 22] rfl ⟨by simp; omega, by rw [hk]; rfl⟩ ?_
    refine run 400 rfl ?_
    exact at_ret rfl rfl (rsO l res c r) ⟨rfl, rfl⟩ ⟨rfl, rfl, trivial⟩
  · refine contract_of ty_ok [3, 4, 5, 6, 7] Try.func60 rfl (by decide) Try.ntmps60 rfl fun z => ?_
    refine run 400 rfl ?_
    refine at_false 15 rfl (by rw [hk]; rfl) ?_
    refine run 400 rfl ?_
    refine at_ifd rfl (fun q2 => by omega) (fun _ => ?_)
    refine run 400 rfl ?_
    refine at_drawn 19 rfl rfl [(2, .yes), (6, .no)] [20, 21, 22] rfl ⟨by simp; omega, by rw [hk]; rfl⟩ ?_
    refine run 400 rfl ?_
    refine at_ifd rfl (fun q2 => ?_) (fun _ => by omega)
    refine run 400 rfl ?_
    exact at_ret rfl rfl (rsO l res c r) ⟨rfl, rfl⟩ ⟨rfl, rfl, trivial⟩
theorem one_atom (l res : List Tm) (c r : Nat) (m : Mv) (hk : m.k = 2) : Contract Try.prog 60 2 (rsO l res c r) [.ptr 0 0, m.sv] fun s post => s = .tup [(Tm.mk 1 0 m.s []).sv, I 0] ∧ post = rsO l res c r := by
  refine contract_of ty_ok [3, 4, 5, 6, 7] Try.func60 rfl (by decide) Try.ntmps60 rfl fun z => ?_
  refine run 400 rfl ?_
  refine at_false 15 rfl (by rw [hk]; rfl) ?_
  refine run 400 rfl ?_
  refine at_ifd rfl (fun q2 => by omega) (fun _ => ?_)
  refine run 400 rfl ?_
  refine at_drawn 19 rfl rfl [(2, .no)] [20, 21, 22] rfl (by rw [hk]; rfl) ?_
  refine run 400 rfl ?_
  refine at_if rfl (fun q2 => by rw [hk] at q2; cases q2) (fun _ => ?_)
  refine run 400 rfl ?_
  refine at_if rfl (fun _ => ?_) (fun q2 => by rw [hk] at q2; cases q2)
  refine run 400 rfl ?_
  refine at_fn (A_fn m.s) rfl ?_
  refine run 400 rfl ?_
  exact at_ret rfl rfl (rsO l res c r) ⟨rfl, rfl⟩ ⟨rfl, rfl, trivial⟩
theorem one_left_no (l res : List Tm) (c r : Nat) (m : Mv) (hk : m.k = 3) (h : inF m.a res.length = false) : Contract Try.prog 60 2 (rsO l res c r) [.ptr 0 0, m.sv] fun s post => s = .tup [zSV, I 8] ∧ post = rsO l res c r := by
  have ha := at_no_fn l res c r m.a h
  by_cases hb : inF m.b res.length = true
  · refine contract_of ty_ok [3, 4, 5, 6, 7] Try.func60 rfl (by decide) Try.ntmps60 rfl fun z => ?_
    refine run 400 rfl ?_
    refine at_false 15 rfl (by rw [hk]; rfl) ?_
    refine run 400 rfl ?_
    refine at_ifd rfl (fun q2 => by omega) (fun _ => ?_)
    refine run 400 rfl ?_
    refine at_drawn 19 rfl rfl [(2, .no)] [20, 21, 22] rfl (by rw [hk]; rfl) ?_
    refine run 400 rfl ?_
    refine at_if rfl (fun q2 => by rw [hk] at q2; cases q2) (fun _ => ?_)
    refine run 400 rfl ?_
    refine at_if rfl (fun q2 => by rw [hk] at q2; cases q2) (fun _ => ?_)
    refine run 400 rfl ?_
    refine at_callF [0, 1] (ha) rfl ⟨rfl, rfl, trivial⟩ rfl rfl rfl ?_
    refine run 400 rfl ?_
    refine at_callF [0, 1] (at_yes_fn l res c r m.b hb) rfl ⟨rfl, rfl, trivial⟩ rfl rfl rfl ?_
    refine run 400 rfl ?_
    refine at_false 77 rfl (by rw [hk]; rfl) ?_
    refine run 400 rfl ?_
    refine at_false 82 rfl (by rw [hk]; rfl) ?_
    refine run 400 rfl ?_
    refine at_false 10 rfl (by rw [hk]; rfl) ?_
    refine run 400 rfl ?_
    exact at_ret rfl rfl (rsO l res c r) ⟨rfl, rfl⟩ ⟨rfl, rfl, trivial⟩
  · refine contract_of ty_ok [3, 4, 5, 6, 7] Try.func60 rfl (by decide) Try.ntmps60 rfl fun z => ?_
    refine run 400 rfl ?_
    refine at_false 15 rfl (by rw [hk]; rfl) ?_
    refine run 400 rfl ?_
    refine at_ifd rfl (fun q2 => by omega) (fun _ => ?_)
    refine run 400 rfl ?_
    refine at_drawn 19 rfl rfl [(2, .no)] [20, 21, 22] rfl (by rw [hk]; rfl) ?_
    refine run 400 rfl ?_
    refine at_if rfl (fun q2 => by rw [hk] at q2; cases q2) (fun _ => ?_)
    refine run 400 rfl ?_
    refine at_if rfl (fun q2 => by rw [hk] at q2; cases q2) (fun _ => ?_)
    refine run 400 rfl ?_
    refine at_callF [0, 1] (ha) rfl ⟨rfl, rfl, trivial⟩ rfl rfl rfl ?_
    refine run 400 rfl ?_
    refine at_callF [0, 1] (at_no_fn l res c r m.b (by simpa using hb)) rfl ⟨rfl, rfl, trivial⟩ rfl rfl rfl ?_
    refine run 400 rfl ?_
    refine at_false 77 rfl (by rw [hk]; rfl) ?_
    refine run 400 rfl ?_
    refine at_false 82 rfl (by rw [hk]; rfl) ?_
    refine run 400 rfl ?_
    refine at_false 10 rfl (by rw [hk]; rfl) ?_
    refine run 400 rfl ?_
    exact at_ret rfl rfl (rsO l res c r) ⟨rfl, rfl⟩ ⟨rfl, rfl, trivial⟩
theorem one_right_no (l res : List Tm) (c r : Nat) (m : Mv) (hk : m.k = 4) (h : inF m.a res.length = false) : Contract Try.prog 60 2 (rsO l res c r) [.ptr 0 0, m.sv] fun s post => s = .tup [zSV, I 8] ∧ post = rsO l res c r := by
  have ha := at_no_fn l res c r m.a h
  by_cases hb : inF m.b res.length = true
  · refine contract_of ty_ok [3, 4, 5, 6, 7] Try.func60 rfl (by decide) Try.ntmps60 rfl fun z => ?_
    refine run 400 rfl ?_
    refine at_false 15 rfl (by rw [hk]; rfl) ?_
    refine run 400 rfl ?_
    refine at_ifd rfl (fun q2 => by omega) (fun _ => ?_)
    refine run 400 rfl ?_
    refine at_drawn 19 rfl rfl [(2, .no)] [20, 21, 22] rfl (by rw [hk]; rfl) ?_
    refine run 400 rfl ?_
    refine at_if rfl (fun q2 => by rw [hk] at q2; cases q2) (fun _ => ?_)
    refine run 400 rfl ?_
    refine at_if rfl (fun q2 => by rw [hk] at q2; cases q2) (fun _ => ?_)
    refine run 400 rfl ?_
    refine at_callF [0, 1] (ha) rfl ⟨rfl, rfl, trivial⟩ rfl rfl rfl ?_
    refine run 400 rfl ?_
    refine at_callF [0, 1] (at_yes_fn l res c r m.b hb) rfl ⟨rfl, rfl, trivial⟩ rfl rfl rfl ?_
    refine run 400 rfl ?_
    refine at_false 77 rfl (by rw [hk]; rfl) ?_
    refine run 400 rfl ?_
    refine at_false 82 rfl (by rw [hk]; rfl) ?_
    refine run 400 rfl ?_
    refine at_false 10 rfl (by rw [hk]; rfl) ?_
    refine run 400 rfl ?_
    exact at_ret rfl rfl (rsO l res c r) ⟨rfl, rfl⟩ ⟨rfl, rfl, trivial⟩
  · refine contract_of ty_ok [3, 4, 5, 6, 7] Try.func60 rfl (by decide) Try.ntmps60 rfl fun z => ?_
    refine run 400 rfl ?_
    refine at_false 15 rfl (by rw [hk]; rfl) ?_
    refine run 400 rfl ?_
    refine at_ifd rfl (fun q2 => by omega) (fun _ => ?_)
    refine run 400 rfl ?_
    refine at_drawn 19 rfl rfl [(2, .no)] [20, 21, 22] rfl (by rw [hk]; rfl) ?_
    refine run 400 rfl ?_
    refine at_if rfl (fun q2 => by rw [hk] at q2; cases q2) (fun _ => ?_)
    refine run 400 rfl ?_
    refine at_if rfl (fun q2 => by rw [hk] at q2; cases q2) (fun _ => ?_)
    refine run 400 rfl ?_
    refine at_callF [0, 1] (ha) rfl ⟨rfl, rfl, trivial⟩ rfl rfl rfl ?_
    refine run 400 rfl ?_
    refine at_callF [0, 1] (at_no_fn l res c r m.b (by simpa using hb)) rfl ⟨rfl, rfl, trivial⟩ rfl rfl rfl ?_
    refine run 400 rfl ?_
    refine at_false 77 rfl (by rw [hk]; rfl) ?_
    refine run 400 rfl ?_
    refine at_false 82 rfl (by rw [hk]; rfl) ?_
    refine run 400 rfl ?_
    refine at_false 10 rfl (by rw [hk]; rfl) ?_
    refine run 400 rfl ?_
    exact at_ret rfl rfl (rsO l res c r) ⟨rfl, rfl⟩ ⟨rfl, rfl, trivial⟩
theorem one_open_no (l res : List Tm) (c r : Nat) (m : Mv) (hk : m.k = 5) (h : inF m.a res.length = false) : Contract Try.prog 60 2 (rsO l res c r) [.ptr 0 0, m.sv] fun s post => s = .tup [zSV, I 8] ∧ post = rsO l res c r := by
  have ha := at_no_fn l res c r m.a h
  by_cases hb : inF m.b res.length = true
  · refine contract_of ty_ok [3, 4, 5, 6, 7] Try.func60 rfl (by decide) Try.ntmps60 rfl fun z => ?_
    refine run 400 rfl ?_
    refine at_false 15 rfl (by rw [hk]; rfl) ?_
    refine run 400 rfl ?_
    refine at_ifd rfl (fun q2 => by omega) (fun _ => ?_)
    refine run 400 rfl ?_
    refine at_drawn 19 rfl rfl [(2, .no)] [20, 21, 22] rfl (by rw [hk]; rfl) ?_
    refine run 400 rfl ?_
    refine at_if rfl (fun q2 => by rw [hk] at q2; cases q2) (fun _ => ?_)
    refine run 400 rfl ?_
    refine at_if rfl (fun q2 => by rw [hk] at q2; cases q2) (fun _ => ?_)
    refine run 400 rfl ?_
    refine at_callF [0, 1] (ha) rfl ⟨rfl, rfl, trivial⟩ rfl rfl rfl ?_
    refine run 400 rfl ?_
    refine at_callF [0, 1] (at_yes_fn l res c r m.b hb) rfl ⟨rfl, rfl, trivial⟩ rfl rfl rfl ?_
    refine run 400 rfl ?_
    refine at_false 77 rfl (by rw [hk]; rfl) ?_
    refine run 400 rfl ?_
    refine at_false 82 rfl (by rw [hk]; rfl) ?_
    refine run 400 rfl ?_
    refine at_false 10 rfl (by rw [hk]; rfl) ?_
    refine run 400 rfl ?_
    exact at_ret rfl rfl (rsO l res c r) ⟨rfl, rfl⟩ ⟨rfl, rfl, trivial⟩
  · refine contract_of ty_ok [3, 4, 5, 6, 7] Try.func60 rfl (by decide) Try.ntmps60 rfl fun z => ?_
    refine run 400 rfl ?_
    refine at_false 15 rfl (by rw [hk]; rfl) ?_
    refine run 400 rfl ?_
    refine at_ifd rfl (fun q2 => by omega) (fun _ => ?_)
    refine run 400 rfl ?_
    refine at_drawn 19 rfl rfl [(2, .no)] [20, 21, 22] rfl (by rw [hk]; rfl) ?_
    refine run 400 rfl ?_
    refine at_if rfl (fun q2 => by rw [hk] at q2; cases q2) (fun _ => ?_)
    refine run 400 rfl ?_
    refine at_if rfl (fun q2 => by rw [hk] at q2; cases q2) (fun _ => ?_)
    refine run 400 rfl ?_
    refine at_callF [0, 1] (ha) rfl ⟨rfl, rfl, trivial⟩ rfl rfl rfl ?_
    refine run 400 rfl ?_
    refine at_callF [0, 1] (at_no_fn l res c r m.b (by simpa using hb)) rfl ⟨rfl, rfl, trivial⟩ rfl rfl rfl ?_
    refine run 400 rfl ?_
    refine at_false 77 rfl (by rw [hk]; rfl) ?_
    refine run 400 rfl ?_
    refine at_false 82 rfl (by rw [hk]; rfl) ?_
    refine run 400 rfl ?_
    refine at_false 10 rfl (by rw [hk]; rfl) ?_
    refine run 400 rfl ?_
    exact at_ret rfl rfl (rsO l res c r) ⟨rfl, rfl⟩ ⟨rfl, rfl, trivial⟩
theorem one_hash_no (l res : List Tm) (c r : Nat) (m : Mv) (hk : m.k = 6) (h : inF m.a res.length = false) : Contract Try.prog 60 2 (rsO l res c r) [.ptr 0 0, m.sv] fun s post => s = .tup [zSV, I 8] ∧ post = rsO l res c r := by
  have ha := at_no_fn l res c r m.a h
  by_cases hb : inF m.b res.length = true
  · refine contract_of ty_ok [3, 4, 5, 6, 7] Try.func60 rfl (by decide) Try.ntmps60 rfl fun z => ?_
    refine run 400 rfl ?_
    refine at_false 15 rfl (by rw [hk]; rfl) ?_
    refine run 400 rfl ?_
    refine at_ifd rfl (fun q2 => by omega) (fun _ => ?_)
    refine run 400 rfl ?_
    refine at_drawn 19 rfl rfl [(2, .no)] [20, 21, 22] rfl (by rw [hk]; rfl) ?_
    refine run 400 rfl ?_
    refine at_if rfl (fun q2 => by rw [hk] at q2; cases q2) (fun _ => ?_)
    refine run 400 rfl ?_
    refine at_if rfl (fun q2 => by rw [hk] at q2; cases q2) (fun _ => ?_)
    refine run 400 rfl ?_
    refine at_callF [0, 1] (ha) rfl ⟨rfl, rfl, trivial⟩ rfl rfl rfl ?_
    refine run 400 rfl ?_
    refine at_callF [0, 1] (at_yes_fn l res c r m.b hb) rfl ⟨rfl, rfl, trivial⟩ rfl rfl rfl ?_
    refine run 400 rfl ?_
    refine at_false 77 rfl (by rw [hk]; rfl) ?_
    refine run 400 rfl ?_
    refine at_false 82 rfl (by rw [hk]; rfl) ?_
    refine run 400 rfl ?_
    refine at_false 10 rfl (by rw [hk]; rfl) ?_
    refine run 400 rfl ?_
    exact at_ret rfl rfl (rsO l res c r) ⟨rfl, rfl⟩ ⟨rfl, rfl, trivial⟩
  · refine contract_of ty_ok [3, 4, 5, 6, 7] Try.func60 rfl (by decide) Try.ntmps60 rfl fun z => ?_
    refine run 400 rfl ?_
    refine at_false 15 rfl (by rw [hk]; rfl) ?_
    refine run 400 rfl ?_
    refine at_ifd rfl (fun q2 => by omega) (fun _ => ?_)
    refine run 400 rfl ?_
    refine at_drawn 19 rfl rfl [(2, .no)] [20, 21, 22] rfl (by rw [hk]; rfl) ?_
    refine run 400 rfl ?_
    refine at_if rfl (fun q2 => by rw [hk] at q2; cases q2) (fun _ => ?_)
    refine run 400 rfl ?_
    refine at_if rfl (fun q2 => by rw [hk] at q2; cases q2) (fun _ => ?_)
    refine run 400 rfl ?_
    refine at_callF [0, 1] (ha) rfl ⟨rfl, rfl, trivial⟩ rfl rfl rfl ?_
    refine run 400 rfl ?_
    refine at_callF [0, 1] (at_no_fn l res c r m.b (by simpa using hb)) rfl ⟨rfl, rfl, trivial⟩ rfl rfl rfl ?_
    refine run 400 rfl ?_
    refine at_false 77 rfl (by rw [hk]; rfl) ?_
    refine run 400 rfl ?_
    refine at_false 82 rfl (by rw [hk]; rfl) ?_
    refine run 400 rfl ?_
    refine at_false 10 rfl (by rw [hk]; rfl) ?_
    refine run 400 rfl ?_
    exact at_ret rfl rfl (rsO l res c r) ⟨rfl, rfl⟩ ⟨rfl, rfl, trivial⟩
theorem one_pub_no (l res : List Tm) (c r : Nat) (m : Mv) (hk : m.k = 7) (h : inF m.a res.length = false) : Contract Try.prog 60 2 (rsO l res c r) [.ptr 0 0, m.sv] fun s post => s = .tup [zSV, I 8] ∧ post = rsO l res c r := by
  have ha := at_no_fn l res c r m.a h
  by_cases hb : inF m.b res.length = true
  · refine contract_of ty_ok [3, 4, 5, 6, 7] Try.func60 rfl (by decide) Try.ntmps60 rfl fun z => ?_
    refine run 400 rfl ?_
    refine at_false 15 rfl (by rw [hk]; rfl) ?_
    refine run 400 rfl ?_
    refine at_ifd rfl (fun q2 => by omega) (fun _ => ?_)
    refine run 400 rfl ?_
    refine at_drawn 19 rfl rfl [(2, .no)] [20, 21, 22] rfl (by rw [hk]; rfl) ?_
    refine run 400 rfl ?_
    refine at_if rfl (fun q2 => by rw [hk] at q2; cases q2) (fun _ => ?_)
    refine run 400 rfl ?_
    refine at_if rfl (fun q2 => by rw [hk] at q2; cases q2) (fun _ => ?_)
    refine run 400 rfl ?_
    refine at_callF [0, 1] (ha) rfl ⟨rfl, rfl, trivial⟩ rfl rfl rfl ?_
    refine run 400 rfl ?_
    refine at_callF [0, 1] (at_yes_fn l res c r m.b hb) rfl ⟨rfl, rfl, trivial⟩ rfl rfl rfl ?_
    refine run 400 rfl ?_
    refine at_false 77 rfl (by rw [hk]; rfl) ?_
    refine run 400 rfl ?_
    refine at_false 82 rfl (by rw [hk]; rfl) ?_
    refine run 400 rfl ?_
    refine at_false 10 rfl (by rw [hk]; rfl) ?_
    refine run 400 rfl ?_
    exact at_ret rfl rfl (rsO l res c r) ⟨rfl, rfl⟩ ⟨rfl, rfl, trivial⟩
  · refine contract_of ty_ok [3, 4, 5, 6, 7] Try.func60 rfl (by decide) Try.ntmps60 rfl fun z => ?_
    refine run 400 rfl ?_
    refine at_false 15 rfl (by rw [hk]; rfl) ?_
    refine run 400 rfl ?_
    refine at_ifd rfl (fun q2 => by omega) (fun _ => ?_)
    refine run 400 rfl ?_
    refine at_drawn 19 rfl rfl [(2, .no)] [20, 21, 22] rfl (by rw [hk]; rfl) ?_
    refine run 400 rfl ?_
    refine at_if rfl (fun q2 => by rw [hk] at q2; cases q2) (fun _ => ?_)
    refine run 400 rfl ?_
    refine at_if rfl (fun q2 => by rw [hk] at q2; cases q2) (fun _ => ?_)
    refine run 400 rfl ?_
    refine at_callF [0, 1] (ha) rfl ⟨rfl, rfl, trivial⟩ rfl rfl rfl ?_
    refine run 400 rfl ?_
    refine at_callF [0, 1] (at_no_fn l res c r m.b (by simpa using hb)) rfl ⟨rfl, rfl, trivial⟩ rfl rfl rfl ?_
    refine run 400 rfl ?_
    refine at_false 77 rfl (by rw [hk]; rfl) ?_
    refine run 400 rfl ?_
    refine at_false 82 rfl (by rw [hk]; rfl) ?_
    refine run 400 rfl ?_
    refine at_false 10 rfl (by rw [hk]; rfl) ?_
    refine run 400 rfl ?_
    exact at_ret rfl rfl (rsO l res c r) ⟨rfl, rfl⟩ ⟨rfl, rfl, trivial⟩
theorem T1_fn (k : Int) (u : Tm) : Gives Try.prog 35 [I k, .tl 4 [tr u]] (Tm.mk k 0 .empty [u]).sv := (T_fn k [u]).weak ⟨SVle.refl _, by rw [rowsT_cons, rowsT_nil]; exact SVle.tl _ _, trivial⟩
theorem T2_fn (k : Int) (u v : Tm) : Gives Try.prog 35 [I k, .tl 4 [tr u, tr v]] (Tm.mk k 0 .empty [u, v]).sv := (T_fn k [u, v]).weak ⟨SVle.refl _, by rw [rowsT_cons, rowsT_cons, rowsT_nil]; exact SVle.tl _ _, trivial⟩
theorem one_left_form (l res : List Tm) (c r : Nat) (m : Mv) (hk : m.k = 3) (h : inF m.a res.length = true) (hq : (res.getD m.a.toNat .zero).k ≠ 7) : Contract Try.prog 60 2 (rsO l res c r) [.ptr 0 0, m.sv] fun s post => s = .tup [zSV, I 3] ∧ post = rsO l res c r := by
  have ha := at_yes_fn l res c r m.a h
  generalize res.getD m.a.toNat .zero = u at ha hq
  by_cases hb : inF m.b res.length = true
  · refine contract_of ty_ok [3, 4, 5, 6, 7] Try.func60 rfl (by decide) Try.ntmps60 rfl fun z => ?_
    refine run 400 rfl ?_
    refine at_false 15 rfl (by rw [hk]; rfl) ?_
    refine run 400 rfl ?_
    refine at_ifd rfl (fun q2 => by omega) (fun _ => ?_)
    refine run 400 rfl ?_
    refine at_drawn 19 rfl rfl [(2, .no)] [20, 21, 22] rfl (by rw [hk]; rfl) ?_
    refine run 400 rfl ?_
    refine at_if rfl (fun q2 => by rw [hk] at q2; cases q2) (fun _ => ?_)
    refine run 400 rfl ?_
    refine at_if rfl (fun q2 => by rw [hk] at q2; cases q2) (fun _ => ?_)
    refine run 400 rfl ?_
    refine at_callF [0, 1] (ha) rfl ⟨rfl, rfl, trivial⟩ rfl rfl rfl ?_
    refine run 400 rfl ?_
    refine at_callF [0, 1] (at_yes_fn l res c r m.b hb) rfl ⟨rfl, rfl, trivial⟩ rfl rfl rfl ?_
    refine run 400 rfl ?_
    refine at_false 77 rfl (by rw [hk]; rfl) ?_
    refine run 400 rfl ?_
    refine at_false 82 rfl (by rw [hk]; rfl) ?_
    refine run 400 rfl ?_
    refine at_false 91 rfl (by rw [hk]; rfl) ?_
    refine run 400 rfl ?_
    refine at_if rfl (fun _ => ?_) (fun q2 => by rw [hk] at q2; cases q2)
    refine run 400 rfl ?_
    refine at_if rfl (fun _ => ?_) (fun q2 => by rw [hk] at q2; cases q2)
    refine run 400 rfl ?_
    refine at_if rfl (fun _ => ?_) (fun q2 => absurd (by simpa using q2) hq)
    refine run 400 rfl ?_
    exact at_ret rfl rfl (rsO l res c r) ⟨rfl, rfl⟩ ⟨rfl, rfl, trivial⟩
  · refine contract_of ty_ok [3, 4, 5, 6, 7] Try.func60 rfl (by decide) Try.ntmps60 rfl fun z => ?_
    refine run 400 rfl ?_
    refine at_false 15 rfl (by rw [hk]; rfl) ?_
    refine run 400 rfl ?_
    refine at_ifd rfl (fun q2 => by omega) (fun _ => ?_)
    refine run 400 rfl ?_
    refine at_drawn 19 rfl rfl [(2, .no)] [20, 21, 22] rfl (by rw [hk]; rfl) ?_
    refine run 400 rfl ?_
    refine at_if rfl (fun q2 => by rw [hk] at q2; cases q2) (fun _ => ?_)
    refine run 400 rfl ?_
    refine at_if rfl (fun q2 => by rw [hk] at q2; cases q2) (fun _ => ?_)
    refine run 400 rfl ?_
    refine at_callF [0, 1] (ha) rfl ⟨rfl, rfl, trivial⟩ rfl rfl rfl ?_
    refine run 400 rfl ?_
    refine at_callF [0, 1] (at_no_fn l res c r m.b (by simpa using hb)) rfl ⟨rfl, rfl, trivial⟩ rfl rfl rfl ?_
    refine run 400 rfl ?_
    refine at_false 77 rfl (by rw [hk]; rfl) ?_
    refine run 400 rfl ?_
    refine at_false 82 rfl (by rw [hk]; rfl) ?_
    refine run 400 rfl ?_
    refine at_false 91 rfl (by rw [hk]; rfl) ?_
    refine run 400 rfl ?_
    refine at_if rfl (fun _ => ?_) (fun q2 => by rw [hk] at q2; cases q2)
    refine run 400 rfl ?_
    refine at_if rfl (fun _ => ?_) (fun q2 => by rw [hk] at q2; cases q2)
    refine run 400 rfl ?_
    refine at_if rfl (fun _ => ?_) (fun q2 => absurd (by simpa using q2) hq)
    refine run 400 rfl ?_
    exact at_ret rfl rfl (rsO l res c r) ⟨rfl, rfl⟩ ⟨rfl, rfl, trivial⟩
theorem one_left (l res : List Tm) (c r : Nat) (m : Mv) (hk : m.k = 3) (h : inF m.a res.length = true) (hq : (res.getD m.a.toNat .zero).k = 7) (hn : 0 < (res.getD m.a.toNat .zero).kids.length) : Contract Try.prog 60 2 (rsO l res c r) [.ptr 0 0, m.sv] fun s post => s = .tup [((res.getD m.a.toNat .zero).kids.getD 0 .zero).sv, I 0] ∧ post = rsO l res c r := by
  have ha := at_yes_fn l res c r m.a h
  generalize res.getD m.a.toNat .zero = u at ha hq hn
  have hget := rowsT_get hn
  generalize u.kids.getD 0 .zero = v at hget
  by_cases hb : inF m.b res.length = true
  · refine contract_of ty_ok [3, 4, 5, 6, 7] Try.func60 rfl (by decide) Try.ntmps60 rfl fun z => ?_
    refine run 400 rfl ?_
    refine at_false 15 rfl (by rw [hk]; rfl) ?_
    refine run 400 rfl ?_
    refine at_ifd rfl (fun q2 => by omega) (fun _ => ?_)
    refine run 400 rfl ?_
    refine at_drawn 19 rfl rfl [(2, .no)] [20, 21, 22] rfl (by rw [hk]; rfl) ?_
    refine run 400 rfl ?_
    refine at_if rfl (fun q2 => by rw [hk] at q2; cases q2) (fun _ => ?_)
    refine run 400 rfl ?_
    refine at_if rfl (fun q2 => by rw [hk] at q2; cases q2) (fun _ => ?_)
    refine run 400 rfl ?_
    refine at_callF [0, 1] (ha) rfl ⟨rfl, rfl, trivial⟩ rfl rfl rfl ?_
    refine run 400 rfl ?_
    refine at_callF [0, 1] (at_yes_fn l res c r m.b hb) rfl ⟨rfl, rfl, trivial⟩ rfl rfl rfl ?_
    refine run 400 rfl ?_
    refine at_false 77 rfl (by rw [hk]; rfl) ?_
    refine run 400 rfl ?_
    refine at_false 82 rfl (by rw [hk]; rfl) ?_
    refine run 400 rfl ?_
    refine at_false 91 rfl (by rw [hk]; rfl) ?_
    refine run 400 rfl ?_
    refine at_if rfl (fun _ => ?_) (fun q2 => by rw [hk] at q2; cases q2)
    refine run 400 rfl ?_
    refine at_if rfl (fun _ => ?_) (fun q2 => by rw [hk] at q2; cases q2)
    refine run 400 rfl ?_
    refine at_if rfl (fun q2 => absurd hq (by simpa using q2)) (fun _ => ?_)
    refine run 400 rfl ?_
    refine at_val (.rp (tr v) 0) (does_index ty_ok _ rfl rfl rfl (by omega) (show (rowsT u.kids)[(m.k - 3).toNat]? = some (tr v) from by rw [hk]; exact hget) rfl) ?_
    refine run 400 rfl ?_
    exact at_ret rfl rfl (rsO l res c r) ⟨rfl, rfl⟩ ⟨rfl, rfl, trivial⟩
  · refine contract_of ty_ok [3, 4, 5, 6, 7] Try.func60 rfl (by decide) Try.ntmps60 rfl fun z => ?_
    refine run 400 rfl ?_
    refine at_false 15 rfl (by rw [hk]; rfl) ?_
    refine run 400 rfl ?_
    refine at_ifd rfl (fun q2 => by omega) (fun _ => ?_)
    refine run 400 rfl ?_
    refine at_drawn 19 rfl rfl [(2, .no)] [20, 21, 22] rfl (by rw [hk]; rfl) ?_
    refine run 400 rfl ?_
    refine at_if rfl (fun q2 => by rw [hk] at q2; cases q2) (fun _ => ?_)
    refine run 400 rfl ?_
    refine at_if rfl (fun q2 => by rw [hk] at q2; cases q2) (fun _ => ?_)
    refine run 400 rfl ?_
    refine at_callF [0, 1] (ha) rfl ⟨rfl, rfl, trivial⟩ rfl rfl rfl ?_
    refine run 400 rfl ?_
    refine at_callF [0, 1] (at_no_fn l res c r m.b (by simpa using hb)) rfl ⟨rfl, rfl, trivial⟩ rfl rfl rfl ?_
    refine run 400 rfl ?_
    refine at_false 77 rfl (by rw [hk]; rfl) ?_
    refine run 400 rfl ?_
    refine at_false 82 rfl (by rw [hk]; rfl) ?_
    refine run 400 rfl ?_
    refine at_false 91 rfl (by rw [hk]; rfl) ?_
    refine run 400 rfl ?_
    refine at_if rfl (fun _ => ?_) (fun q2 => by rw [hk] at q2; cases q2)
    refine run 400 rfl ?_
    refine at_if rfl (fun _ => ?_) (fun q2 => by rw [hk] at q2; cases q2)
    refine run 400 rfl ?_
    refine at_if rfl (fun q2 => absurd hq (by simpa using q2)) (fun _ => ?_)
    refine run 400 rfl ?_
    refine at_val (.rp (tr v) 0) (does_index ty_ok _ rfl rfl rfl (by omega) (show (rowsT u.kids)[(m.k - 3).toNat]? = some (tr v) from by rw [hk]; exact hget) rfl) ?_
    refine run 400 rfl ?_
    exact at_ret rfl rfl (rsO l res c r) ⟨rfl, rfl⟩ ⟨rfl, rfl, trivial⟩
theorem one_right_form (l res : List Tm) (c r : Nat) (m : Mv) (hk : m.k = 4) (h : inF m.a res.length = true) (hq : (res.getD m.a.toNat .zero).k ≠ 7) : Contract Try.prog 60 2 (rsO l res c r) [.ptr 0 0, m.sv] fun s post => s = .tup [zSV, I 3] ∧ post = rsO l res c r := by
  have ha := at_yes_fn l res c r m.a h
  generalize res.getD m.a.toNat .zero = u at ha hq
  by_cases hb : inF m.b res.length = true
  · refine contract_of ty_ok [3, 4, 5, 6, 7] Try.func60 rfl (by decide) Try.ntmps60 rfl fun z => ?_
    refine run 400 rfl ?_
    refine at_false 15 rfl (by rw [hk]; rfl) ?_
    refine run 400 rfl ?_
    refine at_ifd rfl (fun q2 => by omega) (fun _ => ?_)
    refine run 400 rfl ?_
    refine at_drawn 19 rfl rfl [(2, .no)] [20, 21, 22] rfl (by rw [hk]; rfl) ?_
    refine run 400 rfl ?_
    refine at_if rfl (fun q2 => by rw [hk] at q2; cases q2) (fun _ => ?_)
    refine run 400 rfl ?_
    refine at_if rfl (fun q2 => by rw [hk] at q2; cases q2) (fun _ => ?_)
    refine run 400 rfl ?_
    refine at_callF [0, 1] (ha) rfl ⟨rfl, rfl, trivial⟩ rfl rfl rfl ?_
    refine run 400 rfl ?_
    refine at_callF [0, 1] (at_yes_fn l res c r m.b hb) rfl ⟨rfl, rfl, trivial⟩ rfl rfl rfl ?_
    refine run 400 rfl ?_
    refine at_false 77 rfl (by rw [hk]; rfl) ?_
    refine run 400 rfl ?_
    refine at_false 82 rfl (by rw [hk]; rfl) ?_
    refine run 400 rfl ?_
    refine at_false 91 rfl (by rw [hk]; rfl) ?_
    refine run 400 rfl ?_
    refine at_if rfl (fun q2 => by rw [hk] at q2; cases q2) (fun _ => ?_)
    refine run 400 rfl ?_
    refine at_if rfl (fun _ => ?_) (fun q2 => by rw [hk] at q2; cases q2)
    refine run 400 rfl ?_
    refine at_if rfl (fun _ => ?_) (fun q2 => absurd (by simpa using q2) hq)
    refine run 400 rfl ?_
    exact at_ret rfl rfl (rsO l res c r) ⟨rfl, rfl⟩ ⟨rfl, rfl, trivial⟩
  · refine contract_of ty_ok [3, 4, 5, 6, 7] Try.func60 rfl (by decide) Try.ntmps60 rfl fun z => ?_
    refine run 400 rfl ?_
    refine at_false 15 rfl (by rw [hk]; rfl) ?_
    refine run 400 rfl ?_
    refine at_ifd rfl (fun q2 => by omega) (fun _ => ?_)
    refine run 400 rfl ?_
    refine at_drawn 19 rfl rfl [(2, .no)] [20, 21, 22] rfl (by rw [hk]; rfl) ?_
    refine run 400 rfl ?_
    refine at_if rfl (fun q2 => by rw [hk] at q2; cases q2) (fun _ => ?_)
    refine run 400 rfl ?_
    refine at_if rfl (fun q2 => by rw [hk] at q2; cases q2) (fun _ => ?_)
    refine run 400 rfl ?_
    refine at_callF [0, 1] (ha) rfl ⟨rfl, rfl, trivial⟩ rfl rfl rfl ?_
    refine run 400 rfl ?_
    refine at_callF [0, 1] (at_no_fn l res c r m.b (by simpa using hb)) rfl ⟨rfl, rfl, trivial⟩ rfl rfl rfl ?_
    refine run 400 rfl ?_
    refine at_false 77 rfl (by rw [hk]; rfl) ?_
    refine run 400 rfl ?_
    refine at_false 82 rfl (by rw [hk]; rfl) ?_
    refine run 400 rfl ?_
    refine at_false 91 rfl (by rw [hk]; rfl) ?_
    refine run 400 rfl ?_
    refine at_if rfl (fun q2 => by rw [hk] at q2; cases q2) (fun _ => ?_)
    refine run 400 rfl ?_
    refine at_if rfl (fun _ => ?_) (fun q2 => by rw [hk] at q2; cases q2)
    refine run 400 rfl ?_
    refine at_if rfl (fun _ => ?_) (fun q2 => absurd (by simpa using q2) hq)
    refine run 400 rfl ?_
    exact at_ret rfl rfl (rsO l res c r) ⟨rfl, rfl⟩ ⟨rfl, rfl, trivial⟩
theorem one_right (l res : List Tm) (c r : Nat) (m : Mv) (hk : m.k = 4) (h : inF m.a res.length = true) (hq : (res.getD m.a.toNat .zero).k = 7) (hn : 1 < (res.getD m.a.toNat .zero).kids.length) : Contract Try.prog 60 2 (rsO l res c r) [.ptr 0 0, m.sv] fun s post => s = .tup [((res.getD m.a.toNat .zero).kids.getD 1 .zero).sv, I 0] ∧ post = rsO l res c r := by
  have ha := at_yes_fn l res c r m.a h
  generalize res.getD m.a.toNat .zero = u at ha hq hn
  have hget := rowsT_get hn
  generalize u.kids.getD 1 .zero = v at hget
  by_cases hb : inF m.b res.length = true
  · refine contract_of ty_ok [3, 4, 5, 6, 7] Try.func60 rfl (by decide) Try.ntmps60 rfl fun z => ?_
    refine run 400 rfl ?_
    refine at_false 15 rfl (by rw [hk]; rfl) ?_
    refine run 400 rfl ?_
    refine at_ifd rfl (fun q2 => by omega) (fun _ => ?_)
    refine run 400 rfl ?_
    refine at_drawn 19 rfl rfl [(2, .no)] [20, 21, 22] rfl (by rw [hk]; rfl) ?_
    refine run 400 rfl ?_
    refine at_if rfl (fun q2 => by rw [hk] at q2; cases q2) (fun _ => ?_)
    refine run 400 rfl ?_
    refine at_if rfl (fun q2 => by rw [hk] at q2; cases q2) (fun _ => ?_)
    refine run 400 rfl ?_
    refine at_callF [0, 1] (ha) rfl ⟨rfl, rfl, trivial⟩ rfl rfl rfl ?_
    refine run 400 rfl ?_
    refine at_callF [0, 1] (at_yes_fn l res c r m.b hb) rfl ⟨rfl, rfl, trivial⟩ rfl rfl rfl ?_
    refine run 400 rfl ?_
    refine at_false 77 rfl (by rw [hk]; rfl) ?_
    refine run 400 rfl ?_
    refine at_false 82 rfl (by rw [hk]; rfl) ?_
    refine run 400 rfl ?_
    refine at_false 91 rfl (by rw [hk]; rfl) ?_
    refine run 400 rfl ?_
    refine at_if rfl (fun q2 => by rw [hk] at q2; cases q2) (fun _ => ?_)
    refine run 400 rfl ?_
    refine at_if rfl (fun _ => ?_) (fun q2 => by rw [hk] at q2; cases q2)
    refine run 400 rfl ?_
    refine at_if rfl (fun q2 => absurd hq (by simpa using q2)) (fun _ => ?_)
    refine run 400 rfl ?_
    refine at_val (.rp (tr v) 0) (does_index ty_ok _ rfl rfl rfl (by omega) (show (rowsT u.kids)[(m.k - 3).toNat]? = some (tr v) from by rw [hk]; exact hget) rfl) ?_
    refine run 400 rfl ?_
    exact at_ret rfl rfl (rsO l res c r) ⟨rfl, rfl⟩ ⟨rfl, rfl, trivial⟩
  · refine contract_of ty_ok [3, 4, 5, 6, 7] Try.func60 rfl (by decide) Try.ntmps60 rfl fun z => ?_
    refine run 400 rfl ?_
    refine at_false 15 rfl (by rw [hk]; rfl) ?_
    refine run 400 rfl ?_
    refine at_ifd rfl (fun q2 => by omega) (fun _ => ?_)
    refine run 400 rfl ?_
    refine at_drawn 19 rfl rfl [(2, .no)] [20, 21, 22] rfl (by rw [hk]; rfl) ?_
    refine run 400 rfl ?_
    refine at_if rfl (fun q2 => by rw [hk] at q2; cases q2) (fun _ => ?_)
    refine run 400 rfl ?_
    refine at_if rfl (fun q2 => by rw [hk] at q2; cases q2) (fun _ => ?_)
    refine run 400 rfl ?_
    refine at_callF [0, 1] (ha) rfl ⟨rfl, rfl, trivial⟩ rfl rfl rfl ?_
    refine run 400 rfl ?_
    refine at_callF [0, 1] (at_no_fn l res c r m.b (by simpa using hb)) rfl ⟨rfl, rfl, trivial⟩ rfl rfl rfl ?_
    refine run 400 rfl ?_
    refine at_false 77 rfl (by rw [hk]; rfl) ?_
    refine run 400 rfl ?_
    refine at_false 82 rfl (by rw [hk]; rfl) ?_
    refine run 400 rfl ?_
    refine at_false 91 rfl (by rw [hk]; rfl) ?_
    refine run 400 rfl ?_
    refine at_if rfl (fun q2 => by rw [hk] at q2; cases q2) (fun _ => ?_)
    refine run 400 rfl ?_
    refine at_if rfl (fun _ => ?_) (fun q2 => by rw [hk] at q2; cases q2)
    refine run 400 rfl ?_
    refine at_if rfl (fun q2 => absurd hq (by simpa using q2)) (fun _ => ?_)
    refine run 400 rfl ?_
    refine at_val (.rp (tr v) 0) (does_index ty_ok _ rfl rfl rfl (by omega) (show (rowsT u.kids)[(m.k - 3).toNat]? = some (tr v) from by rw [hk]; exact hget) rfl) ?_
    refine run 400 rfl ?_
    exact at_ret rfl rfl (rsO l res c r) ⟨rfl, rfl⟩ ⟨rfl, rfl, trivial⟩
theorem one_open_form (l res : List Tm) (c r : Nat) (m : Mv) (hk : m.k = 5) (h : inF m.a res.length = true) (hq : (res.getD m.a.toNat .zero).k ≠ 6) : Contract Try.prog 60 2 (rsO l res c r) [.ptr 0 0, m.sv] fun s post => s = .tup [zSV, I 3] ∧ post = rsO l res c r := by
  have ha := at_yes_fn l res c r m.a h
  generalize res.getD m.a.toNat .zero = u at ha hq
  by_cases hb : inF m.b res.length = true
  · refine contract_of ty_ok [3, 4, 5, 6, 7] Try.func60 rfl (by decide) Try.ntmps60 rfl fun z => ?_
    refine run 400 rfl ?_
    refine at_false 15 rfl (by rw [hk]; rfl) ?_
    refine run 400 rfl ?_
    refine at_ifd rfl (fun q2 => by omega) (fun _ => ?_)
    refine run 400 rfl ?_
    refine at_drawn 19 rfl rfl [(2, .no)] [20, 21, 22] rfl (by rw [hk]; rfl) ?_
    refine run 400 rfl ?_
    refine at_if rfl (fun q2 => by rw [hk] at q2; cases q2) (fun _ => ?_)
    refine run 400 rfl ?_
    refine at_if rfl (fun q2 => by rw [hk] at q2; cases q2) (fun _ => ?_)
    refine run 400 rfl ?_
    refine at_callF [0, 1] (ha) rfl ⟨rfl, rfl, trivial⟩ rfl rfl rfl ?_
    refine run 400 rfl ?_
    refine at_callF [0, 1] (at_yes_fn l res c r m.b hb) rfl ⟨rfl, rfl, trivial⟩ rfl rfl rfl ?_
    refine run 400 rfl ?_
    refine at_false 77 rfl (by rw [hk]; rfl) ?_
    refine run 400 rfl ?_
    refine at_false 82 rfl (by rw [hk]; rfl) ?_
    refine run 400 rfl ?_
    refine at_false 91 rfl (by rw [hk]; rfl) ?_
    refine run 400 rfl ?_
    refine at_if rfl (fun q2 => by rw [hk] at q2; cases q2) (fun _ => ?_)
    refine run 400 rfl ?_
    refine at_if rfl (fun q2 => by rw [hk] at q2; cases q2) (fun _ => ?_)
    refine run 400 rfl ?_
    refine at_if rfl (fun _ => ?_) (fun q2 => by rw [hk] at q2; cases q2)
    refine run 400 rfl ?_
    refine at_if rfl (fun _ => ?_) (fun q2 => absurd (by simpa using q2) hq)
    refine run 400 rfl ?_
    exact at_ret rfl rfl (rsO l res c r) ⟨rfl, rfl⟩ ⟨rfl, rfl, trivial⟩
  · refine contract_of ty_ok [3, 4, 5, 6, 7] Try.func60 rfl (by decide) Try.ntmps60 rfl fun z => ?_
    refine run 400 rfl ?_
    refine at_false 15 rfl (by rw [hk]; rfl) ?_
    refine run 400 rfl ?_
    refine at_ifd rfl (fun q2 => by omega) (fun _ => ?_)
    refine run 400 rfl ?_
    refine at_drawn 19 rfl rfl [(2, .no)] [20, 21, 22] rfl (by rw [hk]; rfl) ?_
    refine run 400 rfl ?_
    refine at_if rfl (fun q2 => by rw [hk] at q2; cases q2) (fun _ => ?_)
    refine run 400 rfl ?_
    refine at_if rfl (fun q2 => by rw [hk] at q2; cases q2) (fun _ => ?_)
    refine run 400 rfl ?_
    refine at_callF [0, 1] (ha) rfl ⟨rfl, rfl, trivial⟩ rfl rfl rfl ?_
    refine run 400 rfl ?_
    refine at_callF [0, 1] (at_no_fn l res c r m.b (by simpa using hb)) rfl ⟨rfl, rfl, trivial⟩ rfl rfl rfl ?_
    refine run 400 rfl ?_
    refine at_false 77 rfl (by rw [hk]; rfl) ?_
    refine run 400 rfl ?_
    refine at_false 82 rfl (by rw [hk]; rfl) ?_
    refine run 400 rfl ?_
    refine at_false 91 rfl (by rw [hk]; rfl) ?_
    refine run 400 rfl ?_
    refine at_if rfl (fun q2 => by rw [hk] at q2; cases q2) (fun _ => ?_)
    refine run 400 rfl ?_
    refine at_if rfl (fun q2 => by rw [hk] at q2; cases q2) (fun _ => ?_)
    refine run 400 rfl ?_
    refine at_if rfl (fun _ => ?_) (fun q2 => by rw [hk] at q2; cases q2)
    refine run 400 rfl ?_
    refine at_if rfl (fun _ => ?_) (fun q2 => absurd (by simpa using q2) hq)
    refine run 400 rfl ?_
    exact at_ret rfl rfl (rsO l res c r) ⟨rfl, rfl⟩ ⟨rfl, rfl, trivial⟩
theorem one_open (l res : List Tm) (c r : Nat) (m : Mv) (hk : m.k = 5) (h : inF m.a res.length = true) (hq : (res.getD m.a.toNat .zero).k = 6) (hn : 1 < (res.getD m.a.toNat .zero).kids.length) : Contract Try.prog 60 2 (rsO l res c r) [.ptr 0 0, m.sv] fun s post => s = .tup [((res.getD m.a.toNat .zero).kids.getD 1 .zero).sv, I 0] ∧ post = rsO l res c r := by
  have ha := at_yes_fn l res c r m.a h
  generalize res.getD m.a.toNat .zero = u at ha hq hn
  have hget := rowsT_get hn
  generalize u.kids.getD 1 .zero = v at hget
  by_cases hb : inF m.b res.length = true
  · refine contract_of ty_ok [3, 4, 5, 6, 7] Try.func60 rfl (by decide) Try.ntmps60 rfl fun z => ?_
    refine run 400 rfl ?_
    refine at_false 15 rfl (by rw [hk]; rfl) ?_
    refine run 400 rfl ?_
    refine at_ifd rfl (fun q2 => by omega) (fun _ => ?_)
    refine run 400 rfl ?_
    refine at_drawn 19 rfl rfl [(2, .no)] [20, 21, 22] rfl (by rw [hk]; rfl) ?_
    refine run 400 rfl ?_
    refine at_if rfl (fun q2 => by rw [hk] at q2; cases q2) (fun _ => ?_)
    refine run 400 rfl ?_
    refine at_if rfl (fun q2 => by rw [hk] at q2; cases q2) (fun _ => ?_)
    refine run 400 rfl ?_
    refine at_callF [0, 1] (ha) rfl ⟨rfl, rfl, trivial⟩ rfl rfl rfl ?_
    refine run 400 rfl ?_
    refine at_callF [0, 1] (at_yes_fn l res c r m.b hb) rfl ⟨rfl, rfl, trivial⟩ rfl rfl rfl ?_
    refine run 400 rfl ?_
    refine at_false 77 rfl (by rw [hk]; rfl) ?_
    refine run 400 rfl ?_
    refine at_false 82 rfl (by rw [hk]; rfl) ?_
    refine run 400 rfl ?_
    refine at_false 91 rfl (by rw [hk]; rfl) ?_
    refine run 400 rfl ?_
    refine at_if rfl (fun q2 => by rw [hk] at q2; cases q2) (fun _ => ?_)
    refine run 400 rfl ?_
    refine at_if rfl (fun q2 => by rw [hk] at q2; cases q2) (fun _ => ?_)
    refine run 400 rfl ?_
    refine at_if rfl (fun _ => ?_) (fun q2 => by rw [hk] at q2; cases q2)
    refine run 400 rfl ?_
    refine at_if rfl (fun q2 => absurd hq (by simpa using q2)) (fun _ => ?_)
    refine run 400 rfl ?_
    refine at_val (.rp (tr v) 0) (does_index ty_ok _ rfl rfl rfl (by omega) (show (rowsT u.kids)[(1 : Int).toNat]? = some (tr v) from hget) rfl) ?_
    refine run 400 rfl ?_
    exact at_ret rfl rfl (rsO l res c r) ⟨rfl, rfl⟩ ⟨rfl, rfl, trivial⟩
  · refine contract_of ty_ok [3, 4, 5, 6, 7] Try.func60 rfl (by decide) Try.ntmps60 rfl fun z => ?_
    refine run 400 rfl ?_
    refine at_false 15 rfl (by rw [hk]; rfl) ?_
    refine run 400 rfl ?_
    refine at_ifd rfl (fun q2 => by omega) (fun _ => ?_)
    refine run 400 rfl ?_
    refine at_drawn 19 rfl rfl [(2, .no)] [20, 21, 22] rfl (by rw [hk]; rfl) ?_
    refine run 400 rfl ?_
    refine at_if rfl (fun q2 => by rw [hk] at q2; cases q2) (fun _ => ?_)
    refine run 400 rfl ?_
    refine at_if rfl (fun q2 => by rw [hk] at q2; cases q2) (fun _ => ?_)
    refine run 400 rfl ?_
    refine at_callF [0, 1] (ha) rfl ⟨rfl, rfl, trivial⟩ rfl rfl rfl ?_
    refine run 400 rfl ?_
    refine at_callF [0, 1] (at_no_fn l res c r m.b (by simpa using hb)) rfl ⟨rfl, rfl, trivial⟩ rfl rfl rfl ?_
    refine run 400 rfl ?_
    refine at_false 77 rfl (by rw [hk]; rfl) ?_
    refine run 400 rfl ?_
    refine at_false 82 rfl (by rw [hk]; rfl) ?_
    refine run 400 rfl ?_
    refine at_false 91 rfl (by rw [hk]; rfl) ?_
    refine run 400 rfl ?_
    refine at_if rfl (fun q2 => by rw [hk] at q2; cases q2) (fun _ => ?_)
    refine run 400 rfl ?_
    refine at_if rfl (fun q2 => by rw [hk] at q2; cases q2) (fun _ => ?_)
    refine run 400 rfl ?_
    refine at_if rfl (fun _ => ?_) (fun q2 => by rw [hk] at q2; cases q2)
    refine run 400 rfl ?_
    refine at_if rfl (fun q2 => absurd hq (by simpa using q2)) (fun _ => ?_)
    refine run 400 rfl ?_
    refine at_val (.rp (tr v) 0) (does_index ty_ok _ rfl rfl rfl (by omega) (show (rowsT u.kids)[(1 : Int).toNat]? = some (tr v) from hget) rfl) ?_
    refine run 400 rfl ?_
    exact at_ret rfl rfl (rsO l res c r) ⟨rfl, rfl⟩ ⟨rfl, rfl, trivial⟩
theorem one_hash (l res : List Tm) (c r : Nat) (m : Mv) (hk : m.k = 6) (h : inF m.a res.length = true) : Contract Try.prog 60 2 (rsO l res c r) [.ptr 0 0, m.sv] fun s post => s = .tup [(Tm.mk 3 0 .empty [res.getD m.a.toNat .zero]).sv, I 0] ∧ post = rsO l res c r := by
  have ha := at_yes_fn l res c r m.a h
  generalize res.getD m.a.toNat .zero = u at ha
  by_cases hb : inF m.b res.length = true
  · refine contract_of ty_ok [3, 4, 5, 6, 7] Try.func60 rfl (by decide) Try.ntmps60 rfl fun z => ?_
    refine run 400 rfl ?_
    refine at_false 15 rfl (by rw [hk]; rfl) ?_
    refine run 400 rfl ?_
    refine at_ifd rfl (fun q2 => by omega) (fun _ => ?_)
    refine run 400 rfl ?_
    refine at_drawn 19 rfl rfl [(2, .no)] [20, 21, 22] rfl (by rw [hk]; rfl) ?_
    refine run 400 rfl ?_
    refine at_if rfl (fun q2 => by rw [hk] at q2; cases q2) (fun _ => ?_)
    refine run 400 rfl ?_
    refine at_if rfl (fun q2 => by rw [hk] at q2; cases q2) (fun _ => ?_)
    refine run 400 rfl ?_
    refine at_callF [0, 1] (ha) rfl ⟨rfl, rfl, trivial⟩ rfl rfl rfl ?_
    refine run 400 rfl ?_
    refine at_callF [0, 1] (at_yes_fn l res c r m.b hb) rfl ⟨rfl, rfl, trivial⟩ rfl rfl rfl ?_
    refine run 400 rfl ?_
    refine at_false 77 rfl (by rw [hk]; rfl) ?_
    refine run 400 rfl ?_
    refine at_false 82 rfl (by rw [hk]; rfl) ?_
    refine run 400 rfl ?_
    refine at_false 91 rfl (by rw [hk]; rfl) ?_
    refine run 400 rfl ?_
    refine at_if rfl (fun q2 => by rw [hk] at q2; cases q2) (fun _ => ?_)
    refine run 400 rfl ?_
    refine at_if rfl (fun q2 => by rw [hk] at q2; cases q2) (fun _ => ?_)
    refine run 400 rfl ?_
    refine at_if rfl (fun q2 => by rw [hk] at q2; cases q2) (fun _ => ?_)
    refine run 400 rfl ?_
    refine at_if rfl (fun _ => ?_) (fun q2 => by rw [hk] at q2; cases q2)
    refine run 400 rfl ?_
    refine at_gro (.tl 4 [tr u]) (doesG_build ty_ok _ rfl ⟨⟨rfl, rfl, _, rfl, SVles.refl _⟩, trivial⟩ rfl rfl (by decide)) ?_
    refine run 400 rfl ?_
    refine at_fn (T1_fn 3 u) rfl ?_
    refine run 400 rfl ?_
    exact at_ret rfl rfl (rsO l res c r) ⟨rfl, rfl⟩ ⟨rfl, rfl, trivial⟩
  · refine contract_of ty_ok [3, 4, 5, 6, 7] Try.func60 rfl (by decide) Try.ntmps60 rfl fun z => ?_
    refine run 400 rfl ?_
    refine at_false 15 rfl (by rw [hk]; rfl) ?_
    refine run 400 rfl ?_
    refine at_ifd rfl (fun q2 => by omega) (fun _ => ?_)
    refine run 400 rfl ?_
    refine at_drawn 19 rfl rfl [(2, .no)] [20, 21, 22] rfl (by rw [hk]; rfl) ?_
    refine run 400 rfl ?_
    refine at_if rfl (fun q2 => by rw [hk] at q2; cases q2) (fun _ => ?_)
    refine run 400 rfl ?_
    refine at_if rfl (fun q2 => by rw [hk] at q2; cases q2) (fun _ => ?_)
    refine run 400 rfl ?_
    refine at_callF [0, 1] (ha) rfl ⟨rfl, rfl, trivial⟩ rfl rfl rfl ?_
    refine run 400 rfl ?_
    refine at_callF [0, 1] (at_no_fn l res c r m.b (by simpa using hb)) rfl ⟨rfl, rfl, trivial⟩ rfl rfl rfl ?_
    refine run 400 rfl ?_
    refine at_false 77 rfl (by rw [hk]; rfl) ?_
    refine run 400 rfl ?_
    refine at_false 82 rfl (by rw [hk]; rfl) ?_
    refine run 400 rfl ?_
    refine at_false 91 rfl (by rw [hk]; rfl) ?_
    refine run 400 rfl ?_
    refine at_if rfl (fun q2 => by rw [hk] at q2; cases q2) (fun _ => ?_)
    refine run 400 rfl ?_
    refine at_if rfl (fun q2 => by rw [hk] at q2; cases q2) (fun _ => ?_)
    refine run 400 rfl ?_
    refine at_if rfl (fun q2 => by rw [hk] at q2; cases q2) (fun _ => ?_)
    refine run 400 rfl ?_
    refine at_if rfl (fun _ => ?_) (fun q2 => by rw [hk] at q2; cases q2)
    refine run 400 rfl ?_
    refine at_gro (.tl 4 [tr u]) (doesG_build ty_ok _ rfl ⟨⟨rfl, rfl, _, rfl, SVles.refl _⟩, trivial⟩ rfl rfl (by decide)) ?_
    refine run 400 rfl ?_
    refine at_fn (T1_fn 3 u) rfl ?_
    refine run 400 rfl ?_
    exact at_ret rfl rfl (rsO l res c r) ⟨rfl, rfl⟩ ⟨rfl, rfl, trivial⟩
theorem one_pub (l res : List Tm) (c r : Nat) (m : Mv) (hk : m.k = 7) (h : inF m.a res.length = true) : Contract Try.prog 60 2 (rsO l res c r) [.ptr 0 0, m.sv] fun s post => s = .tup [(Tm.mk 4 0 .empty [res.getD m.a.toNat .zero]).sv, I 0] ∧ post = rsO l res c r := by
  have ha := at_yes_fn l res c r m.a h
  generalize res.getD m.a.toNat .zero = u at ha
  by_cases hb : inF m.b res.length = true
  · refine contract_of ty_ok [3, 4, 5, 6, 7] Try.func60 rfl (by decide) Try.ntmps60 rfl fun z => ?_
    refine run 400 rfl ?_
    refine at_false 15 rfl (by rw [hk]; rfl) ?_
    refine run 400 rfl ?_
    refine at_ifd rfl (fun q2 => by omega) (fun _ => ?_)
    refine run 400 rfl ?_
    refine at_drawn 19 rfl rfl [(2, .no)] [20, 21, 22] rfl (by rw [hk]; rfl) ?_
    refine run 400 rfl ?_
    refine at_if rfl (fun q2 => by rw [hk] at q2; cases q2) (fun _ => ?_)
    refine run 400 rfl ?_
    refine at_if rfl (fun q2 => by rw [hk] at q2; cases q2) (fun _ => ?_)
    refine run 400 rfl ?_
    refine at_callF [0, 1] (ha) rfl ⟨rfl, rfl, trivial⟩ rfl rfl rfl ?_
    refine run 400 rfl ?_
    refine at_callF [0, 1] (at_yes_fn l res c r m.b hb) rfl ⟨rfl, rfl, trivial⟩ rfl rfl rfl ?_
    refine run 400 rfl ?_
    refine at_false 77 rfl (by rw [hk]; rfl) ?_
    refine run 400 rfl ?_
    refine at_false 82 rfl (by rw [hk]; rfl) ?_
    refine run 400 rfl ?_
    refine at_false 91 rfl (by rw [hk]; rfl) ?_
    refine run 400 rfl ?_
    refine at_if rfl (fun q2 => by rw [hk] at q2; cases q2) (fun _ => ?_)
    refine run 400 rfl ?_
    refine at_if rfl (fun q2 => by rw [hk] at q2; cases q2) (fun _ => ?_)
    refine run 400 rfl ?_
    refine at_if rfl (fun q2 => by rw [hk] at q2; cases q2) (fun _ => ?_)
    refine run 400 rfl ?_
    refine at_if rfl (fun q2 => by rw [hk] at q2; cases q2) (fun _ => ?_)
    refine run 400 rfl ?_
    refine at_if rfl (fun _ => ?_) (fun q2 => by rw [hk] at q2; cases q2)
    refine run 400 rfl ?_
    refine at_gro (.tl 4 [tr u]) (doesG_build ty_ok _ rfl ⟨⟨rfl, rfl, _, rfl, SVles.refl _⟩, trivial⟩ rfl rfl (by decide)) ?_
    refine run 400 rfl ?_
    refine at_fn (T1_fn 4 u) rfl ?_
    refine run 400 rfl ?_
    exact at_ret rfl rfl (rsO l res c r) ⟨rfl, rfl⟩ ⟨rfl, rfl, trivial⟩
  · refine contract_of ty_ok [3, 4, 5, 6, 7] Try.func60 rfl (by decide) Try.ntmps60 rfl fun z => ?_
    refine run 400 rfl ?_
    refine at_false 15 rfl (by rw [hk]; rfl) ?_
    refine run 400 rfl ?_
    refine at_ifd rfl (fun q2 => by omega) (fun _ => ?_)
    refine run 400 rfl ?_
    refine at_drawn 19 rfl rfl [(2, .no)] [20, 21, 22] rfl (by rw [hk]; rfl) ?_
    refine run 400 rfl ?_
    refine at_if rfl (fun q2 => by rw [hk] at q2; cases q2) (fun _ => ?_)
    refine run 400 rfl ?_
    refine at_if rfl (fun q2 => by rw [hk] at q2; cases q2) (fun _ => ?_)
    refine run 400 rfl ?_
    refine at_callF [0, 1] (ha) rfl ⟨rfl, rfl, trivial⟩ rfl rfl rfl ?_
    refine run 400 rfl ?_
    refine at_callF [0, 1] (at_no_fn l res c r m.b (by simpa using hb)) rfl ⟨rfl, rfl, trivial⟩ rfl rfl rfl ?_
    refine run 400 rfl ?_
    refine at_false 77 rfl (by rw [hk]; rfl) ?_
    refine run 400 rfl ?_
    refine at_false 82 rfl (by rw [hk]; rfl) ?_
    refine run 400 rfl ?_
    refine at_false 91 rfl (by rw [hk]; rfl) ?_
    refine run 400 rfl ?_
    refine at_if rfl (fun q2 => by rw [hk] at q2; cases q2) (fun _ => ?_)
    refine run 400 rfl ?_
    refine at_if rfl (fun q2 => by rw [hk] at q2; cases q2) (fun _ => ?_)
    refine run 400 rfl ?_
    refine at_if rfl (fun q2 => by rw [hk] at q2; cases q2) (fun _ => ?_)
    refine run 400 rfl ?_
    refine at_if rfl (fun q2 => by rw [hk] at q2; cases q2) (fun _ => ?_)
    refine run 400 rfl ?_
    refine at_if rfl (fun _ => ?_) (fun q2 => by rw [hk] at q2; cases q2)
    refine run 400 rfl ?_
    refine at_gro (.tl 4 [tr u]) (doesG_build ty_ok _ rfl ⟨⟨rfl, rfl, _, rfl, SVles.refl _⟩, trivial⟩ rfl rfl (by decide)) ?_
    refine run 400 rfl ?_
    refine at_fn (T1_fn 4 u) rfl ?_
    refine run 400 rfl ?_
    exact at_ret rfl rfl (rsO l res c r) ⟨rfl, rfl⟩ ⟨rfl, rfl, trivial⟩
theorem one_mac (l res : List Tm) (c r : Nat) (m : Mv) (hk : m.k = 8) (h : inF m.a res.length = true) (hb : inF m.b res.length = true) : Contract Try.prog 60 2 (rsO l res c r) [.ptr 0 0, m.sv] fun s post => s = .tup [(Tm.mk 5 0 .empty [res.getD m.a.toNat .zero, res.getD m.b.toNat .zero]).sv, I 0] ∧ post = rsO l res c r := by
  have ha := at_yes_fn l res c r m.a h
  have hc := at_yes_fn l res c r m.b hb
  generalize res.getD m.a.toNat .zero = u at ha
  generalize res.getD m.b.toNat .zero = v at hc
  refine contract_of ty_ok [3, 4, 5, 6, 7] Try.func60 rfl (by decide) Try.ntmps60 rfl fun z => ?_
  refine run 400 rfl ?_
  refine at_false 15 rfl (by rw [hk]; rfl) ?_
  refine run 400 rfl ?_
  refine at_ifd rfl (fun q2 => by omega) (fun _ => ?_)
  refine run 400 rfl ?_
  refine at_drawn 19 rfl rfl [(2, .no)] [20, 21, 22] rfl (by rw [hk]; rfl) ?_
  refine run 400 rfl ?_
  refine at_if rfl (fun q2 => by rw [hk] at q2; cases q2) (fun _ => ?_)
  refine run 400 rfl ?_
  refine at_if rfl (fun q2 => by rw [hk] at q2; cases q2) (fun _ => ?_)
  refine run 400 rfl ?_
  refine at_callF [0, 1] (ha) rfl ⟨rfl, rfl, trivial⟩ rfl rfl rfl ?_
  refine run 400 rfl ?_
  refine at_callF [0, 1] (hc) rfl ⟨rfl, rfl, trivial⟩ rfl rfl rfl ?_
  refine run 400 rfl ?_
  refine at_true 77 rfl (by rw [hk]; rfl) ?_
  refine run 400 rfl ?_
  refine at_if rfl (fun q2 => by rw [hk] at q2; cases q2) (fun _ => ?_)
  refine run 400 rfl ?_
  refine at_if rfl (fun q2 => by rw [hk] at q2; cases q2) (fun _ => ?_)
  refine run 400 rfl ?_
  refine at_if rfl (fun q2 => by rw [hk] at q2; cases q2) (fun _ => ?_)
  refine run 400 rfl ?_
  refine at_if rfl (fun q2 => by rw [hk] at q2; cases q2) (fun _ => ?_)
  refine run 400 rfl ?_
  refine at_if rfl (fun q2 => by rw [hk] at q2; cases q2) (fun _ => ?_)
  refine run 400 rfl ?_
  refine at_if rfl (fun _ => ?_) (fun q2 => by rw [hk] at q2; cases q2)
  refine run 400 rfl ?_
  refine at_gro (.tl 4 [tr u, tr v]) (doesG_build ty_ok _ rfl ⟨⟨rfl, rfl, _, rfl, SVles.refl _⟩, ⟨rfl, rfl, _, rfl, SVles.refl _⟩, trivial⟩ rfl rfl (by decide)) ?_
  refine run 400 rfl ?_
  refine at_fn (T2_fn 5 u v) rfl ?_
  refine run 400 rfl ?_
  exact at_ret rfl rfl (rsO l res c r) ⟨rfl, rfl⟩ ⟨rfl, rfl, trivial⟩
theorem one_mac_no (l res : List Tm) (c r : Nat) (m : Mv) (hk : m.k = 8) (h : inF m.a res.length = false) : Contract Try.prog 60 2 (rsO l res c r) [.ptr 0 0, m.sv] fun s post => s = .tup [zSV, I 8] ∧ post = rsO l res c r := by
  have ha := at_no_fn l res c r m.a h
  by_cases hb : inF m.b res.length = true
  · refine contract_of ty_ok [3, 4, 5, 6, 7] Try.func60 rfl (by decide) Try.ntmps60 rfl fun z => ?_
    refine run 400 rfl ?_
    refine at_false 15 rfl (by rw [hk]; rfl) ?_
    refine run 400 rfl ?_
    refine at_ifd rfl (fun q2 => by omega) (fun _ => ?_)
    refine run 400 rfl ?_
    refine at_drawn 19 rfl rfl [(2, .no)] [20, 21, 22] rfl (by rw [hk]; rfl) ?_
    refine run 400 rfl ?_
    refine at_if rfl (fun q2 => by rw [hk] at q2; cases q2) (fun _ => ?_)
    refine run 400 rfl ?_
    refine at_if rfl (fun q2 => by rw [hk] at q2; cases q2) (fun _ => ?_)
    refine run 400 rfl ?_
    refine at_callF [0, 1] (ha) rfl ⟨rfl, rfl, trivial⟩ rfl rfl rfl ?_
    refine run 400 rfl ?_
    refine at_callF [0, 1] (at_yes_fn l res c r m.b hb) rfl ⟨rfl, rfl, trivial⟩ rfl rfl rfl ?_
    refine run 400 rfl ?_
    refine at_true 77 rfl (by rw [hk]; rfl) ?_
    refine run 400 rfl ?_
    exact at_ret rfl rfl (rsO l res c r) ⟨rfl, rfl⟩ ⟨rfl, rfl, trivial⟩
  · refine contract_of ty_ok [3, 4, 5, 6, 7] Try.func60 rfl (by decide) Try.ntmps60 rfl fun z => ?_
    refine run 400 rfl ?_
    refine at_false 15 rfl (by rw [hk]; rfl) ?_
    refine run 400 rfl ?_
    refine at_ifd rfl (fun q2 => by omega) (fun _ => ?_)
    refine run 400 rfl ?_
    refine at_drawn 19 rfl rfl [(2, .no)] [20, 21, 22] rfl (by rw [hk]; rfl) ?_
    refine run 400 rfl ?_
    refine at_if rfl (fun q2 => by rw [hk] at q2; cases q2) (fun _ => ?_)
    refine run 400 rfl ?_
    refine at_if rfl (fun q2 => by rw [hk] at q2; cases q2) (fun _ => ?_)
    refine run 400 rfl ?_
    refine at_callF [0, 1] (ha) rfl ⟨rfl, rfl, trivial⟩ rfl rfl rfl ?_
    refine run 400 rfl ?_
    refine at_callF [0, 1] (at_no_fn l res c r m.b (by simpa using hb)) rfl ⟨rfl, rfl, trivial⟩ rfl rfl rfl ?_
    refine run 400 rfl ?_
    refine at_true 77 rfl (by rw [hk]; rfl) ?_
    refine run 400 rfl ?_
    exact at_ret rfl rfl (rsO l res c r) ⟨rfl, rfl⟩ ⟨rfl, rfl, trivial⟩
theorem one_mac_no2 (l res : List Tm) (c r : Nat) (m : Mv) (hk : m.k = 8) (h : inF m.a res.length = true) (hb : inF m.b res.length = false) : Contract Try.prog 60 2 (rsO l res c r) [.ptr 0 0, m.sv] fun s post => s = .tup [zSV, I 8] ∧ post = rsO l res c r := by
  have ha := at_yes_fn l res c r m.a h
  have hc := at_no_fn l res c r m.b hb
  generalize res.getD m.a.toNat .zero = u at ha
  refine contract_of ty_ok [3, 4, 5, 6, 7] Try.func60 rfl (by decide) Try.ntmps60 rfl fun z => ?_
  refine run 400 rfl ?_
  refine at_false 15 rfl (by rw [hk]; rfl) ?_
  refine run 400 rfl ?_
  refine at_ifd rfl (fun q2 => by omega) (fun _ => ?_)
  refine run 400 rfl ?_
  refine at_drawn 19 rfl rfl [(2, .no)] [20, 21, 22] rfl (by rw [hk]; rfl) ?_
  refine run 400 rfl ?_
  refine at_if rfl (fun q2 => by rw [hk] at q2; cases q2) (fun _ => ?_)
  refine run 400 rfl ?_
  refine at_if rfl (fun q2 => by rw [hk] at q2; cases q2) (fun _ => ?_)
  refine run 400 rfl ?_
  refine at_callF [0, 1] (ha) rfl ⟨rfl, rfl, trivial⟩ rfl rfl rfl ?_
  refine run 400 rfl ?_
  refine at_callF [0, 1] (hc) rfl ⟨rfl, rfl, trivial⟩ rfl rfl rfl ?_
  refine run 400 rfl ?_
  refine at_true 77 rfl (by rw [hk]; rfl) ?_
  refine run 400 rfl ?_
  exact at_ret rfl rfl (rsO l res c r) ⟨rfl, rfl⟩ ⟨rfl, rfl, trivial⟩
theorem one_sig (l res : List Tm) (c r : Nat) (m : Mv) (hk : m.k = 9) (h : inF m.a res.length = true) (hb : inF m.b res.length = true) : Contract Try.prog 60 2 (rsO l res c r) [.ptr 0 0, m.sv] fun s post => s = .tup [(Tm.mk 6 0 .empty [res.getD m.a.toNat .zero, res.getD m.b.toNat .zero]).sv, I 0] ∧ post = rsO l res c r := by
  have ha := at_yes_fn l res c r m.a h
  have hc := at_yes_fn l res c r m.b hb
  generalize res.getD m.a.toNat .zero = u at ha
  generalize res.getD m.b.toNat .zero = v at hc
  refine contract_of ty_ok [3, 4, 5, 6, 7] Try.func60 rfl (by decide) Try.ntmps60 rfl fun z => ?_
  refine run 400 rfl ?_
  refine at_false 15 rfl (by rw [hk]; rfl) ?_
  refine run 400 rfl ?_
  refine at_ifd rfl (fun q2 => by omega) (fun _ => ?_)
  refine run 400 rfl ?_
  refine at_drawn 19 rfl rfl [(2, .no)] [20, 21, 22] rfl (by rw [hk]; rfl) ?_
  refine run 400 rfl ?_
  refine at_if rfl (fun q2 => by rw [hk] at q2; cases q2) (fun _ => ?_)
  refine run 400 rfl ?_
  refine at_if rfl (fun q2 => by rw [hk] at q2; cases q2) (fun _ => ?_)
  refine run 400 rfl ?_
  refine at_callF [0, 1] (ha) rfl ⟨rfl, rfl, trivial⟩ rfl rfl rfl ?_
  refine run 400 rfl ?_
  refine at_callF [0, 1] (hc) rfl ⟨rfl, rfl, trivial⟩ rfl rfl rfl ?_
  refine run 400 rfl ?_
  refine at_false 77 rfl (by rw [hk]; rfl) ?_
  refine run 400 rfl ?_
  refine at_true 82 rfl (by rw [hk]; rfl) ?_
  refine run 400 rfl ?_
  refine at_if rfl (fun q2 => by rw [hk] at q2; cases q2) (fun _ => ?_)
  refine run 400 rfl ?_
  refine at_if rfl (fun q2 => by rw [hk] at q2; cases q2) (fun _ => ?_)
  refine run 400 rfl ?_
  refine at_if rfl (fun q2 => by rw [hk] at q2; cases q2) (fun _ => ?_)
  refine run 400 rfl ?_
  refine at_if rfl (fun q2 => by rw [hk] at q2; cases q2) (fun _ => ?_)
  refine run 400 rfl ?_
  refine at_if rfl (fun q2 => by rw [hk] at q2; cases q2) (fun _ => ?_)
  refine run 400 rfl ?_
  refine at_if rfl (fun q2 => by rw [hk] at q2; cases q2) (fun _ => ?_)
  refine run 400 rfl ?_
  refine at_if rfl (fun _ => ?_) (fun q2 => by rw [hk] at q2; cases q2)
  refine run 400 rfl ?_
  refine at_gro (.tl 4 [tr u, tr v]) (doesG_build ty_ok _ rfl ⟨⟨rfl, rfl, _, rfl, SVles.refl _⟩, ⟨rfl, rfl, _, rfl, SVles.refl _⟩, trivial⟩ rfl rfl (by decide)) ?_
  refine run 400 rfl ?_
  refine at_fn (T2_fn 6 u v) rfl ?_
  refine run 400 rfl ?_
  exact at_ret rfl rfl (rsO l res c r) ⟨rfl, rfl⟩ ⟨rfl, rfl, trivial⟩
theorem one_sig_no (l res : List Tm) (c r : Nat) (m : Mv) (hk : m.k = 9) (h : inF m.a res.length = false) : Contract Try.prog 60 2 (rsO l res c r) [.ptr 0 0, m.sv] fun s post => s = .tup [zSV, I 8] ∧ post = rsO l res c r := by
  have ha := at_no_fn l res c r m.a h
  by_cases hb : inF m.b res.length = true
  · refine contract_of ty_ok [3, 4, 5, 6, 7] Try.func60 rfl (by decide) Try.ntmps60 rfl fun z => ?_
    refine run 400 rfl ?_
    refine at_false 15 rfl (by rw [hk]; rfl) ?_
    refine run 400 rfl ?_
    refine at_ifd rfl (fun q2 => by omega) (fun _ => ?_)
    refine run 400 rfl ?_
    refine at_drawn 19 rfl rfl [(2, .no)] [20, 21, 22] rfl (by rw [hk]; rfl) ?_
    refine run 400 rfl ?_
    refine at_if rfl (fun q2 => by rw [hk] at q2; cases q2) (fun _ => ?_)
    refine run 400 rfl ?_
    refine at_if rfl (fun q2 => by rw [hk] at q2; cases q2) (fun _ => ?_)
    refine run 400 rfl ?_
    refine at_callF [0, 1] (ha) rfl ⟨rfl, rfl, trivial⟩ rfl rfl rfl ?_
    refine run 400 rfl ?_
    refine at_callF [0, 1] (at_yes_fn l res c r m.b hb) rfl ⟨rfl, rfl, trivial⟩ rfl rfl rfl ?_
    refine run 400 rfl ?_
    refine at_false 77 rfl (by rw [hk]; rfl) ?_
    refine run 400 rfl ?_
    refine at_true 82 rfl (by rw [hk]; rfl) ?_
    refine run 400 rfl ?_
    exact at_ret rfl rfl (rsO l res c r) ⟨rfl, rfl⟩ ⟨rfl, rfl, trivial⟩
  · refine contract_of ty_ok [3, 4, 5, 6, 7] Try.func60 rfl (by decide) Try.ntmps60 rfl fun z => ?_
    refine run 400 rfl ?_
    refine at_false 15 rfl (by rw [hk]; rfl) ?_
    refine run 400 rfl ?_
    refine at_ifd rfl (fun q2 => by omega) (fun _ => ?_)
    refine run 400 rfl ?_
    refine at_drawn 19 rfl rfl [(2, .no)] [20, 21, 22] rfl (by rw [hk]; rfl) ?_
    refine run 400 rfl ?_
    refine at_if rfl (fun q2 => by rw [hk] at q2; cases q2) (fun _ => ?_)
    refine run 400 rfl ?_
    refine at_if rfl (fun q2 => by rw [hk] at q2; cases q2) (fun _ => ?_)
    refine run 400 rfl ?_
    refine at_callF [0, 1] (ha) rfl ⟨rfl, rfl, trivial⟩ rfl rfl rfl ?_
    refine run 400 rfl ?_
    refine at_callF [0, 1] (at_no_fn l res c r m.b (by simpa using hb)) rfl ⟨rfl, rfl, trivial⟩ rfl rfl rfl ?_
    refine run 400 rfl ?_
    refine at_false 77 rfl (by rw [hk]; rfl) ?_
    refine run 400 rfl ?_
    refine at_true 82 rfl (by rw [hk]; rfl) ?_
    refine run 400 rfl ?_
    exact at_ret rfl rfl (rsO l res c r) ⟨rfl, rfl⟩ ⟨rfl, rfl, trivial⟩
theorem one_sig_no2 (l res : List Tm) (c r : Nat) (m : Mv) (hk : m.k = 9) (h : inF m.a res.length = true) (hb : inF m.b res.length = false) : Contract Try.prog 60 2 (rsO l res c r) [.ptr 0 0, m.sv] fun s post => s = .tup [zSV, I 8] ∧ post = rsO l res c r := by
  have ha := at_yes_fn l res c r m.a h
  have hc := at_no_fn l res c r m.b hb
  generalize res.getD m.a.toNat .zero = u at ha
  refine contract_of ty_ok [3, 4, 5, 6, 7] Try.func60 rfl (by decide) Try.ntmps60 rfl fun z => ?_
  refine run 400 rfl ?_
  refine at_false 15 rfl (by rw [hk]; rfl) ?_
  refine run 400 rfl ?_
  refine at_ifd rfl (fun q2 => by omega) (fun _ => ?_)
  refine run 400 rfl ?_
  refine at_drawn 19 rfl rfl [(2, .no)] [20, 21, 22] rfl (by rw [hk]; rfl) ?_
  refine run 400 rfl ?_
  refine at_if rfl (fun q2 => by rw [hk] at q2; cases q2) (fun _ => ?_)
  refine run 400 rfl ?_
  refine at_if rfl (fun q2 => by rw [hk] at q2; cases q2) (fun _ => ?_)
  refine run 400 rfl ?_
  refine at_callF [0, 1] (ha) rfl ⟨rfl, rfl, trivial⟩ rfl rfl rfl ?_
  refine run 400 rfl ?_
  refine at_callF [0, 1] (hc) rfl ⟨rfl, rfl, trivial⟩ rfl rfl rfl ?_
  refine run 400 rfl ?_
  refine at_false 77 rfl (by rw [hk]; rfl) ?_
  refine run 400 rfl ?_
  refine at_true 82 rfl (by rw [hk]; rfl) ?_
  refine run 400 rfl ?_
  exact at_ret rfl rfl (rsO l res c r) ⟨rfl, rfl⟩ ⟨rfl, rfl, trivial⟩
theorem one_pair (l res : List Tm) (c r : Nat) (m : Mv) (hk : m.k = 10) (h : inF m.a res.length = true) (hb : inF m.b res.length = true) : Contract Try.prog 60 2 (rsO l res c r) [.ptr 0 0, m.sv] fun s post => s = .tup [(Tm.mk 7 0 .empty [res.getD m.a.toNat .zero, res.getD m.b.toNat .zero]).sv, I 0] ∧ post = rsO l res c r := by
  have ha := at_yes_fn l res c r m.a h
  have hc := at_yes_fn l res c r m.b hb
  generalize res.getD m.a.toNat .zero = u at ha
  generalize res.getD m.b.toNat .zero = v at hc
  refine contract_of ty_ok [3, 4, 5, 6, 7] Try.func60 rfl (by decide) Try.ntmps60 rfl fun z => ?_
  refine run 400 rfl ?_
  refine at_false 15 rfl (by rw [hk]; rfl) ?_
  refine run 400 rfl ?_
  refine at_ifd rfl (fun q2 => by omega) (fun _ => ?_)
  refine run 400 rfl ?_
  refine at_drawn 19 rfl rfl [(2, .no)] [20, 21, 22] rfl (by rw [hk]; rfl) ?_
  refine run 400 rfl ?_
  refine at_if rfl (fun q2 => by rw [hk] at q2; cases q2) (fun _ => ?_)
  refine run 400 rfl ?_
  refine at_if rfl (fun q2 => by rw [hk] at q2; cases q2) (fun _ => ?_)
  refine run 400 rfl ?_
  refine at_callF [0, 1] (ha) rfl ⟨rfl, rfl, trivial⟩ rfl rfl rfl ?_
  refine run 400 rfl ?_
  refine at_callF [0, 1] (hc) rfl ⟨rfl, rfl, trivial⟩ rfl rfl rfl ?_
  refine run 400 rfl ?_
  refine at_false 77 rfl (by rw [hk]; rfl) ?_
  refine run 400 rfl ?_
  refine at_false 82 rfl (by rw [hk]; rfl) ?_
  refine run 400 rfl ?_
  refine at_true 91 rfl (by rw [hk]; rfl) ?_
  refine run 400 rfl ?_
  refine at_if rfl (fun q2 => by rw [hk] at q2; cases q2) (fun _ => ?_)
  refine run 400 rfl ?_
  refine at_if rfl (fun q2 => by rw [hk] at q2; cases q2) (fun _ => ?_)
  refine run 400 rfl ?_
  refine at_if rfl (fun q2 => by rw [hk] at q2; cases q2) (fun _ => ?_)
  refine run 400 rfl ?_
  refine at_if rfl (fun q2 => by rw [hk] at q2; cases q2) (fun _ => ?_)
  refine run 400 rfl ?_
  refine at_if rfl (fun q2 => by rw [hk] at q2; cases q2) (fun _ => ?_)
  refine run 400 rfl ?_
  refine at_if rfl (fun q2 => by rw [hk] at q2; cases q2) (fun _ => ?_)
  refine run 400 rfl ?_
  refine at_if rfl (fun q2 => by rw [hk] at q2; cases q2) (fun _ => ?_)
  refine run 400 rfl ?_
  refine at_gro (.tl 4 [tr u, tr v]) (doesG_build ty_ok _ rfl ⟨⟨rfl, rfl, _, rfl, SVles.refl _⟩, ⟨rfl, rfl, _, rfl, SVles.refl _⟩, trivial⟩ rfl rfl (by decide)) ?_
  refine run 400 rfl ?_
  refine at_fn (T2_fn 7 u v) rfl ?_
  refine run 400 rfl ?_
  exact at_ret rfl rfl (rsO l res c r) ⟨rfl, rfl⟩ ⟨rfl, rfl, trivial⟩
theorem one_pair_no (l res : List Tm) (c r : Nat) (m : Mv) (hk : m.k = 10) (h : inF m.a res.length = false) : Contract Try.prog 60 2 (rsO l res c r) [.ptr 0 0, m.sv] fun s post => s = .tup [zSV, I 8] ∧ post = rsO l res c r := by
  have ha := at_no_fn l res c r m.a h
  by_cases hb : inF m.b res.length = true
  · refine contract_of ty_ok [3, 4, 5, 6, 7] Try.func60 rfl (by decide) Try.ntmps60 rfl fun z => ?_
    refine run 400 rfl ?_
    refine at_false 15 rfl (by rw [hk]; rfl) ?_
    refine run 400 rfl ?_
    refine at_ifd rfl (fun q2 => by omega) (fun _ => ?_)
    refine run 400 rfl ?_
    refine at_drawn 19 rfl rfl [(2, .no)] [20, 21, 22] rfl (by rw [hk]; rfl) ?_
    refine run 400 rfl ?_
    refine at_if rfl (fun q2 => by rw [hk] at q2; cases q2) (fun _ => ?_)
    refine run 400 rfl ?_
    refine at_if rfl (fun q2 => by rw [hk] at q2; cases q2) (fun _ => ?_)
    refine run 400 rfl ?_
    refine at_callF [0, 1] (ha) rfl ⟨rfl, rfl, trivial⟩ rfl rfl rfl ?_
    refine run 400 rfl ?_
    refine at_callF [0, 1] (at_yes_fn l res c r m.b hb) rfl ⟨rfl, rfl, trivial⟩ rfl rfl rfl ?_
    refine run 400 rfl ?_
    refine at_false 77 rfl (by rw [hk]; rfl) ?_
    refine run 400 rfl ?_
    refine at_false 82 rfl (by rw [hk]; rfl) ?_
    refine run 400 rfl ?_
    refine at_true 10 rfl (by rw [hk]; rfl) ?_
    refine run 400 rfl ?_
    exact at_ret rfl rfl (rsO l res c r) ⟨rfl, rfl⟩ ⟨rfl, rfl, trivial⟩
  · refine contract_of ty_ok [3, 4, 5, 6, 7] Try.func60 rfl (by decide) Try.ntmps60 rfl fun z => ?_
    refine run 400 rfl ?_
    refine at_false 15 rfl (by rw [hk]; rfl) ?_
    refine run 400 rfl ?_
    refine at_ifd rfl (fun q2 => by omega) (fun _ => ?_)
    refine run 400 rfl ?_
    refine at_drawn 19 rfl rfl [(2, .no)] [20, 21, 22] rfl (by rw [hk]; rfl) ?_
    refine run 400 rfl ?_
    refine at_if rfl (fun q2 => by rw [hk] at q2; cases q2) (fun _ => ?_)
    refine run 400 rfl ?_
    refine at_if rfl (fun q2 => by rw [hk] at q2; cases q2) (fun _ => ?_)
    refine run 400 rfl ?_
    refine at_callF [0, 1] (ha) rfl ⟨rfl, rfl, trivial⟩ rfl rfl rfl ?_
    refine run 400 rfl ?_
    refine at_callF [0, 1] (at_no_fn l res c r m.b (by simpa using hb)) rfl ⟨rfl, rfl, trivial⟩ rfl rfl rfl ?_
    refine run 400 rfl ?_
    refine at_false 77 rfl (by rw [hk]; rfl) ?_
    refine run 400 rfl ?_
    refine at_false 82 rfl (by rw [hk]; rfl) ?_
    refine run 400 rfl ?_
    refine at_true 10 rfl (by rw [hk]; rfl) ?_
    refine run 400 rfl ?_
    exact at_ret rfl rfl (rsO l res c r) ⟨rfl, rfl⟩ ⟨rfl, rfl, trivial⟩
theorem one_pair_no2 (l res : List Tm) (c r : Nat) (m : Mv) (hk : m.k = 10) (h : inF m.a res.length = true) (hb : inF m.b res.length = false) : Contract Try.prog 60 2 (rsO l res c r) [.ptr 0 0, m.sv] fun s post => s = .tup [zSV, I 8] ∧ post = rsO l res c r := by
  have ha := at_yes_fn l res c r m.a h
  have hc := at_no_fn l res c r m.b hb
  generalize res.getD m.a.toNat .zero = u at ha
  refine contract_of ty_ok [3, 4, 5, 6, 7] Try.func60 rfl (by decide) Try.ntmps60 rfl fun z => ?_
  refine run 400 rfl ?_
  refine at_false 15 rfl (by rw [hk]; rfl) ?_
  refine run 400 rfl ?_
  refine at_ifd rfl (fun q2 => by omega) (fun _ => ?_)
  refine run 400 rfl ?_
  refine at_drawn 19 rfl rfl [(2, .no)] [20, 21, 22] rfl (by rw [hk]; rfl) ?_
  refine run 400 rfl ?_
  refine at_if rfl (fun q2 => by rw [hk] at q2; cases q2) (fun _ => ?_)
  refine run 400 rfl ?_
  refine at_if rfl (fun q2 => by rw [hk] at q2; cases q2) (fun _ => ?_)
  refine run 400 rfl ?_
  refine at_callF [0, 1] (ha) rfl ⟨rfl, rfl, trivial⟩ rfl rfl rfl ?_
  refine run 400 rfl ?_
  refine at_callF [0, 1] (hc) rfl ⟨rfl, rfl, trivial⟩ rfl rfl rfl ?_
  refine run 400 rfl ?_
  refine at_false 77 rfl (by rw [hk]; rfl) ?_
  refine run 400 rfl ?_
  refine at_false 82 rfl (by rw [hk]; rfl) ?_
  refine run 400 rfl ?_
  refine at_true 91 rfl (by rw [hk]; rfl) ?_
  refine run 400 rfl ?_
  exact at_ret rfl rfl (rsO l res c r) ⟨rfl, rfl⟩ ⟨rfl, rfl, trivial⟩
end Go.Proofs.Ytmnmhehddbemkaa
