/- The texts GroS, W7a, M1, L2, P1, Q1, Q2, Own3, Stage, Slc, one behind the other: an executor over the translated code, contracts of functions, and their laws. -/
import Derived.Lib.AppendStr
import Derived.Test.YtmnmhehddbemkaaKnowC6
/- The proof engine: a text's bytes behind a list of bytes; a call that uses up a token, in a plan. -/
namespace Go.Eng
open Go.Lib (strCells strCells_length strCells_oneCell run_firstCells_string run_append_grow_string)

/-- The bytes of a text. -/
def bytesI (s : ByteArray) : List Int := s.data.toList.map fun b => (b.toNat : Int)
theorem bytesI_len (s : ByteArray) : (bytesI s).length = s.size := by
  rw [bytesI, List.length_map, Array.length_toList]; rfl
theorem strCells_bytes (s : ByteArray) : strCells s = (bytesI s).map (Value.int .u8) := by
  simp [strCells, bytesI, Function.comp_def]
theorem flat_bytes_mk {H : Hp} : ∀ ns : List Int, DenF H 1 (bytesR ns) (ns.map (Value.int .u8))
  | [] => rfl
  | n :: ns => ⟨[.int .u8 n], _, rfl, ⟨rfl, trivial⟩, rfl, flat_bytes_mk ns⟩

theorem run_append_room_offS {P : Program} (w : World) (t u ty e : TypeId) (i : TypeInfo) (ht : P.underlying t = some (.slice e)) (hu : P.underlying u = some .string) (hi : P.info? e = some i) (hs1 : i.size = 1) (e' : TypeId)
    (g off sLen sCap : Nat) (cur : Array Value) (hg : w.heap[g]? = some (.cells cur e' (0, 0))) (s : ByteArray)
    (hroom : sLen + s.size ≤ sCap) (hfit : off + sLen + s.size ≤ cur.size) :
    (Builtin.append_ #[t, u] ty #[.slice (some ⟨g, off, none⟩) sLen sCap, .string s]).run P w =
      .ok (.slice (some ⟨g, off, none⟩) (sLen + s.size) sCap) (w.setRow g (splice (strCells s) (off + sLen) cur.toList).toArray) := by
  have hf := run_firstCells_string (P := P) w 1 s
  have hst := run_storeCells_at P g (off + sLen) e' (strCells s) 0 cur w hg (by simpa [strCells_length] using hfit) (strCells_oneCell s)
  simp only [Nat.add_zero, strCells_length] at hst
  simp [Builtin.append_, run_underlying ht, run_underlying hu, sizeOf, typeInfo, hi, hs1, Builtin.lenOf, hroom, hf, Addr.add_lit, hst, splice, strCells_length]

section
variable {P : Program} {env : List (Nat × SV)} {own : List (Nat × SO)}

theorem doesU_appendStr {T : Nat → TI} (hT : ∀ t, T t = tiOf P t) {o : Oper} {t u k : Nat} {x y : Operand} {xs : List Int} {str : ByteArray} {c : Call} (ho : o.op = .call c) (hcl : c.callee = .builtin .append) (ha : c.args = #[x, y]) (hat : c.argTypes = #[t, u]) (hx : ev env x = .gl k 1 (bytesR xs)) (hy : ev env y = .str str)
    (hu : (T u).kd = .str) (hkT : lstT T t 1 = true) (hl : ((xs.length + str.size : Nat) : Int) ≤ 9223372036854775807) (hb : (xs.length + str.size) * (T (T t).elem).bytes ≤ 140737488355328) : DoesU P o env own k 1 (bytesR (xs ++ bytesI str)) := by
  obtain ⟨hk, hz, hk2, hz2, hz0⟩ := lstT_spec hT hkT
  rw [hT (T t).elem, hT t] at hb
  rw [hT] at hu
  have hxl : (bytesR xs).length = xs.length := by simp
  have happ : bytesR (xs ++ bytesI str) = bytesR xs ++ bytesR (bytesI str) := by simp
  have hsl : (bytesR (bytesI str)).length = str.size := by rw [List.length_map, bytesI_len]
  rw [happ]
  generalize bytesR xs = X at hx hxl ⊢
  intro cx g H n own' own2 env' a w hd hd' htok hless
  obtain ⟨i1, h1⟩ := slice_ti hk
  obtain ⟨i2, d2, h2⟩ := ti_spec hk2
  have hus : P.underlying u = some .string := by
    obtain ⟨i, d, hs, e⟩ := und_kd (P := P) hu (by simp)
    cases d <;> simp [kdOf] at e
    exact hs.und
  obtain ⟨z, hz3, hz4⟩ := zero_spec h2 hz2
  have hzs : z.cells.size = 1 := by rw [← hz0, hz4, Array.length_toList]
  have hsz : 1 = i2.size := by rw [← hz, h2.size]
  rw [h2.bytes] at hb
  have ex := hd.ev x
  rw [hx] at ex
  obtain ⟨⟨ad, c1, e1, hc1, hn1, hp1⟩, eg⟩ := ex
  obtain ⟨ad', n', c', eg', ht1, ht2, ht3⟩ := hd'.ok k _ htok
  rw [← eg, e1] at eg'
  simp only [Value.slice.injEq] at eg'
  obtain ⟨rfl, rfl, rfl⟩ := eg'
  have e2 : a.eval y = .string str := by have := hd.ev y; rw [hy] at this; exact this
  have hf2 : DenF H 1 (bytesR (bytesI str)) (strCells str) := by rw [strCells_bytes]; exact flat_bytes_mk _
  have hrun : ∀ v w', (Builtin.append_ #[t, u] o.type #[a.eval x, a.eval y]).run P w = .ok v w' → (execOp a.eval o).run P w = .ok (.value v) w' := by
    intro v w' h
    simp only [execOp, ho, resolve, hcl, ha, hat]
    simp [invoke, builtin, h]
  have hd2 := hd'.lessO hless
  have hother : ∀ p, ad = some p → X.length < c1 → ∀ j o, ownq own' j = some o → j ≠ k → blkOf (g j) ≠ some p.block := by
    intro p hp hlt j o hj hne e
    refine hne (hd'.inj j k (by rw [hj]; rfl) (by rw [htok]; rfl) p.block e ?_)
    rw [← eg, e1, hp]
    simp [blkOf, Nat.blt_eq.mpr hlt]
  have hnl := strCells_length str
  cases had : ad with
  | none =>
    obtain ⟨e3, e4⟩ := hn1 had
    subst e3; subst e4
    have hx0 : xs.length = 0 := by rw [← hxl]; rfl
    by_cases h0 : str.size = 0
    · have hnil : bytesR (bytesI str) = [] := List.length_eq_zero_iff.1 (by rw [hsl, h0])
      refine ⟨.slice none 0 0, w, H, hrun _ _ ?_, ?_, hd2, ?_⟩
      · rw [e1, e2, had]
        simp [Builtin.append_, run_underlying h1.und, run_underlying hus, sizeOf, typeInfo, h2.info, Builtin.lenOf, Builtin.firstCells, h0]
      · rw [hnil]
        exact ⟨none, 0, rfl, Nat.le_refl _, fun _ => ⟨rfl, rfl⟩, fun p hp => by cases hp⟩
      · exact ⟨none, 0, 0, rfl, fun _ => ⟨rfl, rfl⟩, Nat.le_refl _, fun p hp => by cases hp⟩
    have hr := run_append_nil_string (P := P) w t u o.type _ i2 z h1.und hus h2.info hz3 str (by omega) (by omega) (by rw [hx0, Nat.zero_add] at hb; omega)
    have hcells : (str.data.map (fun b => Value.int .u8 b.toNat)) = (strCells str).toArray := by
      apply Array.ext'
      simp [strCells]
    rw [hcells] at hr
    obtain ⟨hd3, hv⟩ := laid_append hd2 (tiOf P t).elem (Builtin.zeroCells z.cells (grownCap w str.size 0 (tiOf P t).elem - str.size)) hf2 (grownCap w str.size 0 (tiOf P t).elem) (by rw [hsl]; exact grownCap_ge _ _ _ _)
    have hsp := (laid_spare (w := w) (tiOf P t).elem z.cells hzs hf2 (grownCap w str.size 0 (tiOf P t).elem) (by rw [hsl]; exact grownCap_ge _ _ _ _) (fun b => w.heap.size ≤ b) (Nat.le_refl _)).mono fun b hb => hd2.new_ok hb
    rw [hsl] at hsp hv
    refine ⟨_, _, _, hrun _ _ ?_, hv, hd3, hsp⟩
    rw [e1, e2, had]
    exact hr
  | some p =>
    obtain ⟨hp3, hp4⟩ := hp1 p had
    by_cases hroom : X.length + str.size ≤ c1
    · by_cases h00 : X.length < c1
      · obtain ⟨t1, t2, cs, ty, t3, t4, t5⟩ := ht3 p had h00
        obtain ⟨b, off, spot⟩ := p
        simp only at t1 t2 t3 t4 t5
        subst t1
        have hfit : off + X.length * 1 + (strCells str).length ≤ cs.size := by rw [hnl]; omega
        have hr := run_append_room_offS (P := P) w t u o.type _ i2 h1.und hus h2.info hsz.symm ty b off X.length c1 cs t3 str hroom (by rw [hnl] at hfit; omega)
        have hd3 := hd'.fill (q := off + X.length) (strCells str) hless (fun j o hj hne => hother _ had h00 j o hj hne) t2 t3 (fun j hj => t5 j (by omega)) (by omega)
        have hle := Hp.add_le (q := off + X.length) (fun j hj => t5 j (by omega)) (strCells str)
        have hlen : (X ++ bytesR (bytesI str)).length = X.length + str.size := by rw [List.length_append, hsl]
        refine ⟨_, _, _, hrun _ _ (by rw [e1, e2, had]; exact hr), ⟨some ⟨b, off, none⟩, c1, by rw [hlen], by rw [hlen]; exact hroom, fun e => (by cases e), fun p hp => ?_⟩, hd3,
          some ⟨b, off, none⟩, _, c1, rfl, fun e => (by cases e), hroom, fun p hp hlt => ?_⟩
        · simp only [Option.some.injEq] at hp
          subst hp
          refine ⟨.inr rfl, ?_⟩
          obtain ⟨ov, hf1, hc4⟩ := hp4.flat
          refine (hf1.append hf2 |>.mono hle).rs fun j v hj => ?_
          have hol := hf1.length
          by_cases hjl : j < ov.length
          · rw [List.getElem?_append_left hjl] at hj
            exact hle _ _ _ (hc4 j v hj)
          · rw [List.getElem?_append_right (by omega)] at hj
            have := Hp.add_at H b (off + X.length) (strCells str) hj
            rw [show off + X.length + (j - ov.length) = off + j from by omega] at this
            exact this
        · simp only [Option.some.injEq] at hp
          subst hp
          refine ⟨rfl, ⟨t2, fun j o hj => hother _ had h00 j o (hless j o hj).2 (hless j o hj).1⟩, _, ty, setRow_heap w b cs _ ty (0, 0) t3, ?_, fun j hj => ?_⟩
          · rw [List.size_toArray, splice_length (by simp only [Array.length_toList]; omega), Array.length_toList]
            exact t4
          · rw [Hp.add_out _ _ _ _ (.inr (by rw [hnl]; simp only at hj ⊢; omega))]
            exact t5 j (by simp only at hj ⊢; omega)
      · have h0 : str.size = 0 := by omega
        have hnil : bytesR (bytesI str) = [] := List.length_eq_zero_iff.1 (by rw [hsl, h0])
        have hcx : X.length = c1 := by omega
        refine ⟨.slice (some p) X.length c1, w, H, hrun _ _ ?_, ?_, hd2, ?_⟩
        · rw [e1, e2, had]
          simp [Builtin.append_, run_underlying h1.und, run_underlying hus, sizeOf, typeInfo, h2.info, Builtin.lenOf, Builtin.firstCells, h0, storeCells, hcx]
        · rw [hnil, List.append_nil]
          exact ⟨some p, c1, rfl, hc1, fun e => (by cases e), fun q hq => by
            simp only [Option.some.injEq] at hq; subst hq; exact ⟨hp3, hp4⟩⟩
        · exact ⟨some p, _, c1, rfl, fun e => (by cases e), hc1, fun q hq hlt => absurd hlt h00⟩
    · obtain ⟨ov, hf1, hc4⟩ := hp4.flat
      have hol := hf1.length
      have holds : ∀ (j : Nat) (v : Value), ov[j]? = some v → w.cell? (p.add j) = some v := by
        intro j v hj
        have hp3 : p.spot = none := hp3.resolve_left fun e => by subst e; rw [show ov = [] from hf1] at hj; simp at hj
        obtain ⟨b, off, spot⟩ := p
        simp only at hp3
        subst hp3
        rw [addr_add]
        exact hd.hp _ _ _ (hc4 j v hj)
      have hr := run_append_grow_string (P := P) w t u o.type _ i2 z h1.und hus h2.info hz3 p X.length c1 ov (by rw [hol, hsz]) holds str (by omega) (by rw [hxl]; exact hl) (growslice_fits (by omega) (by rw [hxl]; exact hb))
      have hlen : (X ++ bytesR (bytesI str)).length = X.length + str.size := by rw [List.length_append, hsl]
      obtain ⟨hd3, hv⟩ := laid_append hd2 (tiOf P t).elem (Builtin.zeroCells z.cells (grownCap w (X.length + str.size) c1 (tiOf P t).elem - (X.length + str.size))) (hf1.append hf2) (grownCap w (X.length + str.size) c1 (tiOf P t).elem) (by rw [hlen]; exact grownCap_ge _ _ _ _)
      have e5 : (ov ++ strCells str).toArray = ov.toArray ++ (strCells str).toArray := by simp
      have hsp := (laid_spare (w := w) (tiOf P t).elem z.cells hzs (hf1.append hf2) (grownCap w (X.length + str.size) c1 (tiOf P t).elem) (by rw [hlen]; exact grownCap_ge _ _ _ _) (fun b => w.heap.size ≤ b) (Nat.le_refl _)).mono fun b hb => hd2.new_ok hb
      rw [e5] at hd3 hsp
      rw [hlen] at hsp hv
      refine ⟨_, _, _, hrun _ _ ?_, hv, hd3, hsp⟩
      rw [e1, e2, had]
      exact hr

end
end Go.Eng
namespace Go.Proofs.Ytmnmhehddbemkaa
open Go Go.Eng
set_option maxRecDepth 100000

mutual
/-- The bytes of a term. -/
def encT : Tm → List Int
  | .mk k n s l => [k] ++ (if k = 1 then numB s.size 2 ++ bytesI s else if k = 2 then numB n 4 else []) ++ encL l
def encL : List Tm → List Int
  | [] => []
  | t :: l => encT t ++ encL l
end
theorem numB_len (v : Int) (n : Nat) : (numB v n).length = n := by simp [numB]
/-- What stands behind the kind. -/
def midT (k n : Int) (s : ByteArray) : List Int := if k = 1 then numB s.size 2 ++ bytesI s else if k = 2 then numB n 4 else []
theorem encT_eq (k n : Int) (s : ByteArray) (l : List Tm) : encT (.mk k n s l) = [k] ++ midT k n s ++ encL l := by rw [encT, midT]

theorem kidsF_k {k : Int} (h : 0 ≤ kidsF k) : 1 ≤ k ∧ k ≤ 7 := by
  unfold kidsF at h
  repeat (first | omega | (split at h))
theorem Gd.ks {k n : Int} {s : ByteArray} {l : List Tm} (h : Gd (.mk k n s l)) : (l.length : Int) = kidsF k ∧ ∀ t ∈ l, Gd t := by
  cases h with
  | mk h1 h2 => exact ⟨h1, h2⟩

theorem puts_fn : ∀ (t : Tm), Gd t → ∀ b : List Int, b.length + (encT t).length ≤ 1000000 → Contract Try.prog 104 1 [(0, .tok 1)] [.gl 0 1 (bytesR b), t.sv] fun s post => s = .gl 1 1 (bytesR (b ++ encT t)) ∧ post = [(1, .tok 1)] := by
  intro t
  induction t using Tm.ind with
  | h k n s l ih =>
    intro hsm b hb
    have hL := hsm.ks
    have hk := kidsF_k (k := k) (by omega)
    have hl1 : l.length ≤ 2 := by have := kidsF_le k; omega
    have hk' : 1 ≤ (Tm.mk k n s l).k ∧ (Tm.mk k n s l).k ≤ 7 := hk
    have hlen0 : ((rowsT l).length : Int) = l.length := by rw [rowsT_len]
    rw [encT_eq] at hb ⊢
    rw [List.length_append, List.length_append] at hb
    have hbl : (bytesR b).length = b.length := by simp
    refine contract_of ty_ok [3, 4, 5, 6, 7] Try.func104 rfl (by decide) Try.ntmps104 rfl fun z => ?_
    refine run 400 rfl ?_
    simp only [List.length_singleton] at hb
    refine at_gro (.tl 1 (bytesR [k])) (doesG_build ty_ok _ rfl ⟨⟨rfl, rfl, _, rfl, SVles.refl _⟩, trivial⟩ rfl rfl (by decide)) ?_
    refine at_grow 0 1 1 (bytesR b ++ bytesR [k]) rfl (doesU_append ty_ok rfl rfl rfl rfl rfl rfl rfl (by rw [hbl]; simp; omega) (by rw [hbl]; show _ * 1 ≤ _; simp; omega)) rfl ?_
    rw [show bytesR b ++ bytesR [k] = bytesR (b ++ [k]) by simp]
    have hb1 : (b ++ [k]).length = b.length + 1 := by simp
    generalize hB : b ++ [k] = B at hb1
    refine run 400 rfl ?_
    refine at_join (fun _ : Unit => True) (fun _ => [(0, .gl 1 1 (bytesR (B ++ midT k n s))), (3, .ptr 3 0)]) (fun _ => [(1, .tok 1), (3, .cells 33 [I k, I n, .str s, .lst 4 (rowsT l)])]) [4, 5, 6, 7] ?_ ?_
    · refine at_if rfl (fun q => ?_) (fun q => ?_)
      · have q : k = 1 := by simpa using q
        have hm : midT k n s = numB s.size 2 ++ bytesI s := by rw [midT, if_pos q]
        rw [hm] at hb ⊢
        rw [List.length_append, numB_len, bytesI_len] at hb
        refine run 400 rfl ?_
        refine at_drawn_st 7 [1] rfl rfl [(4, .eatc 1 1 (bytesR (B ++ numB s.size 2)) none)] [20, 21] rfl (doesC_call (number_fn B s.size 2 (by omega) (by omega)) rfl) ?_
        refine at_less [(21, .gl 20 1 (bytesR (B ++ numB s.size 2))), (23, .str s), (3, .ptr 3 0)] [(20, .tok 1), (3, .cells 33 [I k, I n, .str s, .lst 4 (rowsT l)])] [4, 5, 6, 7] ⟨SVle.refl _, SVle.refl _, SVle.refl _, trivial⟩ ⟨rfl, rfl, trivial⟩ ?_
        have hl2 : (B ++ numB s.size 2).length = B.length + 2 := by rw [List.length_append, numB_len]
        refine at_grow 20 1 1 (bytesR (B ++ numB s.size 2 ++ bytesI s)) rfl (doesU_appendStr ty_ok rfl rfl rfl rfl rfl rfl rfl rfl (by omega) (by show _ * 1 ≤ _; omega)) rfl ?_
        refine run 400 rfl ?_
        exact at_joined () trivial ⟨SVle.of_eq (by show SV.gl 1 1 _ = SV.gl 1 1 _; rw [List.append_assoc]), SVle.refl _, trivial⟩ ⟨rfl, rfl, trivial⟩
      · have q : ¬ k = 1 := by simpa using q
        refine run 400 rfl ?_
        refine at_if rfl (fun q2 => ?_) (fun q2 => ?_)
        · have q2 : k = 2 := by simpa using q2
          have hm : midT k n s = numB n 4 := by rw [midT, if_neg q, if_pos q2]
          rw [hm] at hb ⊢
          rw [numB_len] at hb
          refine run 400 rfl ?_
          refine at_growF 1 1 1 (number_fn B n 4 (by omega) (by omega)) rfl rfl rfl ?_
          refine run 400 rfl ?_
          exact at_joined () trivial ⟨SVle.refl _, SVle.refl _, trivial⟩ ⟨rfl, rfl, trivial⟩
        · have q2 : ¬ k = 2 := by simpa using q2
          have hm : midT k n s = [] := by rw [midT, if_neg q, if_neg q2]
          rw [hm]
          refine run 400 rfl ?_
          exact at_joined () trivial ⟨SVle.of_eq (by show SV.gl 1 1 (bytesR B) = SV.gl 1 1 (bytesR (B ++ [])); rw [List.append_nil]), SVle.refl _, trivial⟩ ⟨rfl, rfl, trivial⟩
    · intro _ _
      have hb2 : (B ++ midT k n s).length = b.length + 1 + (midT k n s).length := by rw [List.length_append, hb1]
      have hfin : b ++ ([k] ++ midT k n s ++ encL l) = (B ++ midT k n s) ++ encL l := by rw [← hB]; simp
      rw [hfin]
      generalize B ++ midT k n s = D at hb2
      refine run 400 rfl ?_
      refine at_loop (fun p : Nat × List Int => p.1 ≤ l.length ∧ p.2 ++ encL (l.drop p.1) = D ++ encL l ∧ p.2.length + (encL (l.drop p.1)).length ≤ 1000000) (fun p => [(0, .gl 1 1 (bytesR p.2)), (32, .lst 4 (rowsT l)), (33, I (rowsT l).length), (34, I p.1)]) (fun p => [(1, .tok 1)]) (fun p => l.length - p.1) [3, 4, 5, 6, 7]
        (0, D) ⟨by dsimp only; omega, by dsimp only; rw [List.drop_zero], by dsimp only; rw [List.drop_zero]; omega⟩ ⟨SVle.refl _, SVle.refl _, SVle.refl _, SVle.refl _, trivial⟩ ⟨rfl, trivial⟩ ?_
      rintro ⟨i, q⟩ ⟨a1, a2, a3⟩
      dsimp only at a1 a2 a3
      refine run 400 rfl ?_
      refine at_ifd rfl (fun g => ?_) (fun g => ?_)
      rotate_left
      · dsimp only at g
        rw [hlen0] at g
        have e : i = l.length := by omega
        subst e
        rw [List.drop_length, encL, List.append_nil] at a2
        refine run 400 rfl ?_
        exact at_ret rfl rfl [(1, .tok 1)] ⟨by rw [← a2], rfl⟩ ⟨rfl, trivial⟩
      dsimp only at g
      rw [hlen0] at g
      have hlt : i < l.length := by omega
      have hget := rowsT_get hlt
      have hmem := getD_mem hlt
      rw [drop_getD hlt, encL] at a2 a3
      generalize l.getD i .zero = u at hget hmem a2 a3
      rw [List.length_append] at a3
      refine run 400 rfl ?_
      refine at_val (.rp (tr u) 0) (does_index ty_ok _ rfl rfl rfl (by omega) (show (rowsT l)[(i : Int).toNat]? = some (tr u) from hget) rfl) ?_
      refine run 400 rfl ?_
      refine at_growF 1 1 1 (ih u hmem (hL.2 u hmem) q (by omega)) rfl rfl rfl ?_
      refine run 400 rfl ?_
      exact at_again (i + 1, q ++ encT u) ⟨by dsimp only; omega, by dsimp only; rw [← a2, List.append_assoc], by dsimp only; rw [List.length_append]; omega⟩ (by dsimp only; omega) ⟨SVle.refl _, SVle.refl _, SVle.refl _, SVle.of_eq (by show I ((i : Int) + 1) = I ((i + 1 : Nat) : Int); rw [Int.natCast_add]; rfl), trivial⟩ ⟨rfl, trivial⟩

/-- The bytes of a term, where it is handed none. -/
theorem putsN_fn : ∀ (t : Tm), Gd t → (encT t).length ≤ 1000000 → Gives Try.prog 104 [.tl 0 [], t.sv] (.lst 1 (bytesR (encT t))) := by
  intro t hsm hb
  obtain ⟨k, n, s, l⟩ := t
  have hL := hsm.ks
  have hk := kidsF_k (k := k) (by omega)
  have hl1 : l.length ≤ 2 := by have := kidsF_le k; omega
  have hk' : 1 ≤ (Tm.mk k n s l).k ∧ (Tm.mk k n s l).k ≤ 7 := hk
  have hlen0 : ((rowsT l).length : Int) = l.length := by rw [rowsT_len]
  rw [encT_eq] at hb ⊢
  rw [List.length_append, List.length_append] at hb
  simp only [List.length_singleton] at hb
  refine contract_of ty_ok [3, 4, 5, 6, 7] Try.func104 rfl (by decide) Try.ntmps104 rfl fun z => ?_
  refine run 400 rfl ?_
  refine at_gro (.tl 1 (bytesR [k])) (doesG_build ty_ok _ rfl ⟨⟨rfl, rfl, _, rfl, SVles.refl _⟩, trivial⟩ rfl rfl (by decide)) ?_
  refine at_name 7 0 1 rfl (.inr rfl) ?_
  refine at_grow 0 1 1 ([] ++ bytesR [k]) rfl (doesU_append ty_ok rfl rfl rfl rfl rfl rfl rfl (by simp) (by show _ * 1 ≤ _; simp)) rfl ?_
  refine run 400 rfl ?_
  refine at_join (fun _ : Unit => True) (fun _ => [(0, .gl 1 1 (bytesR ([k] ++ midT k n s))), (3, .ptr 3 0)]) (fun _ => [(1, .tok 1), (3, .cells 33 [I k, I n, .str s, .lst 4 (rowsT l)])]) [4, 5, 6, 7] ?_ ?_
  · refine at_if rfl (fun q => ?_) (fun q => ?_)
    · have q : k = 1 := by simpa using q
      have hm : midT k n s = numB s.size 2 ++ bytesI s := by rw [midT, if_pos q]
      rw [hm] at hb ⊢
      rw [List.length_append, numB_len, bytesI_len] at hb
      refine run 400 rfl ?_
      refine at_drawn_st 7 [1] rfl rfl [(4, .eatc 1 1 (bytesR ([k] ++ numB s.size 2)) none)] [20, 21] rfl (doesC_call (number_fn [k] s.size 2 (by omega) (by simp)) rfl) ?_
      refine at_less [(21, .gl 20 1 (bytesR ([k] ++ numB s.size 2))), (23, .str s), (3, .ptr 3 0)] [(20, .tok 1), (3, .cells 33 [I k, I n, .str s, .lst 4 (rowsT l)])] [4, 5, 6, 7] ⟨SVle.refl _, SVle.refl _, SVle.refl _, trivial⟩ ⟨rfl, rfl, trivial⟩ ?_
      have hl2 : ([k] ++ numB s.size 2).length = 1 + 2 := by rw [List.length_append, numB_len]; rfl
      refine at_grow 20 1 1 (bytesR ([k] ++ numB s.size 2 ++ bytesI s)) rfl (doesU_appendStr ty_ok rfl rfl rfl rfl rfl rfl rfl rfl (by omega) (by show _ * 1 ≤ _; omega)) rfl ?_
      refine run 400 rfl ?_
      exact at_joined () trivial ⟨SVle.of_eq (by show SV.gl 1 1 _ = SV.gl 1 1 _; rw [List.append_assoc]), SVle.refl _, trivial⟩ ⟨rfl, rfl, trivial⟩
    · have q : ¬ k = 1 := by simpa using q
      refine run 400 rfl ?_
      refine at_if rfl (fun q2 => ?_) (fun q2 => ?_)
      · have q2 : k = 2 := by simpa using q2
        have hm : midT k n s = numB n 4 := by rw [midT, if_neg q, if_pos q2]
        rw [hm] at hb ⊢
        rw [numB_len] at hb
        refine run 400 rfl ?_
        refine at_growF 1 1 1 (number_fn [k] n 4 (by omega) (by simp)) rfl rfl rfl ?_
        refine run 400 rfl ?_
        exact at_joined () trivial ⟨SVle.refl _, SVle.refl _, trivial⟩ ⟨rfl, rfl, trivial⟩
      · have q2 : ¬ k = 2 := by simpa using q2
        have hm : midT k n s = [] := by rw [midT, if_neg q, if_neg q2]
        rw [hm]
        refine run 400 rfl ?_
        exact at_joined () trivial ⟨SVle.refl _, SVle.refl _, trivial⟩ ⟨rfl, rfl, trivial⟩
  · intro _ _
    have hb2 : ([k] ++ midT k n s).length = 1 + (midT k n s).length := by rw [List.length_append]; rfl
    generalize [k] ++ midT k n s = D at hb2
    refine run 400 rfl ?_
    refine at_loop (fun p : Nat × List Int => p.1 ≤ l.length ∧ p.2 ++ encL (l.drop p.1) = D ++ encL l ∧ p.2.length + (encL (l.drop p.1)).length ≤ 1000000) (fun p => [(0, .gl 1 1 (bytesR p.2)), (32, .lst 4 (rowsT l)), (33, I (rowsT l).length), (34, I p.1)]) (fun p => [(1, .tok 1)]) (fun p => l.length - p.1) [3, 4, 5, 6, 7]
      (0, D) ⟨by dsimp only; omega, by dsimp only; rw [List.drop_zero], by dsimp only; rw [List.drop_zero]; omega⟩ ⟨SVle.refl _, SVle.refl _, SVle.refl _, SVle.refl _, trivial⟩ ⟨rfl, trivial⟩ ?_
    rintro ⟨i, q⟩ ⟨a1, a2, a3⟩
    dsimp only at a1 a2 a3
    refine run 400 rfl ?_
    refine at_ifd rfl (fun g => ?_) (fun g => ?_)
    rotate_left
    · dsimp only at g
      rw [hlen0] at g
      have e : i = l.length := by omega
      subst e
      rw [List.drop_length, encL, List.append_nil] at a2
      refine at_deg 1 ?_
      refine run 400 rfl ?_
      exact at_ret rfl rfl [] ⟨by rw [← a2], rfl, rfl⟩ trivial
    dsimp only at g
    rw [hlen0] at g
    have hlt : i < l.length := by omega
    have hget := rowsT_get hlt
    have hmem := getD_mem hlt
    rw [drop_getD hlt, encL] at a2 a3
    generalize l.getD i .zero = u at hget hmem a2 a3
    rw [List.length_append] at a3
    refine run 400 rfl ?_
    refine at_val (.rp (tr u) 0) (does_index ty_ok _ rfl rfl rfl (by omega) (show (rowsT l)[(i : Int).toNat]? = some (tr u) from hget) rfl) ?_
    refine run 400 rfl ?_
    refine at_growF 1 1 1 (puts_fn u (hL.2 u hmem) q (by omega)) rfl rfl rfl ?_
    refine run 400 rfl ?_
    exact at_again (i + 1, q ++ encT u) ⟨by dsimp only; omega, by dsimp only; rw [← a2, List.append_assoc], by dsimp only; rw [List.length_append]; omega⟩ (by dsimp only; omega) ⟨SVle.refl _, SVle.refl _, SVle.refl _, SVle.of_eq (by show I ((i : Int) + 1) = I ((i + 1 : Nat) : Int); rw [Int.natCast_add]; rfl), trivial⟩ ⟨rfl, trivial⟩

/-- The key of a term. -/
def keyT (t : Tm) : ByteArray := bytesS (encT t)
theorem put92_fn (t : Tm) (h : mayF t = true) (hb : (encT t).length ≤ 1000000) : Gives Try.prog 92 [t.sv] (.lst 1 (bytesR (encT t))) := by
  have hg := mayF_gd h
  have hm : Gives Try.prog 39 [t.sv] (.bl true) := by have := may_fn t; rw [h] at this; exact this
  refine contract_of ty_ok [0, 1, 2, 3, 4, 5, 6, 7] Try.func92 rfl (by decide) Try.ntmps92 rfl fun z => ?_
  refine run 400 rfl ?_
  refine at_fn hm rfl ?_
  refine run 400 rfl ?_
  refine at_if rfl (fun q => by cases q) (fun _ => ?_)
  refine run 400 rfl ?_
  refine at_fn (putsN_fn t hg hb) rfl ?_
  refine run 400 rfl ?_
  exact at_ret rfl rfl [] ⟨rfl, rfl, rfl⟩ trivial
theorem key66_fn (t : Tm) (h : mayF t = true) (hb : (encT t).length ≤ 1000000) : Gives Try.prog 66 [t.sv] (.str (keyT t)) := by
  refine contract_of ty_ok [0, 1, 2, 3, 4, 5, 6, 7] Try.func66 rfl (by decide) Try.ntmps66 rfl fun z => ?_
  refine run 400 rfl ?_
  refine at_fn (put92_fn t h hb) rfl ?_
  refine at_val (.str (bytesS (encT t))) (does_bytesStr ty_ok (ns := encT t) rfl rfl rfl rfl rfl) ?_
  refine run 400 rfl ?_
  exact at_ret rfl rfl [] ⟨rfl, rfl, rfl⟩ trivial
theorem key87_fn (t : Tm) (h : mayF t = true) (hb : (encT t).length ≤ 1000000) : Gives Try.prog 87 [t.sv] (.str (keyT t)) := by
  refine contract_of ty_ok [0, 1, 2, 3, 4, 5, 6, 7] Try.func87 rfl (by decide) Try.ntmps87 rfl fun z => ?_
  refine run 400 rfl ?_
  refine at_fn (put92_fn t h hb) rfl ?_
  refine at_val (.str (bytesS (encT t))) (does_bytesStr ty_ok (ns := encT t) rfl rfl rfl rfl rfl) ?_
  refine run 400 rfl ?_
  exact at_ret rfl rfl [] ⟨rfl, rfl, rfl⟩ trivial
end Go.Proofs.Ytmnmhehddbemkaa
namespace Go.Proofs.Ytmnmhehddbemkaa
open Go Go.Eng

mutual
/-- Each node by itself is right. -/
def allR : Tm → Bool
  | .mk k n s l => rightF (.mk k n s l) && allRL l
def allRL : List Tm → Bool
  | [] => true
  | t :: l => allR t && allRL l
end
mutual
def dpT : Tm → Nat
  | .mk _ _ _ l => dpL l + 1
def dpL : List Tm → Nat
  | [] => 0
  | t :: l => max (dpT t) (dpL l)
end
mutual
theorem may_yes : ∀ (t : Tm) (d c : Int), allR t = true → c + szT t ≤ 64 → d + dpT t ≤ 17 → mayT t d c = (true, c + szT t)
  | .mk k n s l, d, c, h, h1, h2 => by
    rw [allR, Bool.and_eq_true] at h
    rw [szT] at h1 ⊢
    rw [dpT] at h2
    rw [mayT, h.1, if_neg (by omega), if_neg (by omega), if_neg (by decide), may_yesL l (d + 1) (c + 1) h.2 (by omega) (by omega)]
    congr 1
    omega
theorem may_yesL : ∀ (l : List Tm) (d c : Int), allRL l = true → c + szL l ≤ 64 → d + dpL l ≤ 17 → mayL l d c = (true, c + szL l)
  | [], d, c, _, _, _ => by simp [mayL, szL]
  | t :: l, d, c, h, h1, h2 => by
    rw [allRL, Bool.and_eq_true] at h
    rw [szL] at h1 ⊢
    rw [dpL] at h2
    rw [mayL, may_yes t d c h.1 (by omega) (by omega)]
    show mayL l d (c + szT t) = _
    rw [may_yesL l d _ h.2 (by omega) (by omega)]
    congr 1
    omega
end
mutual
theorem may_of : ∀ (t : Tm) (d c : Int), (mayT t d c).1 = true → allR t = true ∧ c + szT t ≤ 64 ∧ d + dpT t ≤ 17 ∧ (mayT t d c).2 = c + szT t
  | .mk k n s l, d, c, h => by
    rw [mayT] at h ⊢
    rw [szT, dpT, allR]
    split at h
    · cases h
    split at h
    · cases h
    split at h
    · cases h
    rename_i q1 q2 q3
    rw [if_neg q1, if_neg q2, if_neg q3]
    obtain ⟨a1, a2, a3, a4⟩ := may_ofL l (d + 1) (c + 1) h (by omega) (by omega)
    have q3 : rightF (.mk k n s l) = true := by simpa using q3
    refine ⟨by rw [q3, a1]; rfl, by omega, by omega, by omega⟩
theorem may_ofL : ∀ (l : List Tm) (d c : Int), (mayL l d c).1 = true → c ≤ 64 → d ≤ 17 → allRL l = true ∧ c + szL l ≤ 64 ∧ d + dpL l ≤ 17 ∧ (mayL l d c).2 = c + szL l
  | [], d, c, h, h1, h2 => by simp [mayL, szL, dpL, allRL]; omega
  | t :: l, d, c, h, h1, h2 => by
    rw [mayL] at h ⊢
    rw [szL, dpL, allRL]
    rcases e : mayT t d c with ⟨b, c'⟩
    rw [e] at h
    cases b with
    | false => cases h
    | true =>
      have h : (mayL l d c').1 = true := h
      obtain ⟨b1, b2, b3, b4⟩ := may_of t d c (by rw [e])
      rw [e] at b4
      have b4 : c' = c + szT t := b4
      subst b4
      obtain ⟨a1, a2, a3, a4⟩ := may_ofL l d _ h (by omega) h2
      refine ⟨by rw [b1, a1]; rfl, by omega, by omega, ?_⟩
      show (mayL l d (c + szT t)).2 = _
      rw [a4]; omega
end
theorem mayF_iff (t : Tm) : mayF t = (allR t && decide (szT t ≤ 64 ∧ dpT t ≤ 16)) := by
  cases h : mayF t with
  | true =>
    obtain ⟨a1, a2, a3, _⟩ := may_of t 1 0 h
    rw [a1, decide_eq_true (by omega)]
    rfl
  | false =>
    cases h2 : allR t with
    | false => rfl
    | true =>
      rw [Bool.true_and]
      symm
      apply decide_eq_false
      intro h3
      have := may_yes t 1 0 h2 (by omega) (by omega)
      rw [mayF, this] at h
      cases h

theorem right_leafA (ns : List Int) (j : Int) : rightF (leafA ns j).1 = true := by
  have hx : ∀ b ∈ words, (b.size : Int) ≤ 1024 := by
    intro b hb
    simp only [words, List.mem_cons, List.not_mem_nil, or_false] at hb
    rcases hb with rfl | rfl | rfl | rfl | rfl | rfl | rfl | rfl | rfl <;> decide
  have hp : ((pickF ns j words).1.size : Int) ≤ 1024 := by
    unfold pickF
    rw [List.getD_eq_getElem?_getD]
    cases h : words[(nextF ns j words.length).1.toNat]? with
    | none => simp
    | some b => exact hx b (List.mem_of_getElem? h)
  unfold leafA rightF
  simp [kidsF, Tm.k, Tm.n, Tm.s, Tm.kids]
  exact .inr hp
theorem right_leafN (ns : List Int) (j : Int) : rightF (leafN ns j).1 = true := by
  have hx : ∀ n ∈ nums, n = 0 ∨ 0 < n ∧ n ≤ 1073741824 := by decide
  have hp : (nums.getD (nextF ns j 8).1.toNat 0) = 0 ∨ 0 < (nums.getD (nextF ns j 8).1.toNat 0) ∧ (nums.getD (nextF ns j 8).1.toNat 0) ≤ 1073741824 := by
    rw [List.getD_eq_getElem?_getD]
    cases h : nums[(nextF ns j 8).1.toNat]? with
    | none => simp
    | some b => exact hx b (List.mem_of_getElem? h)
  have e : seq ByteArray.empty .empty = true := seq_self _
  unfold leafN rightF
  simp [kidsF, Tm.k, Tm.n, Tm.s, Tm.kids, e]
  rcases hp with h | ⟨h1, h2⟩
  · exact .inl h
  · exact .inr ⟨h1, h2⟩
theorem right_k1 (k : Int) (t : Tm) (hk : k = 3 ∨ k = 4) : rightF (.mk k 0 .empty [t]) = true := by
  have e : seq ByteArray.empty .empty = true := seq_self _
  unfold rightF
  rcases hk with rfl | rfl <;> simp [kidsF, Tm.k, Tm.n, Tm.s, Tm.kids, e]
theorem right_k2 (k : Int) (t u : Tm) (hk : k = 5 ∨ k = 6 ∨ k = 7) : rightF (.mk k 0 .empty [t, u]) = true := by
  have e : seq ByteArray.empty .empty = true := seq_self _
  unfold rightF
  rcases hk with rfl | rfl | rfl <;> simp [kidsF, Tm.k, Tm.n, Tm.s, Tm.kids, e]
theorem genT_may (ns : List Int) : ∀ (d : Nat) (j : Int), 0 ≤ j ∧ j ≤ ns.length → allR (genT ns d j).1 = true ∧ dpT (genT ns d j).1 ≤ d + 1 := by
  have hA : ∀ j : Int, allR (leafA ns j).1 = true ∧ dpT (leafA ns j).1 = 1 := fun j => ⟨by
    have := right_leafA ns j
    unfold leafA at this ⊢
    simp only [allR, allRL, this]
    rfl, by simp [leafA, dpT, dpL]⟩
  have hN : ∀ j : Int, allR (leafN ns j).1 = true ∧ dpT (leafN ns j).1 = 1 := fun j => ⟨by
    have := right_leafN ns j
    unfold leafN at this ⊢
    simp only [allR, allRL, this]
    rfl, by simp [leafN, dpT, dpL]⟩
  intro d
  induction d with
  | zero =>
    intro j h
    simp only [genT]
    split
    · exact ⟨(hA _).1, by rw [(hA _).2]; decide⟩
    · exact ⟨(hN _).1, by rw [(hN _).2]; decide⟩
  | succ d ih =>
    intro j h
    have hx := nextF_le (l := ns) (j := j) (n := 10) h
    simp only [genT]
    split
    · exact ⟨(hA _).1, by rw [(hA _).2]; omega⟩
    · split
      · exact ⟨(hN _).1, by rw [(hN _).2]; omega⟩
      · obtain ⟨u1, u2⟩ := ih _ hx.2.2
        have hu3 := genT_le ns d _ hx.2.2
        split
        · refine ⟨?_, by simp only [dpT, dpL]; omega⟩
          simp only [allR, allRL, u1]
          rw [right_k1 _ _ (by omega)]
          rfl
        · obtain ⟨v1, v2⟩ := ih _ hu3
          refine ⟨?_, by simp only [dpT, dpL]; omega⟩
          simp only [allR, allRL, u1, v1]
          rw [right_k2 _ _ _ (by omega)]
          rfl
theorem gen4_may (ns : List Int) : mayF (genT ns 4 0).1 = true := by
  obtain ⟨h1, h2⟩ := genT_may ns 4 0 (by omega)
  have h3 := (genT_gd ns 4 0 (by omega)).2
  rw [mayF_iff, h1, decide_eq_true (by omega)]
  rfl
end Go.Proofs.Ytmnmhehddbemkaa
namespace Go.Proofs.Ytmnmhehddbemkaa
open Go Go.Eng

theorem wrap8 (x : Int) : IntKind.u8.wrap x = x % 256 := by
  simp [IntKind.wrap, IntKind.bits, IntKind.signed]
theorem fdivp (v : Int) (k : Nat) : v.fdiv (2 ^ k) = v / 2 ^ k := Int.fdiv_eq_ediv_of_nonneg _ (by exact_mod_cast Nat.zero_le (2 ^ k))
theorem numB2 (v : Int) : numB v 2 = [v / 256 % 256, v % 256] := by
  simp [numB, List.range, List.range.loop, wrap8, IntKind.bits, fdivp]
theorem numB4 (v : Int) : numB v 4 = [v / 16777216 % 256, v / 65536 % 256, v / 256 % 256, v % 256] := by
  simp [numB, List.range, List.range.loop, wrap8, IntKind.bits, fdivp]
theorem numB2_inj {v w : Int} (hv : 0 ≤ v ∧ v < 65536) (hw : 0 ≤ w ∧ w < 65536) (h : numB v 2 = numB w 2) : v = w := by
  rw [numB2, numB2] at h
  simp only [List.cons.injEq, and_true] at h
  omega
theorem numB4_inj {v w : Int} (hv : 0 ≤ v ∧ v < 4294967296) (hw : 0 ≤ w ∧ w < 4294967296) (h : numB v 4 = numB w 4) : v = w := by
  rw [numB4, numB4] at h
  simp only [List.cons.injEq, and_true] at h
  omega
theorem bytesI_inj {a b : ByteArray} (h : bytesI a = bytesI b) : a = b := by
  obtain ⟨⟨x⟩⟩ := a
  obtain ⟨⟨y⟩⟩ := b
  have h : x.map (fun b : UInt8 => (b.toNat : Int)) = y.map fun b => (b.toNat : Int) := h
  have : ∀ x y : List UInt8, x.map (fun b : UInt8 => (b.toNat : Int)) = y.map (fun b => (b.toNat : Int)) → x = y := by
    intro x
    induction x with
    | nil => intro y h; cases y with
      | nil => rfl
      | cons _ _ => simp at h
    | cons a x ih =>
      intro y h
      cases y with
      | nil => simp at h
      | cons b y =>
        simp only [List.map_cons, List.cons.injEq] at h
        rw [ih y h.2]
        congr 1
        exact UInt8.toNat_inj.1 (by omega)
  rw [this x y h]
theorem bytesI_rng (s : ByteArray) : ∀ n ∈ bytesI s, 0 ≤ n ∧ n < 256 := by
  intro n hn
  obtain ⟨b, _, rfl⟩ := List.mem_map.1 hn
  have := b.toNat_lt
  omega
theorem bytesI_S : ∀ ns : List Int, (∀ n ∈ ns, 0 ≤ n ∧ n < 256) → bytesI (bytesS ns) = ns := by
  have key : ∀ (ns : List Int) (r : ByteArray), (∀ n ∈ ns, 0 ≤ n ∧ n < 256) → bytesI (ns.foldl (fun r n => r.push (UInt8.ofNat n.toNat)) r) = bytesI r ++ ns := by
    intro ns
    induction ns with
    | nil => intro r _; simp
    | cons n ns ih =>
      intro r h
      rw [List.foldl_cons, ih _ fun m hm => h m (by simp [hm])]
      have hn := h n (by simp)
      have : bytesI (r.push (UInt8.ofNat n.toNat)) = bytesI r ++ [n] := by
        simp only [bytesI, ByteArray.data_push, Array.toList_push, List.map_append, List.map_cons, List.map_nil]
        congr 2
        rw [UInt8.toNat_ofNat']
        omega
      rw [this]
      simp
  intro ns h
  have := key ns .empty h
  simpa [bytesS, bytesI] using this
theorem bytesS_inj {a b : List Int} (ha : ∀ n ∈ a, 0 ≤ n ∧ n < 256) (hb : ∀ n ∈ b, 0 ≤ n ∧ n < 256) (h : bytesS a = bytesS b) : a = b := by
  rw [← bytesI_S a ha, h, bytesI_S b hb]

theorem right_spec {k n : Int} {s : ByteArray} {l : List Tm} (h : rightF (.mk k n s l) = true) : (l.length : Int) = kidsF k ∧ (s = .empty ∨ k = 1 ∧ s.size ≤ 1024) ∧ (n = 0 ∨ k = 2 ∧ 0 < n ∧ n ≤ 1073741824) := by
  unfold rightF at h
  simp only [Bool.and_eq_true, Bool.or_eq_true, beq_iff_eq, decide_eq_true_eq] at h
  obtain ⟨⟨h1, h2⟩, h3⟩ := h
  refine ⟨h1, ?_, ?_⟩
  · rcases h2 with h2 | h2
    · exact .inl (seq_eq h2)
    · exact .inr ⟨h2.1, by have := h2.2; simp only [Tm.s] at this; omega⟩
  · rcases h3 with h3 | h3
    · exact .inl h3
    · exact .inr ⟨h3.1.1, h3.1.2, h3.2⟩

mutual
theorem encT_rng : ∀ t : Tm, allR t = true → ∀ n ∈ encT t, 0 ≤ n ∧ n < 256
  | .mk k m s l, h => by
    rw [allR, Bool.and_eq_true] at h
    have hk := kidsF_k (k := k) (by have := (right_spec h.1).1; omega)
    intro n hn
    rw [encT_eq] at hn
    rcases List.mem_append.1 hn with hn | hn
    · rcases List.mem_append.1 hn with hn | hn
      · rw [List.mem_singleton] at hn; omega
      · unfold midT at hn
        split at hn
        · rcases List.mem_append.1 hn with hn | hn
          · rw [numB2] at hn
            simp only [List.mem_cons, List.not_mem_nil, or_false] at hn
            omega
          · exact bytesI_rng s n hn
        · split at hn
          · rw [numB4] at hn
            simp only [List.mem_cons, List.not_mem_nil, or_false] at hn
            omega
          · cases hn
    · exact encL_rng l h.2 n hn
theorem encL_rng : ∀ l : List Tm, allRL l = true → ∀ n ∈ encL l, 0 ≤ n ∧ n < 256
  | [], _, n, hn => by rw [encL] at hn; cases hn
  | t :: l, h, n, hn => by
    rw [allRL, Bool.and_eq_true] at h
    rw [encL] at hn
    rcases List.mem_append.1 hn with hn | hn
    · exact encT_rng t h.1 n hn
    · exact encL_rng l h.2 n hn
end

theorem mid_inj {k n n' : Int} {s s' : ByteArray} {l l' : List Tm} {r r' : List Int} (h : rightF (.mk k n s l) = true) (h' : rightF (.mk k n' s' l') = true) (he : midT k n s ++ r = midT k n' s' ++ r') : n = n' ∧ s = s' ∧ r = r' := by
  obtain ⟨_, a2, a3⟩ := right_spec h
  obtain ⟨_, b2, b3⟩ := right_spec h'
  unfold midT at he
  split at he
  · rename_i hk
    have e1 : n = 0 := by rcases a3 with h | h; exact h; omega
    have e2 : n' = 0 := by rcases b3 with h | h; exact h; omega
    have hs : s.size ≤ 1024 := by rcases a2 with h | h; rw [h]; decide; exact h.2
    have hs' : s'.size ≤ 1024 := by rcases b2 with h | h; rw [h]; decide; exact h.2
    rw [List.append_assoc, List.append_assoc] at he
    have hn := List.append_inj he (by rw [numB_len, numB_len])
    have hsz : (s.size : Int) = s'.size := numB2_inj (by omega) (by omega) hn.1
    have hm := List.append_inj hn.2 (by rw [bytesI_len, bytesI_len]; omega)
    exact ⟨by rw [e1, e2], bytesI_inj hm.1, hm.2⟩
  · rename_i hk
    have e1 : s = .empty := by rcases a2 with h | h; exact h; exact absurd h.1 hk
    have e2 : s' = .empty := by rcases b2 with h | h; exact h; exact absurd h.1 hk
    split at he
    · have hn := List.append_inj he (by rw [numB_len, numB_len])
      have hnn : n = n' := numB4_inj (by omega) (by omega) hn.1
      exact ⟨hnn, by rw [e1, e2], hn.2⟩
    · rename_i hk2
      have e3 : n = 0 := by rcases a3 with h | h; exact h; omega
      have e4 : n' = 0 := by rcases b3 with h | h; exact h; omega
      exact ⟨by rw [e3, e4], by rw [e1, e2], he⟩
mutual
theorem enc_inj : ∀ (t u : Tm) (r r' : List Int), allR t = true → allR u = true → encT t ++ r = encT u ++ r' → t = u ∧ r = r'
  | .mk k n s l, .mk k' n' s' l', r, r', h, h', he => by
    rw [allR, Bool.and_eq_true] at h h'
    rw [encT_eq, encT_eq] at he
    simp only [List.cons_append, List.cons.injEq, List.append_assoc] at he
    obtain ⟨hk, he⟩ := he
    subst hk
    obtain ⟨e1, e2, e3⟩ := mid_inj h.1 h'.1 he
    have hl : l.length = l'.length := by
      have := (right_spec h.1).1
      have := (right_spec h'.1).1
      omega
    obtain ⟨e4, e5⟩ := encL_inj l l' r r' hl h.2 h'.2 e3
    exact ⟨by rw [e1, e2, e4], e5⟩
theorem encL_inj : ∀ (l m : List Tm) (r r' : List Int), l.length = m.length → allRL l = true → allRL m = true → encL l ++ r = encL m ++ r' → l = m ∧ r = r'
  | [], [], r, r', _, _, _, he => by
    rw [encL] at he
    exact ⟨rfl, by simpa using he⟩
  | [], _ :: _, _, _, h, _, _, _ => by simp at h
  | _ :: _, [], _, _, h, _, _, _ => by simp at h
  | t :: l, u :: m, r, r', hl, h, h', he => by
    rw [allRL, Bool.and_eq_true] at h h'
    rw [encL, encL, List.append_assoc, List.append_assoc] at he
    obtain ⟨e1, e2⟩ := enc_inj t u _ _ h.1 h'.1 he
    obtain ⟨e3, e4⟩ := encL_inj l m r r' (by simpa using hl) h.2 h'.2 e2
    exact ⟨by rw [e1, e3], e4⟩
end
theorem keyT_inj {t u : Tm} (h : allR t = true) (h' : allR u = true) (he : keyT t = keyT u) : t = u := by
  have := bytesS_inj (encT_rng t h) (encT_rng u h') he
  exact (enc_inj t u [] [] h h' (by rw [this])).1
mutual
theorem enc_len : ∀ t : Tm, allR t = true → (encT t).length ≤ 1030 * szT t
  | .mk k n s l, h => by
    rw [allR, Bool.and_eq_true] at h
    have := encL_len l h.2
    obtain ⟨_, a2, _⟩ := right_spec h.1
    have hm : (midT k n s).length ≤ 1026 := by
      unfold midT
      split
      · rw [List.length_append, numB_len, bytesI_len]
        rcases a2 with h | h
        · rw [h]; decide
        · omega
      · split
        · rw [numB_len]; omega
        · simp
    rw [encT_eq, szT, List.length_append, List.length_append, List.length_singleton]
    omega
theorem encL_len : ∀ l : List Tm, allRL l = true → (encL l).length ≤ 1030 * szL l
  | [], _ => by simp [encL]
  | t :: l, h => by
    rw [allRL, Bool.and_eq_true] at h
    have := enc_len t h.1
    have := encL_len l h.2
    rw [encL, szL, List.length_append]
    omega
end
theorem may_enc {t : Tm} (h : mayF t = true) : (encT t).length ≤ 1000000 := by
  rw [mayF_iff, Bool.and_eq_true, decide_eq_true_eq] at h
  have := enc_len t h.1
  omega
theorem may_allR {t : Tm} (h : mayF t = true) : allR t = true := by
  rw [mayF_iff, Bool.and_eq_true] at h
  exact h.1
theorem szL_mem' {l : List Tm} {t : Tm} (h : t ∈ l) : szT t ≤ szL l ∧ dpT t ≤ dpL l ∧ (allRL l = true → allR t = true) := by
  induction l with
  | nil => cases h
  | cons u l ih =>
    rw [szL, dpL, allRL]
    rcases List.mem_cons.1 h with h | h
    · subst h
      exact ⟨by omega, by omega, fun q => by rw [Bool.and_eq_true] at q; exact q.1⟩
    · obtain ⟨a, b, c⟩ := ih h
      exact ⟨by omega, by omega, fun q => by rw [Bool.and_eq_true] at q; exact c q.2⟩
theorem may_kid {k n : Int} {s : ByteArray} {l : List Tm} (h : mayF (.mk k n s l) = true) {t : Tm} (ht : t ∈ l) : mayF t = true := by
  rw [mayF_iff, Bool.and_eq_true, decide_eq_true_eq] at h ⊢
  obtain ⟨a, b, c⟩ := szL_mem' ht
  rw [allR, Bool.and_eq_true, szT, dpT] at h
  exact ⟨c h.1.2, by omega, by omega⟩
end Go.Proofs.Ytmnmhehddbemkaa
namespace Go.Proofs.Ytmnmhehddbemkaa
open Go Go.Eng

/-- Whatever is compared with a. -/
def Anti {α : Type} (c : α → α → Int) (a : α) : Prop := ∀ b, c b a = - c a b
def Tr3 {α : Type} (c : α → α → Int) (a : α) : Prop := ∀ b d, c a b ≤ 0 → c b d ≤ 0 → c a d ≤ 0 ∧ (c a b < 0 ∨ c b d < 0 → c a d < 0)

theorem orI_neg (x y : Int) : orI (-x) (-y) = - orI x y := by
  unfold orI
  by_cases h : x = 0
  · simp [h]
  · rw [if_neg h, if_neg (by omega)]
theorem anti_or {α : Type} {c1 c2 : α → α → Int} {a : α} (h1 : Anti c1 a) (h2 : Anti c2 a) : Anti (fun x y => orI (c1 x y) (c2 x y)) a := by
  intro b
  show orI (c1 b a) (c2 b a) = - orI (c1 a b) (c2 a b)
  rw [h1 b, h2 b, orI_neg]
theorem orI_cases (x y : Int) : (x ≠ 0 ∧ orI x y = x) ∨ (x = 0 ∧ orI x y = y) := by
  by_cases h : x = 0
  · exact .inr ⟨h, if_pos h⟩
  · exact .inl ⟨h, if_neg h⟩
theorem tr_or {α : Type} {c1 c2 : α → α → Int} {a : α} (h1 : Tr3 c1 a) (h2 : Tr3 c2 a) : Tr3 (fun x y => orI (c1 x y) (c2 x y)) a := by
  intro b d
  show orI (c1 a b) (c2 a b) ≤ 0 → orI (c1 b d) (c2 b d) ≤ 0 → orI (c1 a d) (c2 a d) ≤ 0 ∧ (orI (c1 a b) (c2 a b) < 0 ∨ orI (c1 b d) (c2 b d) < 0 → orI (c1 a d) (c2 a d) < 0)
  intro g1 g2
  have k1 := h1 b d
  have k2 := h2 b d
  rcases orI_cases (c1 a b) (c2 a b) with ⟨e1, e2⟩ | ⟨e1, e2⟩ <;> rcases orI_cases (c1 b d) (c2 b d) with ⟨e3, e4⟩ | ⟨e3, e4⟩ <;> rcases orI_cases (c1 a d) (c2 a d) with ⟨e5, e6⟩ | ⟨e5, e6⟩ <;> rw [e2] at g1 <;> rw [e4] at g2 <;> rw [e2, e4, e6]
  · have := k1 g1 g2; omega
  · have := k1 g1 g2; omega
  · have := k1 g1 (by omega); omega
  · have := k1 g1 (by omega); omega
  · have := k1 (by omega) g2; omega
  · have := k1 (by omega) g2; omega
  · have := k1 (by omega) (by omega); omega
  · exact k2 g1 g2

theorem anti_sgI (a : Int) : Anti sgI a := by
  intro b
  unfold sgI
  repeat' split
  all_goals omega
theorem tr_sgI (a : Int) : Tr3 sgI a := by
  intro b d
  unfold sgI
  repeat' split
  all_goals omega
theorem anti_by {α β : Type} {c : β → β → Int} (f : α → β) {a : α} (h : Anti c (f a)) : Anti (fun x y => c (f x) (f y)) a := fun b => h (f b)
theorem tr_by {α β : Type} {c : β → β → Int} (f : α → β) {a : α} (h : Tr3 c (f a)) : Tr3 (fun x y => c (f x) (f y)) a := fun b d => h (f b) (f d)

/-- Lists, by their first difference; a front stands ahead. -/
def cLst {α : Type} (c : α → α → Int) : List α → List α → Int
  | [], [] => 0
  | [], _ :: _ => -1
  | _ :: _, [] => 1
  | x :: l, y :: m => orI (c x y) (cLst c l m)
theorem anti_lst {α : Type} {c : α → α → Int} : ∀ l : List α, (∀ x ∈ l, Anti c x) → Anti (cLst c) l
  | [], _, [] => rfl
  | [], _, _ :: _ => rfl
  | _ :: _, _, [] => rfl
  | x :: l, h, y :: m => by
    rw [cLst, cLst, h x (by simp) y, anti_lst l (fun z hz => h z (by simp [hz])) m, orI_neg]
theorem tr_lst {α : Type} {c : α → α → Int} : ∀ l : List α, (∀ x ∈ l, Tr3 c x) → Tr3 (cLst c) l
  | [], _, [], [] => by simp [cLst]
  | [], _, [], _ :: _ => by simp [cLst]
  | [], _, _ :: _, [] => by simp [cLst]
  | [], _, _ :: _, _ :: _ => by simp [cLst]
  | x :: l, _, [], d => by simp [cLst]
  | x :: l, _, y :: m, [] => by simp [cLst]
  | x :: l, h, y :: m, z :: d => by
    have h1 : Tr3 c x := h x (by simp)
    have h2 := tr_lst l fun z hz => h z (by simp [hz])
    have key : Tr3 (fun (p q : α × List α) => orI (c p.1 q.1) (cLst c p.2 q.2)) (x, l) := tr_or (c1 := fun (p q : α × List α) => c p.1 q.1) (c2 := fun (p q : α × List α) => cLst c p.2 q.2) (tr_by Prod.fst h1) (tr_by Prod.snd h2)
    exact key (y, m) (z, d)

theorem cmpB_lst : ∀ a b : List UInt8, Lib.compareBytes a b = cLst (fun x y => sgI (x.toNat : Int) y.toNat) a b
  | [], [] => rfl
  | [], _ :: _ => rfl
  | _ :: _, [] => rfl
  | x :: a, y :: b => by
    rw [Lib.compareBytes, cLst, cmpB_lst a b]
    show _ = orI (sgI _ _) _
    unfold sgI
    have e1 : (x < y) = ((x.toNat : Int) < y.toNat) := by rw [UInt8.lt_iff_toNat_lt]; simp
    have e2 : (y < x) = ((y.toNat : Int) < x.toNat) := by rw [UInt8.lt_iff_toNat_lt]; simp
    simp only [e1, e2]
    split
    · rfl
    · split
      · rfl
      · rfl
theorem sgS_lst (a b : ByteArray) : sgS a b = cLst (fun x y => sgI (x.toNat : Int) y.toNat) a.data.toList b.data.toList := by rw [← cmpB_sgS, cmpB_lst]
theorem anti_sgS (a : ByteArray) : Anti sgS a := by
  intro b
  rw [sgS_lst, sgS_lst]
  exact anti_lst _ (fun x _ => anti_by (fun x : UInt8 => (x.toNat : Int)) (anti_sgI _)) _
theorem tr_sgS (a : ByteArray) : Tr3 sgS a := by
  intro b d
  rw [sgS_lst, sgS_lst, sgS_lst]
  exact tr_lst _ (fun x _ => tr_by (fun x : UInt8 => (x.toNat : Int)) (tr_sgI _)) _ _

theorem sgI_succ (a b : Nat) : sgI ((a + 1 : Nat) : Int) ((b + 1 : Nat) : Int) = sgI a b := by
  unfold sgI
  repeat' split
  all_goals omega
theorem ordL_lst : ∀ l m : List Tm, orI (ordL l m) (sgI l.length m.length) = cLst ordT l m
  | [], [] => rfl
  | [], _ :: _ => by simp [ordL, cLst, orI, sgI] <;> omega
  | _ :: _, [] => by simp [ordL, cLst, orI, sgI] <;> omega
  | x :: l, y :: m => by
    rw [ordL, cLst, ← ordL_lst l m, orI_assoc]
    simp only [List.length_cons]
    rw [sgI_succ]
theorem ordT_lex (a b : Tm) : ordT a b = orI (sgI a.k b.k) (orI (sgI a.n b.n) (orI (sgS a.s b.s) (cLst ordT a.kids b.kids))) := by
  cases a; cases b
  rw [ordT, orI_assoc, orI_assoc, orI_assoc, ordL_lst]
theorem anti_ord (a : Tm) : Anti ordT a := by
  induction a using Tm.ind with
  | h k n s l ih =>
    intro b
    have h4 := anti_lst l ih
    have key := anti_or (c1 := fun x y : Tm => sgI x.k y.k) (anti_by (a := Tm.mk k n s l) Tm.k (anti_sgI k)) (anti_or (c1 := fun x y : Tm => sgI x.n y.n) (anti_by (a := Tm.mk k n s l) Tm.n (anti_sgI n)) (anti_or (c1 := fun x y : Tm => sgS x.s y.s) (anti_by (a := Tm.mk k n s l) Tm.s (anti_sgS s)) (anti_by (a := Tm.mk k n s l) Tm.kids h4))) b
    rw [ordT_lex, ordT_lex (.mk k n s l)]
    exact key
theorem tr_ord (a : Tm) : Tr3 ordT a := by
  induction a using Tm.ind with
  | h k n s l ih =>
    intro b d
    have h4 := tr_lst l ih
    have key := tr_or (c1 := fun x y : Tm => sgI x.k y.k) (tr_by (a := Tm.mk k n s l) Tm.k (tr_sgI k)) (tr_or (c1 := fun x y : Tm => sgI x.n y.n) (tr_by (a := Tm.mk k n s l) Tm.n (tr_sgI n)) (tr_or (c1 := fun x y : Tm => sgS x.s y.s) (tr_by (a := Tm.mk k n s l) Tm.s (tr_sgS s)) (tr_by (a := Tm.mk k n s l) Tm.kids h4))) b d
    rw [ordT_lex (.mk k n s l) b, ordT_lex b d, ordT_lex (.mk k n s l) d]
    exact key

theorem ord_anti (a b : Tm) : ordT b a = - ordT a b := anti_ord a b
theorem ord_trans {a b c : Tm} (h1 : ordT a b < 0) (h2 : ordT b c < 0) : ordT a c < 0 := (tr_ord a b c (by omega) (by omega)).2 (.inl h1)
theorem ord_irr (a : Tm) : ordT a a = 0 := ordT_self a
end Go.Proofs.Ytmnmhehddbemkaa
namespace Go.Proofs.Ytmnmhehddbemkaa
open Go Go.Eng
set_option maxRecDepth 100000

abbrev own33 (t : Tm) : SO := .cells 33 [I t.k, I t.n, .str t.s, .lst 4 (rowsT t.kids)]

theorem size_fn (t : Tm) (h : Sm t) (hs : szT t ≤ 1000000) : Gives Try.prog 43 [t.sv] (I (szT t)) := by
  refine contract_of ty_ok [0, 1, 2, 3, 4, 5, 6, 7] Try.func43 rfl (by decide) Try.ntmps43 rfl fun z => ?_
  refine run 400 rfl ?_
  refine at_metF 1 (eachZ_fn t 0 h (by omega)) rfl rfl rfl ?_
  refine run 400 rfl ?_
  exact at_ret rfl rfl [] ⟨by rw [Nat.zero_add], rfl, rfl⟩ trivial
theorem has_fn (t x : Tm) (h : Sm t) : Gives Try.prog 49 [t.sv, x.sv] (.bl (hasT x t)) := by
  cases hb : hasT x t with
  | true =>
    refine Gives.le (a := .tt) ?_ (SVle.tt rfl)
    refine contract_of ty_ok [0, 1, 2, 3, 4, 5, 6, 7] Try.func49 rfl (by decide) Try.ntmps49 rfl fun z => ?_
    refine run 400 rfl ?_
    refine at_met 1 (eachH_fn t x h) rfl rfl (fun _ => rfl) ?_
    intro b hb2
    rw [hb] at hb2
    subst hb2
    refine run 400 rfl ?_
    exact at_ret rfl rfl [] ⟨rfl, rfl, rfl⟩ trivial
  | false =>
    refine Gives.le (a := .ff) ?_ (SVle.ff rfl)
    refine contract_of ty_ok [0, 1, 2, 3, 4, 5, 6, 7] Try.func49 rfl (by decide) Try.ntmps49 rfl fun z => ?_
    refine run 400 rfl ?_
    refine at_met 1 (eachH_fn t x h) rfl rfl (fun _ => rfl) ?_
    intro b hb2
    rw [hb] at hb2
    subst hb2
    refine run 400 rfl ?_
    exact at_ret rfl rfl [] ⟨rfl, rfl, rfl⟩ trivial

theorem rsize_fn : ∀ (t : Tm), Sm t → szT t ≤ 1000000 → Gives Try.prog 44 [t.sv] (I (szT t)) := by
  intro t
  induction t using Tm.ind with
  | h k n s l ih =>
    intro hsm hc
    have hL := hsm.ks
    have hlen0 : ((rowsT l).length : Int) = l.length := by rw [rowsT_len]
    refine contract_of ty_ok [0, 1, 2, 3, 4, 5, 6, 7] Try.func44 rfl (by decide) Try.ntmps44 rfl fun z => ?_
    refine run 400 rfl ?_
    rw [szT] at hc ⊢
    refine at_loop (fun p : Nat × Nat => p.1 ≤ l.length ∧ p.2 + szL (l.drop p.1) = 1 + szL l) (fun p => [(1, .ptr 0 0), (3, I p.2), (4, I p.1)]) (fun _ => [(0, own33 (.mk k n s l))]) (fun p => l.length - p.1) [1, 2, 3, 4, 5, 6, 7]
      (0, 1) ⟨by dsimp only; omega, by dsimp only; rw [List.drop_zero]⟩ ⟨SVle.refl _, SVle.refl _, SVle.refl _, trivial⟩ ⟨rfl, trivial⟩ ?_
    rintro ⟨i, q⟩ ⟨a1, a2⟩
    dsimp only at a1 a2
    refine run 400 rfl ?_
    refine at_ifd rfl (fun g => ?_) (fun g => ?_)
    rotate_left
    · dsimp only at g
      rw [hlen0] at g
      have e : i = l.length := by omega
      subst e
      rw [List.drop_length, szL] at a2
      refine run 400 rfl ?_
      exact at_ret rfl rfl [] ⟨by rw [show q = 1 + szL l by omega], rfl, rfl⟩ trivial
    dsimp only at g
    rw [hlen0] at g
    have hlt : i < l.length := by omega
    have hget := rowsT_get hlt
    have hmem := getD_mem hlt
    rw [drop_getD hlt, szL] at a2
    generalize l.getD i .zero = u at hget hmem a2
    refine run 400 rfl ?_
    refine at_val (.rp (tr u) 0) (does_index ty_ok _ rfl rfl rfl (by omega) (show (rowsT l)[(i : Int).toNat]? = some (tr u) from hget) rfl) ?_
    refine run 400 rfl ?_
    refine at_fn (ih u hmem (hL.2 u hmem) (by omega)) rfl ?_
    refine run 400 rfl ?_
    exact at_again (i + 1, q + szT u) ⟨by dsimp only; omega, by dsimp only; omega⟩ (by dsimp only; omega) ⟨SVle.refl _, SVle.of_eq (by show I ((q : Int) + (szT u : Int)) = I ((q + szT u : Nat) : Int); rw [Int.natCast_add]), SVle.of_eq (by show I ((i : Int) + 1) = I ((i + 1 : Nat) : Int); rw [Int.natCast_add]; rfl), trivial⟩ ⟨rfl, trivial⟩

theorem rhas_fn (x : Tm) : ∀ (t : Tm), Sm t → Gives Try.prog 34 [t.sv, x.sv] (.bl (hasT x t)) := by
  intro t
  induction t using Tm.ind with
  | h k n s l ih =>
    intro hsm
    have hL := hsm.ks
    have hlen0 : ((rowsT l).length : Int) = l.length := by rw [rowsT_len]
    have hS := same_fn (.mk k n s l) x hsm
    rw [hasT]
    cases hb : same (.mk k n s l) x with
    | true =>
      rw [hb] at hS
      rw [Bool.true_or]
      refine Gives.le (a := .tt) ?_ (SVle.tt rfl)
      refine contract_of ty_ok [0, 1, 2, 3, 4, 5, 6, 7] Try.func34 rfl (by decide) Try.ntmps34 rfl fun z => ?_
      refine run 400 rfl ?_
      refine at_fn hS rfl ?_
      refine run 400 rfl ?_
      refine at_if rfl (fun _ => ?_) (fun q => by cases q)
      refine run 400 rfl ?_
      exact at_ret rfl rfl [] ⟨rfl, rfl, rfl⟩ trivial
    | false =>
      rw [hb] at hS
      rw [Bool.false_or]
      have key : ∀ b : Bool, hasL x l = b → Gives Try.prog 34 [(Tm.mk k n s l).sv, x.sv] (cond b .tt .ff) := by
        intro b hbb
        refine contract_of ty_ok [0, 1, 2, 3, 4, 5, 6, 7] Try.func34 rfl (by decide) Try.ntmps34 rfl fun z => ?_
        refine run 400 rfl ?_
        refine at_fn hS rfl ?_
        refine run 400 rfl ?_
        refine at_if rfl (fun q => by cases q) (fun _ => ?_)
        refine run 400 rfl ?_
        refine at_loop (fun i : Nat => i ≤ l.length ∧ hasL x (l.drop i) = b) (fun i => [(2, .ptr 0 0), (3, .ptr 1 0), (5, I i)]) (fun _ => [(0, own33 (.mk k n s l)), (1, own33 x)]) (fun i => l.length - i) [2, 3, 4, 5, 6, 7]
          0 ⟨by omega, by rw [List.drop_zero]; exact hbb⟩ ⟨SVle.refl _, SVle.refl _, SVle.refl _, trivial⟩ ⟨rfl, rfl, trivial⟩ ?_
        rintro i ⟨a1, a2⟩
        refine run 400 rfl ?_
        refine at_ifd rfl (fun g => ?_) (fun g => ?_)
        rotate_left
        · rw [hlen0] at g
          have e : i = l.length := by omega
          subst e
          rw [List.drop_length, hasL] at a2
          subst a2
          refine run 400 rfl ?_
          exact at_ret rfl rfl [] ⟨rfl, rfl, rfl⟩ trivial
        rw [hlen0] at g
        have hlt : i < l.length := by omega
        have hget := rowsT_get hlt
        have hmem := getD_mem hlt
        rw [drop_getD hlt, hasL] at a2
        generalize l.getD i .zero = u at hget hmem a2
        refine run 400 rfl ?_
        refine at_drawn 7 rfl rfl [(3, .val (.rp (tr u) 0)), (6, .sv (.bl (hasT x u)))] [20, 21, 22] rfl ⟨ih u hmem (hL.2 u hmem), does_index ty_ok _ rfl rfl rfl (by omega) (show (rowsT l)[(i : Int).toNat]? = some (tr u) from hget) rfl⟩ ?_
        refine run 400 rfl ?_
        refine at_if rfl (fun q => ?_) (fun q => ?_)
        · rw [q, Bool.true_or] at a2
          subst a2
          refine run 400 rfl ?_
          exact at_ret rfl rfl [] ⟨rfl, rfl, rfl⟩ trivial
        · rw [q, Bool.false_or] at a2
          refine run 400 rfl ?_
          exact at_again (i + 1) ⟨by omega, a2⟩ (by omega) ⟨SVle.refl _, SVle.refl _, SVle.of_eq (by show I ((i : Int) + 1) = I ((i + 1 : Nat) : Int); rw [Int.natCast_add]; rfl), trivial⟩ ⟨rfl, rfl, trivial⟩
      cases hbb : hasL x l with
      | true => exact (key true hbb).le (SVle.tt rfl)
      | false => exact (key false hbb).le (SVle.ff rfl)

/-- Terms in order, by the document. -/
def rsortF (l : List Tm) : List Tm := l.foldl addF []
theorem addF_len (L : List Tm) (t : Tm) : (addF L t).length ≤ L.length + 1 := by
  rcases (addF_P L t).2 with ⟨e, _⟩ | e
  · rw [e]; omega
  · omega
theorem addF_mem {L : List Tm} {t x : Tm} : x ∈ addF L t ↔ x ∈ L ∨ x = t := (addF_P L t).1 x
theorem rsort_fn (l : List Tm) (h : ∀ x ∈ l, Sm x) (hl : l.length ≤ 1000000) : Gives Try.prog 51 [.lst 4 (rowsT l)] (.lst 4 (rowsT (rsortF l))) := by
  have hlen : ((rowsT l).length : Int) = l.length := by rw [rowsT_len]
  refine contract_of ty_ok [0, 1, 2, 3, 4, 5, 6, 7] Try.func51 rfl (by decide) Try.ntmps51 rfl fun z => ?_
  refine run 400 rfl ?_
  refine at_loop (fun p : Nat × List Tm => p.1 ≤ l.length ∧ p.2.length ≤ p.1 ∧ (∀ x ∈ p.2, x ∈ l) ∧ (l.drop p.1).foldl addF p.2 = rsortF l) (fun p => [(0, .lst 4 (rowsT l)), (3, .lst 4 (rowsT p.2)), (4, I p.1)]) (fun _ => []) (fun p => l.length - p.1) [0, 1, 2, 3, 4, 5, 6, 7]
    (0, []) ⟨by dsimp only; omega, by simp, by simp, by rfl⟩ ⟨SVle.refl _, SVle.nils, SVle.refl _, trivial⟩ trivial ?_
  rintro ⟨i, q⟩ ⟨a1, a2, a3, a4⟩
  dsimp only at a1 a2 a3 a4
  refine run 400 rfl ?_
  refine at_ifd rfl (fun g => ?_) (fun g => ?_)
  rotate_left
  · dsimp only at g
    rw [hlen] at g
    have e : i = l.length := by omega
    subst e
    rw [List.drop_length] at a4
    have a4 : q = rsortF l := a4
    refine run 400 rfl ?_
    exact at_ret rfl rfl [] ⟨by rw [a4], rfl, rfl⟩ trivial
  dsimp only at g
  rw [hlen] at g
  have hlt : i < l.length := by omega
  have hget := rowsT_get hlt
  have hmem := getD_mem hlt
  rw [drop_getD hlt, List.foldl_cons] at a4
  generalize l.getD i .zero = u at hget hmem a4
  refine run 400 rfl ?_
  refine at_val (.rp (tr u) 0) (does_index ty_ok _ rfl rfl rfl (by omega) (show (rowsT l)[(i : Int).toNat]? = some (tr u) from hget) rfl) ?_
  refine run 400 rfl ?_
  refine at_fn (add_fn q u (fun x hx => h x (a3 x hx)) (by omega)) rfl ?_
  refine run 400 rfl ?_
  have hal := addF_len q u
  exact at_again (i + 1, addF q u) ⟨by dsimp only; omega, by dsimp only; omega, by
    intro x hx
    rcases addF_mem.1 hx with hx | hx
    · exact a3 x hx
    · subst hx; exact hmem, a4⟩ (by dsimp only; omega) ⟨SVle.refl _, SVle.refl _, SVle.of_eq (by show I ((i : Int) + 1) = I ((i + 1 : Nat) : Int); rw [Int.natCast_add]; rfl), trivial⟩ trivial
end Go.Proofs.Ytmnmhehddbemkaa
namespace Go.Proofs.Ytmnmhehddbemkaa
open Go Go.Eng
set_option maxRecDepth 100000

def insF : List Int → Int → List Int
  | [], n => [n]
  | m :: L, n => if m < n then m :: insF L n else if m = n then m :: L else n :: m :: L
theorem insF_split {L : List Int} {t : Int} : ∀ (i : Nat), (∀ x ∈ L.take i, x < t) → insF L t = L.take i ++ insF (L.drop i) t := by
  induction L with
  | nil => intro i _; simp
  | cons u L ih =>
    intro i h
    cases i with
    | zero => simp
    | succ i =>
      simp only [List.take_succ_cons, List.drop_succ_cons, List.cons_append]
      have hu := h u (by simp)
      rw [insF, if_pos hu, ih i fun x hx => h x (by simp [hx])]
theorem insF_mem {L : List Int} {t x : Int} : x ∈ insF L t ↔ x ∈ L ∨ x = t := by
  induction L with
  | nil => simp [insF]
  | cons u L ih =>
    rw [insF]
    split
    · rw [List.mem_cons, ih, List.mem_cons, or_assoc]
    · split
      · rename_i h; subst h; simp; intro h; exact .inl h
      · simp only [List.mem_cons]; constructor
        · rintro (h | h | h)
          · exact .inr h
          · exact .inl (.inl h)
          · exact .inl (.inr h)
        · rintro ((h | h) | h)
          · exact .inr (.inl h)
          · exact .inr (.inr h)
          · exact .inl h
theorem insF_len (L : List Int) (t : Int) : (insF L t).length ≤ L.length + 1 := by
  induction L with
  | nil => simp [insF]
  | cons u L ih =>
    rw [insF]
    split
    · simp; omega
    · split <;> simp

theorem ints_len (l : List Int) : (ints l).length = l.length := by simp
theorem ints_at {l : List Int} {n : Nat} (h : n < l.length) : (ints l)[n]? = some [.int .i64 (l.getD n 0)] := by
  simp [List.getElem?_map, List.getElem?_eq_getElem h, List.getD_eq_getElem?_getD]
theorem dropI {l : List Int} {n : Nat} (h : n < l.length) : l.drop n = l.getD n 0 :: l.drop (n + 1) := by
  rw [List.drop_eq_getElem_cons h, List.getD_eq_getElem?_getD, List.getElem?_eq_getElem h]
  rfl

theorem ins_fn (L : List Int) (t : Int) (hl : L.length ≤ 10000000) : Gives Try.prog 75 [.lst 1 (ints L), I t] (.lst 1 (ints (insF L t))) := by
  have hlen : ((ints L).length : Int) = L.length := by rw [ints_len]
  have hlen2 : (ints L).length = L.length := ints_len L
  refine contract_of ty_ok [0, 1, 2, 3, 4, 5, 6, 7] Try.func75 rfl (by decide) Try.ntmps75 rfl fun z => ?_
  refine run 400 rfl ?_
  refine at_loop (fun i : Int => 0 ≤ i ∧ i ≤ L.length ∧ ∀ x ∈ L.take i.toNat, x < t) (fun i => [(0, .lst 1 (ints L)), (1, I t), (5, I i)]) (fun _ => []) (fun i => (L.length - i).toNat) [1, 2, 3, 4, 5]
    0 ⟨by omega, by omega, by simp⟩ ⟨SVle.refl _, SVle.refl _, SVle.refl _, trivial⟩ trivial ?_
  rintro i ⟨a1, a2, a3⟩
  refine run 400 rfl ?_
  by_cases hlt : i.toNat < L.length
  · have hget := ints_at hlt
    have hgetD : L[i.toNat]? = some (L.getD i.toNat 0) := by rw [List.getD_eq_getElem?_getD, List.getElem?_eq_getElem hlt]; rfl
    have hdrop := dropI hlt
    generalize L.getD i.toNat 0 = u at hget hgetD hdrop
    refine at_true 11 rfl (decide_eq_true (by rw [hlen]; omega)) ?_
    refine run 400 rfl ?_
    refine at_val (.rp [.int .i64 u] 0) (does_index ty_ok _ rfl rfl rfl a1 hget rfl) ?_
    refine run 400 rfl ?_
    refine at_ifd rfl (fun h => ?_) (fun h => ?_)
    · refine run 400 rfl ?_
      exact at_again (i + 1) ⟨by omega, by omega, by
        intro x hx
        rw [show (i + 1).toNat = i.toNat + 1 by omega, List.take_add_one, hgetD] at hx
        rcases List.mem_append.1 hx with hx | hx
        · exact a3 x hx
        · simp at hx
          rw [hx]
          exact h⟩ (by omega) ⟨SVle.refl _, SVle.refl _, SVle.refl _, trivial⟩ trivial
    · refine run 400 rfl ?_
      refine at_true 25 rfl (decide_eq_true (by rw [hlen]; omega)) ?_
      refine run 400 rfl ?_
      refine at_val (.rp [.int .i64 u] 0) (does_index ty_ok _ rfl rfl rfl a1 hget rfl) ?_
      refine run 400 rfl ?_
      refine at_if rfl (fun h2 => ?_) (fun h2 => ?_)
      · have e : u = t := by simpa using h2
        subst e
        refine run 400 rfl ?_
        have e : insF L u = L := by
          rw [insF_split i.toNat a3, hdrop, insF, if_neg h, if_pos rfl, ← hdrop, List.take_append_drop]
        exact at_ret rfl rfl [] ⟨by rw [e], rfl, rfl⟩ trivial
      · refine run 400 rfl ?_
        refine at_gro (.tl 1 []) (doesG_build ty_ok _ rfl trivial rfl rfl (by decide)) ?_
        refine run 400 rfl ?_
        refine at_val (.lst 1 ((ints L).take i.toNat)) (does_slice_h ty_ok rfl rfl rfl (by omega) rfl) ?_
        refine at_new 5 1 ([] ++ (ints L).take i.toNat) (doesT_append ty_ok rfl rfl rfl rfl rfl rfl rfl (by simp; omega) (by show _ * 8 ≤ _; simp; omega)) ?_
        refine run 400 rfl ?_
        refine at_drawn_st 8 [5] rfl rfl [(2, .gro (.tl 1 [[.int .i64 t]])), (3, .eat 5 1 ([] ++ (ints L).take i.toNat ++ [[.int .i64 t]]) (some 7)), (6, .val (.lst 1 ((ints L).drop i.toNat))), (7, .use 20 1 ([] ++ (ints L).take i.toNat ++ [[.int .i64 t]] ++ (ints L).drop i.toNat))] [20, 21, 22] rfl
          ⟨doesU_append ty_ok rfl rfl rfl rfl rfl rfl rfl (by simp; omega) (by show _ * 8 ≤ _; simp; omega), does_slice_l ty_ok rfl rfl rfl (by omega) rfl, doesU_append ty_ok rfl rfl rfl rfl rfl rfl rfl (by simp; omega) (by show _ * 8 ≤ _; simp; omega), doesG_build ty_ok _ rfl ⟨⟨rfl, rfl, _, rfl, SVles.refl _⟩, trivial⟩ rfl rfl (by decide)⟩ ?_
        refine run 400 rfl ?_
        have e : insF L t = L.take i.toNat ++ t :: L.drop i.toNat := by
          rw [insF_split i.toNat a3, hdrop, insF, if_neg h, if_neg (by simpa using h2)]
        exact at_ret rfl rfl [] ⟨by rw [e]; simp [List.map_take, List.map_drop], rfl, rfl⟩ trivial
  · refine at_false 11 rfl (decide_eq_false (by rw [hlen]; omega)) ?_
    refine run 400 rfl ?_
    refine at_false 25 rfl (decide_eq_false (by rw [hlen]; omega)) ?_
    refine run 400 rfl ?_
    refine at_gro (.tl 1 []) (doesG_build ty_ok _ rfl trivial rfl rfl (by decide)) ?_
    refine run 400 rfl ?_
    refine at_val (.lst 1 ((ints L).take i.toNat)) (does_slice_h ty_ok rfl rfl rfl (by omega) rfl) ?_
    refine at_new 5 1 ([] ++ (ints L).take i.toNat) (doesT_append ty_ok rfl rfl rfl rfl rfl rfl rfl (by simp; omega) (by show _ * 8 ≤ _; simp; omega)) ?_
    refine run 400 rfl ?_
    refine at_drawn_st 8 [5] rfl rfl [(2, .gro (.tl 1 [[.int .i64 t]])), (3, .eat 5 1 ([] ++ (ints L).take i.toNat ++ [[.int .i64 t]]) (some 7)), (6, .val (.lst 1 ((ints L).drop i.toNat))), (7, .use 20 1 ([] ++ (ints L).take i.toNat ++ [[.int .i64 t]] ++ (ints L).drop i.toNat))] [20, 21, 22] rfl
      ⟨doesU_append ty_ok rfl rfl rfl rfl rfl rfl rfl (by simp; omega) (by show _ * 8 ≤ _; simp; omega), does_slice_l ty_ok rfl rfl rfl (by omega) rfl, doesU_append ty_ok rfl rfl rfl rfl rfl rfl rfl (by simp; omega) (by show _ * 8 ≤ _; simp; omega), doesG_build ty_ok _ rfl ⟨⟨rfl, rfl, _, rfl, SVles.refl _⟩, trivial⟩ rfl rfl (by decide)⟩ ?_
    refine run 400 rfl ?_
    have e : insF L t = L.take i.toNat ++ t :: L.drop i.toNat := by
      rw [insF_split i.toNat a3, List.drop_eq_nil_of_le (by omega), insF]
    exact at_ret rfl rfl [] ⟨by rw [e]; simp [List.map_take, List.map_drop], rfl, rfl⟩ trivial

mutual
/-- The nonces, by the document. -/
def rnonT : Tm → List Int
  | .mk k n _ l => rnonL l (if k = 2 then [n] else [])
def rnonL : List Tm → List Int → List Int
  | [], acc => acc
  | t :: l, acc => rnonL l ((rnonT t).foldl insF acc)
end
theorem foldI_len (l : List Int) : ∀ acc : List Int, (l.foldl insF acc).length ≤ acc.length + l.length := by
  induction l with
  | nil => intro acc; simp
  | cons n l ih =>
    intro acc
    have := ih (insF acc n)
    have := insF_len acc n
    simp only [List.foldl_cons, List.length_cons]
    omega
mutual
theorem rnonT_len : ∀ t : Tm, (rnonT t).length ≤ szT t
  | .mk k n s l => by
    have h1 := rnonL_len l (if k = 2 then [n] else [])
    have h2 : (if k = 2 then [n] else []).length ≤ 1 := by split <;> simp
    rw [rnonT, szT]
    omega
theorem rnonL_len : ∀ (l : List Tm) (acc : List Int), (rnonL l acc).length ≤ acc.length + szL l
  | [], acc => by simp [rnonL, szL]
  | t :: l, acc => by
    have := rnonL_len l ((rnonT t).foldl insF acc)
    have := foldI_len (rnonT t) acc
    have := rnonT_len t
    rw [rnonL, szL]
    omega
end

theorem szL_mem {l : List Tm} {t : Tm} (h : t ∈ l) : szT t ≤ szL l := by
  induction l with
  | nil => cases h
  | cons u l ih =>
    rw [szL]
    rcases List.mem_cons.1 h with rfl | h
    · omega
    · have := ih h; omega
theorem SVle.nilI : SVle (.tl 0 []) (.lst 1 (ints [])) := fun g H x h => SVle.tl 1 [] g H x (SVle.nil 1 g H x h)

theorem rnon_fn : ∀ (t : Tm), Sm t → szT t ≤ 1000000 → Gives Try.prog 42 [t.sv] (.lst 1 (ints (rnonT t))) := by
  intro t
  induction t using Tm.ind with
  | h k n s l ih =>
    intro hsm hc
    have hL := hsm.ks
    have hlen0 : ((rowsT l).length : Int) = l.length := by rw [rowsT_len]
    rw [szT] at hc
    rw [rnonT]
    refine contract_of ty_ok [0, 1, 2, 3, 4, 5, 6, 7] Try.func42 rfl (by decide) Try.ntmps42 rfl fun z => ?_
    refine run 400 rfl ?_
    refine at_join (fun _ : Unit => True) (fun _ => [(1, .ptr 0 0), (3, .lst 1 (ints (if k = 2 then [n] else [])))]) (fun _ => [(0, own33 (.mk k n s l))]) [1, 2, 3, 4, 5, 6, 7] ?_ ?_
    · refine at_if rfl (fun q => ?_) (fun q => ?_)
      · have q : k = 2 := by simpa using q
        refine run 400 rfl ?_
        refine at_gro (.tl 1 (ints [n])) (doesG_build ty_ok _ rfl ⟨⟨rfl, rfl, _, rfl, SVles.refl _⟩, trivial⟩ rfl rfl (by decide)) ?_
        refine run 400 rfl ?_
        exact at_joined () trivial ⟨SVle.refl _, by rw [if_pos q]; exact SVle.tl _ _, trivial⟩ ⟨rfl, trivial⟩
      · have q : ¬ k = 2 := by simpa using q
        refine run 400 rfl ?_
        exact at_joined () trivial ⟨SVle.refl _, by rw [if_neg q]; exact SVle.nilI, trivial⟩ ⟨rfl, trivial⟩
    intro _ _
    have hacc0 : (if k = 2 then [n] else []).length ≤ 1 := by split <;> simp
    generalize (if k = 2 then [n] else []) = acc0 at hacc0
    refine run 400 rfl ?_
    refine at_loop (fun p : Nat × List Int => p.1 ≤ l.length ∧ rnonL (l.drop p.1) p.2 = rnonL l acc0 ∧ p.2.length + szL (l.drop p.1) ≤ 1000001) (fun p => [(1, .ptr 0 0), (3, .lst 1 (ints p.2)), (4, I p.1)]) (fun _ => [(0, own33 (.mk k n s l))]) (fun p => l.length - p.1) [1, 2, 3, 4, 5, 6, 7]
      (0, acc0) ⟨by dsimp only; omega, rfl, by dsimp only; rw [List.drop_zero]; omega⟩ ⟨SVle.refl _, SVle.refl _, SVle.refl _, trivial⟩ ⟨rfl, trivial⟩ ?_
    rintro ⟨i, q⟩ ⟨a1, a2, a3⟩
    dsimp only at a1 a2 a3
    refine run 400 rfl ?_
    refine at_ifd rfl (fun g => ?_) (fun g => ?_)
    rotate_left
    · dsimp only at g
      rw [hlen0] at g
      have e : i = l.length := by omega
      subst e
      rw [List.drop_length, rnonL] at a2
      refine run 400 rfl ?_
      exact at_ret rfl rfl [] ⟨by rw [a2], rfl, rfl⟩ trivial
    dsimp only at g
    rw [hlen0] at g
    have hlt : i < l.length := by omega
    have hget := rowsT_get hlt
    have hmem := getD_mem hlt
    rw [drop_getD hlt] at a2 a3
    generalize l.getD i .zero = u at hget hmem a2 a3
    rw [rnonL] at a2
    rw [szL] at a3
    have hu := ih u hmem (hL.2 u hmem)
    have hsz := szL_mem hmem
    have hul := rnonT_len u
    have hui := hu (by omega)
    generalize rnonT u = w at a2 hul hui
    have hwl : ((ints w).length : Int) = w.length := by rw [ints_len]
    refine run 400 rfl ?_
    refine at_val (.rp (tr u) 0) (does_index ty_ok _ rfl rfl rfl (by omega) (show (rowsT l)[(i : Int).toNat]? = some (tr u) from hget) rfl) ?_
    refine run 400 rfl ?_
    refine at_fn hui rfl ?_
    refine run 400 rfl ?_
    refine at_loop (fun p : Nat × List Int => p.1 ≤ w.length ∧ (w.drop p.1).foldl insF p.2 = w.foldl insF q ∧ p.2.length ≤ q.length + p.1) (fun p => [(1, .ptr 0 0), (3, .lst 1 (ints p.2)), (4, I i), (5, .lst 1 (ints w)), (6, I p.1)]) (fun _ => [(0, own33 (.mk k n s l))]) (fun p => w.length - p.1) [1, 2, 3, 4, 5, 6, 7]
      (0, q) ⟨by dsimp only; omega, rfl, by dsimp only; omega⟩ ⟨SVle.refl _, SVle.refl _, SVle.refl _, SVle.refl _, SVle.refl _, trivial⟩ ⟨rfl, trivial⟩ ?_
    rintro ⟨j, r⟩ ⟨b1, b2, b3⟩
    dsimp only at b1 b2 b3
    refine run 400 rfl ?_
    refine at_ifd rfl (fun g2 => ?_) (fun g2 => ?_)
    rotate_left
    · dsimp only at g2
      rw [hwl] at g2
      have e : j = w.length := by omega
      subst e
      rw [List.drop_length] at b2
      have b2 : r = w.foldl insF q := b2
      refine run 400 rfl ?_
      exact at_again (i + 1, r) ⟨by dsimp only; omega, by dsimp only; rw [b2]; exact a2, by dsimp only; omega⟩ (by dsimp only; omega) ⟨SVle.refl _, SVle.refl _, SVle.of_eq (by show I ((i : Int) + 1) = I ((i + 1 : Nat) : Int); rw [Int.natCast_add]; rfl), trivial⟩ ⟨rfl, trivial⟩
    dsimp only at g2
    rw [hwl] at g2
    have hlt2 : j < w.length := by omega
    have hget2 := ints_at hlt2
    rw [dropI hlt2, List.foldl_cons] at b2
    generalize w.getD j 0 = v at hget2 b2
    have hil := insF_len r v
    refine run 400 rfl ?_
    refine at_val (.rp [.int .i64 v] 0) (does_index ty_ok _ rfl rfl rfl (by omega) (show (ints w)[(j : Int).toNat]? = some [.int .i64 v] from hget2) rfl) ?_
    refine run 400 rfl ?_
    refine at_fn (ins_fn r v (by omega)) rfl ?_
    refine run 400 rfl ?_
    exact at_again (j + 1, insF r v) ⟨by dsimp only; omega, b2, by dsimp only; omega⟩ (by dsimp only; omega) ⟨SVle.refl _, SVle.refl _, SVle.refl _, SVle.refl _, SVle.of_eq (by show I ((j : Int) + 1) = I ((j + 1 : Nat) : Int); rw [Int.natCast_add]; rfl), trivial⟩ ⟨rfl, trivial⟩
end Go.Proofs.Ytmnmhehddbemkaa
/- The proof engine: lists in own blocks of more than one cell; owned slices. -/
namespace Go.Eng
open Go.RowKit

theorem Dens.set {g : Nat → Value} {H : Hp} {x : Value} {s : SV} (hs : Den g H s x) : ∀ (ds : List SV) (ws : List Value) (i : Nat), Dens g H ds ws → ws[i]? = some x → Dens g H (ds.set i s) ws
  | [], [], _, h, _ => h
  | [], _ :: _, _, h, _ => h.elim
  | _ :: _, [], _, h, _ => h.elim
  | d :: ds, v :: ws, 0, h, hx => by
    simp only [List.getElem?_cons_zero, Option.some.injEq] at hx
    subst hx
    exact ⟨hs, h.2⟩
  | d :: ds, v :: ws, i + 1, h, hx => ⟨h.1, Dens.set hs ds ws i h.2 (by simpa using hx)⟩

section
variable {E : Stc} {s : List Fr} {env : List (Nat × SV)} {own own2 : List (Nat × SO)} {nx : List Nat}
/-- A list in an own block gets a name. -/
theorem at_nameI {m : Md} (c k sz i : Nat) {ty sz0 : Nat} {cs : List SV} {rows : List (List DV)} (hc : ownq own c = some (.cells ty cs)) (hi : cs[i]? = some (.tl sz0 rows)) (hs : sz0 = sz ∨ rows = []) (hso : setOwnK c (.cells ty (cs.set i (.gl k sz rows))) own some = some own2)
    (kk : Sat E m s env ((k, .tok sz) :: own2) nx) (hm : Nat.ble E.cx.m0 k = true := by rfl) (hE : freshE k env = true := by rfl) (hO : freshO k own = true := by rfl) (hne : Nat.beq k c = false := by rfl) (hcs : SV.noKs k cs = true := by rfl) : Sat E m s env own nx := by
  rw [setOwnK_eq] at hso
  simp only [Option.some.injEq] at hso
  subst hso
  have hkc : ¬ k = c := fun e => by rw [e, Nat.beq_refl] at hne; cases hne
  refine sat_mono (fun a w hat => ?_) kk
  obtain ⟨hdf, g, H, hdn⟩ := hat
  obtain ⟨b, vs, g1, g2, g3, g4, g5, g6⟩ := hdn.ok c _ hc
  obtain ⟨x, hxi, hxd⟩ := Dens.get g2 hi
  obtain ⟨⟨ad, cp, e, h1, h2, h3⟩, ad', e'⟩ := hxd
  have hx : DenD H (.lst sz rows) x := by
    refine ⟨ad, cp, e, h1, h2, fun p hp => ?_⟩
    rcases hs with rfl | rfl
    · exact h3 p hp
    · exact ⟨.inl rfl, trivial⟩
  have hcp : cp = rows.length := by
    rw [e] at e'
    simp only [Value.slice.injEq, true_and] at e'
    exact e'.2
  obtain ⟨hd3, hp⟩ := hdn.tok (k := k) (sz := sz) (rows := rows) (Nat.le_of_ble_eq_true hm) hE hO hx ⟨ad, rows.length, cp, e, fun h => ⟨by rw [(h2 h).1]; rfl, (h2 h).2⟩, h1, fun p hp hlt => absurd hlt (by omega)⟩
  have hiff : ∀ j, (ownq ((k, SO.tok sz) :: setOwn c (.cells ty (cs.set i (.gl k sz rows))) own) j).isSome = true → (ownq ((k, SO.tok sz) :: own) j).isSome = true := by
    intro j hi
    simp only [ownq] at hi ⊢
    cases hb : Nat.beq k j with
    | true => rfl
    | false =>
      rw [hb, cond_false] at hi
      rw [cond_false]
      rw [ownq_setOwn] at hi
      split at hi
      · rename_i e
        subst e
        rw [hc]; rfl
      · exact hi
  refine ⟨hdf, _, H, { hd3 with ok := fun j o' hj => ?_, inj := fun i j hi hj => hd3.inj i j (hiff i hi) (hiff j hj) }⟩
  simp only [ownq] at hj
  cases hb : Nat.beq k j with
  | true =>
    have hj' : ownq ((k, SO.tok sz) :: own) j = some o' := by simp only [ownq, hb, cond_true]; rw [hb, cond_true] at hj; exact hj
    exact hd3.ok j o' hj'
  | false =>
    rw [hb, cond_false, ownq_setOwn] at hj
    have hjk : j ≠ k := fun e => by rw [e, Nat.beq_refl] at hb; cases hb
    by_cases hjc : j = c
    · subst hjc
      rw [if_pos rfl, hc] at hj
      simp only [Option.map_some, Option.some.injEq] at hj
      subst hj
      exact ⟨b, vs, by rw [upd_ne _ _ _ j hjk]; exact g1, Dens.set hp _ _ i (Dens.upd (k := k) (fun j hj => upd_ne _ _ _ j hj) cs vs hcs g2) hxi, g3, g4, g5, g6⟩
    · rw [if_neg hjc] at hj
      exact hd3.ok j o' (by simp only [ownq, hb, cond_false]; exact hj)
end
end Go.Eng
/- The proof engine, part 17s: regions whose order is drawn, gone through in stages. -/
namespace Go.Eng

/-- The first m operations are done, the others are not. -/
def SatA (E : Stc) (ops : Array Oper) (m : Nat) (s : List Fr) (env : List (Nat × SV)) (own : List (Nat × SO)) : Prop :=
  ∀ (fuel : Nat) (listed : Array Bool) (a : Act) (w : World), listed.size = ops.size → (∀ i, i < m → listed.getD i false = true) → (∀ i, m ≤ i → listed.getD i false = false) → ops.size - m ≤ fuel → At E env own a w → wpAny E.P .any ops (KK E s) fuel listed a w

/-- Each operation from n on stands behind all ahead of n. -/
def barGo (n : Nat) : Nat → List Nat → List Oper → Bool
  | _, _, [] => true
  | i, ms, o :: os => bif (bif Nat.ble n i then Nat.beq (Nat.land (maskOf ms o.after.toList) (Nat.sub (Nat.pow 2 n) 1)) (Nat.sub (Nat.pow 2 n) 1) else true) then barGo n (i + 1) (ms ++ [maskOf ms o.after.toList]) os else false

theorem barGo_spec {all : List Oper} {n : Nat} : ∀ (os : List Oper) (i : Nat) (ms : List Nat), barGo n i ms os = true → ms.length = i → (∀ k, os[k]? = all[i + k]?) → (∀ (k x : Nat), ms[k]? = some x → ∀ j, x.testBit j = true → Reach (fun i => all[i]?) k j) →
    ∀ k o, os[k]? = some o → n ≤ i + k → ∀ j, j < n → Reach (fun i => all[i]?) (i + k) j
  | [], _, _, _, _, _, _, k, o, h => by simp at h
  | x :: xs, i, ms, hs, hl, hall, hm, k, o, h => by
    simp only [barGo] at hs
    cases hc : (bif Nat.ble n i then Nat.beq (Nat.land (maskOf ms x.after.toList) (Nat.sub (Nat.pow 2 n) 1)) (Nat.sub (Nat.pow 2 n) 1) else true) with
    | false => rw [hc] at hs; cases hs
    | true =>
      rw [hc, cond_true] at hs
      have hx : all[i]? = some x := by have := hall 0; simpa using this.symm
      have hmask := maskOf_spec (get := fun i => all[i]?) hm hx x.after.toList (fun _ h => h)
      cases k with
      | zero =>
        intro hn j hj
        rw [Nat.add_zero] at hn ⊢
        rw [Nat.ble_eq_true_of_le hn, cond_true] at hc
        have e : (maskOf ms x.after.toList) &&& (2 ^ n - 1) = 2 ^ n - 1 := beq_true hc
        refine hmask j ?_
        have h2 : (2 ^ n - 1).testBit j = true := by rw [Nat.testBit_two_pow_sub_one]; simpa using hj
        rw [← e, Nat.testBit_and, Bool.and_eq_true] at h2
        exact h2.1
      | succ k =>
        intro hn j hj
        have := barGo_spec xs (i + 1) (ms ++ [maskOf ms x.after.toList]) hs (by simp [hl]) (fun k => by have := hall (k + 1); rw [show i + 1 + k = i + (k + 1) from by omega]; simpa using this) (fun q y hq => by
          by_cases hlt : q < ms.length
          · rw [List.getElem?_append_left hlt] at hq
            exact hm q y hq
          · rw [List.getElem?_append_right (by omega)] at hq
            have : q - ms.length = 0 := by
              cases hz : q - ms.length with
              | zero => rfl
              | succ z => rw [hz] at hq; simp at hq
            rw [this] at hq
            simp only [List.getElem?_cons_zero, Option.some.injEq] at hq
            subst hq
            obtain rfl : q = i := by omega
            exact hmask) k o (by simpa using h) (by omega) j (by omega)
        rw [show i + (k + 1) = i + 1 + k from by omega]
        exact this
def barOk (n : Nat) (all : List Oper) : Bool := barGo n 0 [] all
theorem barOk_spec {n : Nat} {all : List Oper} (h : barOk n all = true) {i : Nat} {o : Oper} (ho : all[i]? = some o) (hn : n ≤ i) {j : Nat} (hj : j < n) : Reach (fun i => all[i]?) i j := by
  have := barGo_spec (all := all) all 0 [] h rfl (fun k => by simp) (fun k x hx => by simp at hx) i o ho (by omega) j (by omega)
  simpa using this

/-- A stage of a region, in whatever order. -/
theorem wpAny_stage (E : Stc) (ops : Array Oper) (pre suf : List Oper) (plan : List PE) (env0 : List (Nat × SV)) (own0 : List (Nat × SO)) (s : List Fr) (m0 : Nat)
    (hops : ops.toList = pre ++ suf) (hlen : plan.length = pre.length) (hdst : dstsOk pre = true) (htil : tilsLt pre.length plan) (hsuf : barOk pre.length (pre ++ suf) = true) (hah : aheadOk 0 (pre ++ suf) = true)
    (cert : ∀ i o p, m0 ≤ i → pre[i]? = some o → plan[i]? = some p → Cert E ops pre plan env0 own0 s i o p)
    (hK : SatA E ops pre.length s (envOf (fun _ => true) 0 pre plan env0) (ownOf (fun _ => true) 0 plan own0)) :
    ∀ (fuel : Nat) (listed : Array Bool) (a : Act) (w : World), listed.size = ops.size →
      (∃ i, i < pre.length ∧ listed.getD i false = false) → (∀ i, i < m0 → listed.getD i false = true) → (∀ i, pre.length ≤ i → listed.getD i false = false) →
          (∀ j oj k, pre[j]? = some oj → listed.getD j false = true → behind oj k = true → listed.getD k false = true) →
          (listed.toList.filter (!·)).length ≤ fuel → At E (envOf (fun i => listed.getD i false) 0 pre plan env0) (ownOf (fun i => listed.getD i false) 0 plan own0) a w →
      wpAny E.P .any ops (KK E s) fuel listed a w := by
  have hget : ∀ i : Nat, ops[i]? = (pre ++ suf)[i]? := fun i => by rw [← hops]; simp
  have hsize : ops.size = pre.length + suf.length := by rw [← Array.length_toList, hops, List.length_append]
  have hd : ∀ (listed : Array Bool) (i : Nat), listed.size = ops.size → i < ops.size → listed.getD i true = listed.getD i false := by
    intro listed i h1 h2
    simp [h1, h2]
  intro fuel
  induction fuel with
  | zero =>
    intro listed a w hls ⟨i, hi, hli⟩ _ _ _ hf _
    · exfalso
      have hil : i < listed.size := by omega
      have : false ∈ listed.toList := by
        have e : listed.getD i false = listed[i] := by simp [hil]
        rw [e] at hli
        rw [← hli]
        exact Array.mem_toList_iff.2 (Array.getElem_mem hil)
      have hm : false ∈ listed.toList.filter (!·) := List.mem_filter.2 ⟨this, rfl⟩
      have := List.length_pos_of_mem hm
      omega
  | succ fuel ih =>
    intro listed a w hls ⟨i, hi, hli⟩ hm0 hsf hcl hf hat
    · -- the first phase
      -- the least that is left may come
      have hleast : ∃ m, m < pre.length ∧ listed.getD m false = false ∧ ∀ j, j < m → listed.getD j false = true := by
        have : ∀ n, n ≤ pre.length → (∀ j, j < n → listed.getD j false = true) ∨ ∃ m, m < n ∧ listed.getD m false = false ∧ ∀ j, j < m → listed.getD j false = true := by
          intro n
          induction n with
          | zero => intro _; exact .inl fun j hj => absurd hj (Nat.not_lt_zero j)
          | succ n ihn =>
            intro hn
            rcases ihn (by omega) with h | ⟨m, hm, h1, h2⟩
            · cases hc : listed.getD n false with
              | true =>
                refine .inl fun j hj => ?_
                rcases Nat.lt_or_ge j n with h' | h'
                · exact h j h'
                · have : j = n := by omega
                  subst this
                  exact hc
              | false => exact .inr ⟨n, by omega, hc, h⟩
            · exact .inr ⟨m, by omega, h1, h2⟩
        rcases this pre.length (Nat.le_refl _) with h | ⟨m, hm, h1, h2⟩
        · rw [h i hi] at hli; cases hli
        · exact ⟨m, hm, h1, h2⟩
      obtain ⟨m, hm, hlm, hbm⟩ := hleast
      have hom : ops[m]? = some pre[m] := by
        rw [hget, List.getElem?_append_left hm]
        exact List.getElem?_eq_getElem hm
      have hmr : m ∈ Region.ready .any ops listed := by
        refine ready_iff.2 ⟨by rw [hd listed m hls (by omega)]; exact hlm, pre[m], hom, fun j hj => hbm j ?_⟩
        have := aheadOk_spec (pre ++ suf) 0 m pre[m] hah (by rw [← hget]; exact hom) j hj
        omega
      refine ⟨fun h0 => (by rw [h0] at hmr; cases hmr), fun j hj => ?_⟩
      obtain ⟨hj1, o, ho, hb⟩ := ready_iff.1 hj
      have hjl : j < ops.size := (Array.getElem?_eq_some_iff.1 ho).1
      rw [hd listed j hls hjl] at hj1
      have hjp : j < pre.length := by
        rcases Nat.lt_or_ge j pre.length with h | h
        · exact h
        · exfalso
          have hoj0 : (pre ++ suf)[j]? = some o := by rw [← hget]; exact ho
          have := reach_listed (get := fun i => (pre ++ suf)[i]?) (L := fun i => listed.getD i false) (fun i o k' hi hL hb' => by
            rcases Nat.lt_or_ge i pre.length with h' | h'
            · rw [List.getElem?_append_left h'] at hi
              exact hcl i o k' hi hL hb'
            · simp only [hsf i h'] at hL
              cases hL) (barOk_spec hsuf hoj0 h hm) (fun o' ho' k' hk' => by
            rw [hoj0] at ho'
            cases ho'
            exact hb k' hk')
          simp only [hlm] at this
          cases this
      have hoj : pre[j]? = some o := by
        rw [hget, List.getElem?_append_left hjp] at ho
        exact ho
      have hpj : plan[j]? = some plan[j] := List.getElem?_eq_getElem (by omega)
      have hjm : m0 ≤ j := by
        rcases Nat.lt_or_ge j m0 with h | h
        · rw [hm0 j h] at hj1; cases hj1
        · exact h
      have hc := cert j o plan[j] hjm hoj hpj (fun i => listed.getD i false) hj1 hb hcl a w hat
      refine wpOp_mono (fun a' w' hat' => ?_) hc
      have hsel : ∀ i, i < pre.length → (listed.setIfInBounds j true).getD i false = add (fun i => listed.getD i false) j i := by
        intro i hip
        by_cases e : i = j
        · subst e
          have : i < listed.size := by omega
          simp [this, add]
        · rw [getD_set_ne false (Ne.symm e)]
          have : Nat.beq i j = false := by
            cases hb : Nat.beq i j with
            | false => rfl
            | true => exact absurd (beq_true hb) e
          simp [add, this]
      have hat2 : At E (envOf (fun i => (listed.setIfInBounds j true).getD i false) 0 pre plan env0) (ownOf (fun i => (listed.setIfInBounds j true).getD i false) 0 plan own0) a' w' := by
        rw [envOf_congr (sel' := add (fun i => listed.getD i false) j) pre plan 0 env0 (fun i _ hi => hsel i (by omega)), ownOf_congr (sel' := add (fun i => listed.getD i false) j) hsel plan 0 own0 htil (by omega)]
        refine at_le hat' ?_ fun _ _ h => h
        have := envOf_add (sel := fun i => listed.getD i false) pre plan 0 j env0 o plan[j] hdst hoj hpj
        rw [Nat.zero_add] at this
        exact this
      have hcount : ((listed.setIfInBounds j true).toList.filter (!·)).length ≤ fuel := by
        have hjls : j < listed.toList.length := by simpa using (by omega : j < listed.size)
        have e1 : (listed.setIfInBounds j true).toList = listed.toList.set j true := by simp
        have e2 : listed.toList = listed.toList.take j ++ listed.toList[j] :: listed.toList.drop (j + 1) := by
          rw [← List.drop_eq_getElem_cons hjls, List.take_append_drop]
        have e3 : listed.toList.set j true = listed.toList.take j ++ true :: listed.toList.drop (j + 1) := List.set_eq_take_append_cons_drop.trans (if_pos hjls)
        have e4 : listed.toList[j] = false := by
          have : listed.getD j false = listed[j]'(by omega) := by simp [show j < listed.size by omega]
          rw [this] at hj1
          simpa using hj1
        rw [e1, e3]
        rw [e2, e4] at hf
        simp only [List.filter_append, List.filter_cons, List.length_append] at hf ⊢
        simp at hf ⊢
        omega
      by_cases hall : ∃ i, i < pre.length ∧ (listed.setIfInBounds j true).getD i false = false
      · refine ih _ a' w' (by simpa using hls) hall (fun i hi => getD_set_true (hm0 i hi)) (fun i hi => by rw [getD_set_ne false (by omega)]; exact hsf i hi) (fun i oi k hoi hli hk => ?_) hcount hat2
        by_cases e : i = j
        · subst e
          rw [hoj] at hoi
          cases hoi
          exact getD_set_true (hb k hk)
        · rw [getD_set_ne false (Ne.symm e)] at hli
          exact getD_set_true (hcl i oi k hoi hli hk)
      · have hle : ops.size - pre.length ≤ fuel := by
          have hle : suf.length ≤ ((listed.setIfInBounds j true).toList.filter (!·)).length := by
            have e5 : (listed.setIfInBounds j true).toList.drop pre.length = List.replicate suf.length false := by
              apply List.ext_getElem?
              intro i
              rw [List.getElem?_drop, List.getElem?_replicate]
              by_cases hi : i < suf.length
              · rw [if_pos hi]
                have hlt : pre.length + i < (listed.setIfInBounds j true).size := by simp; omega
                have : (listed.setIfInBounds j true).getD (pre.length + i) false = false := by
                  rw [getD_set_ne false (by omega)]; exact hsf _ (by omega)
                rw [Array.getElem?_toList, Array.getElem?_eq_getElem hlt]
                have e6 : (listed.setIfInBounds j true).getD (pre.length + i) false = (listed.setIfInBounds j true)[pre.length + i] := by
                  rw [Array.getD_eq_getD_getElem?, Array.getElem?_eq_getElem hlt]; rfl
                rw [← e6, this]
              · rw [if_neg hi]
                apply List.getElem?_eq_none
                simp
                omega
            have e7 : ((listed.setIfInBounds j true).toList.filter (!·)).length = (((listed.setIfInBounds j true).toList.take pre.length).filter (!·)).length + (((listed.setIfInBounds j true).toList.drop pre.length).filter (!·)).length := by
              rw [← List.length_append, ← List.filter_append, List.take_append_drop]
            rw [e7, e5]
            simp
          omega
        have htrue : ∀ i, i < pre.length → (listed.setIfInBounds j true).getD i false = true := fun i hi => by
          cases hc : (listed.setIfInBounds j true).getD i false with
          | true => rfl
          | false => exact absurd ⟨i, hi, hc⟩ hall
        refine hK fuel _ a' w' (by simpa using hls) htrue (fun i hi => by rw [getD_set_ne false (by omega)]; exact hsf i hi) hle ?_
        rw [envOf_congr (sel' := fun i => (listed.setIfInBounds j true).getD i false) pre plan 0 env0 (fun i _ hi => (htrue i (by omega)).symm), ownOf_congr (sel' := fun i => (listed.setIfInBounds j true).getD i false) (N := pre.length) (fun i hi => (htrue i hi).symm) plan 0 own0 htil (by omega)]
        exact hat2

/-- What is done already, as a part of a plan. -/
def dums (env0 : List (Nat × SV)) : List Oper → List PE
  | [] => []
  | o :: os => ⟨match o.dst with | some d => nth env0 d | none => .any, [], none, none, false⟩ :: dums env0 os
theorem dums_len (env0 : List (Nat × SV)) : ∀ l, (dums env0 l).length = l.length
  | [] => rfl
  | _ :: l => by simp [dums, dums_len env0 l]

def dumsK {α : Type} (env0 : List (Nat × SV)) : List Oper → (List PE → α) → α
  | [], k => k []
  | o :: os, k => dumsK env0 os fun r => match o.dst with
    | some d => nthK d (fun s => k (⟨s, [], none, none, false⟩ :: r)) env0
    | none => k (⟨.any, [], none, none, false⟩ :: r)
theorem dumsK_eq {α : Type} (env0 : List (Nat × SV)) : ∀ (l : List Oper) (k : List PE → α), dumsK env0 l k = k (dums env0 l)
  | [], _ => rfl
  | o :: os, k => by
    simp only [dumsK, dums, dumsK_eq env0 os]
    cases o.dst with
    | some d => simp only [nthK_eq]
    | none => rfl

/-- A stage: from m0 done to m1 done. -/
def planS (P : Program) (T : Nat → TI) (mm n : Nat) (all : List Oper) (m0 : Nat) (pre0 pre1 pre : List Oper) (ans : List (Nat × Ans)) (env0 : List (Nat × SV)) (own0 : List (Nat × SO)) (nx st : List Nat) : PlanR :=
  bif dstsOk pre then
    bif barOk pre.length all then
      bif aheadOk 0 all then
        rmOK st own0 fun ownR => dumsK env0 pre0 fun ds => planK P T mm n all pre ans env0 ownR own0 m0 pre1 ds nx [] fun ps ob =>
          bif newOk own0 ps && (disO ownR ps && (eatOk own0 ps && eatU ps)) then
            bif freshP mm pre ps env0 own0 0 ps then
              bif tilsB pre ps 0 ps then
                envOfK (fun _ => true) 0 pre ps env0 fun env => ownOfK ps own0 fun own => .ok ps env own ob
              else .stuck 105
            else .stuck 104
          else .stuck 103
      else .stuck 102
    else .stuck 101
  else .stuck 100

theorem satA_mono {E : Stc} {ops : Array Oper} {m : Nat} {s : List Fr} {env env' : List (Nat × SV)} {own own' : List (Nat × SO)} (h : ∀ a w, At E env own a w → At E env' own' a w) (k : SatA E ops m s env' own') : SatA E ops m s env own :=
  fun fuel listed a w h1 h2 h3 h4 hat => k fuel listed a w h1 h2 h3 h4 (h a w hat)

/-- At the front of a region. -/
theorem at_stages {E : Stc} {id : Nat} {ops : Array Oper} {s : List Fr} {env : List (Nat × SV)} {own : List (Nat × SO)} {nx : List Nat} (h : SatA E ops 0 s env own) (hm : E.P.follows .mixedOrders = true := by rfl) : Sat E (.code (.region id ops true)) s env own nx := by
  intro a w hat
  refine wp_region_any hm ?_
  refine h ops.size _ a w.drew (by simp) (fun i hi => absurd hi (Nat.not_lt_zero i)) (fun i _ => ?_) (by omega) ?_
  · rw [Array.getD_eq_getD_getElem?, Array.getElem?_replicate]
    split <;> rfl
  · obtain ⟨hdf, g, H, hd⟩ := hat
    exact ⟨hdf, g, H, hd.drew⟩

/-- At the end of a region. -/
theorem at_stage_end {E : Stc} {ops : Array Oper} {m : Nat} {s : List Fr} {env : List (Nat × SV)} {own : List (Nat × SO)} (nx : List Nat) (hm : m = ops.size) (h : Sat E .norm s env own nx) : SatA E ops m s env own := by
  subst hm
  intro fuel listed a w hls h1 _ _ hat
  have hr : Region.ready .any ops listed = [] := by
    apply List.eq_nil_iff_forall_not_mem.2
    intro j hj
    obtain ⟨hj1, o, ho, _⟩ := ready_iff.1 hj
    have hlt : j < ops.size := (Array.getElem?_eq_some_iff.1 ho).1
    have := h1 j hlt
    have e : listed.getD j true = listed.getD j false := by simp [hls, hlt]
    rw [e, this] at hj1
    cases hj1
  cases fuel with
  | zero => exact ⟨hr, h a w hat⟩
  | succ fuel => exact ⟨fun _ => h a w hat, by rw [hr]; simp⟩

theorem envOf_dums {E : List (Nat × SV)} : ∀ (l : List Oper) (ps : List PE) (i0 _m : Nat) (sel : Nat → Bool) (env : List (Nat × SV)), (∀ i p, ps[i]? = some p → sel (i0 + i) = true → ∀ o d, l[i]? = some o → o.dst = some d → SVle (nth E d) p.sv) → leE E env → leE E (envOf sel i0 l ps env)
  | [], _, _, _, _, env, _, h => by simpa [envOf] using h
  | o :: os, [], i0, m, sel, env, hp, h => by
    intro t
    simp only [envOf, nth_put]
    split
    · exact SVle.any _
    · exact envOf_dums os [] (i0 + 1) m sel env (fun i p hq => by simp at hq) h t
  | o :: os, p :: ps, i0, m, sel, env, hp, h => by
    intro t
    simp only [envOf, nth_put]
    split
    · rename_i hd
      cases hs : sel i0 with
      | false => exact SVle.any _
      | true => exact hp 0 p rfl (by simpa using hs) o t rfl hd
    · exact envOf_dums os ps (i0 + 1) m sel env (fun i q hq hsel o' d ho' hd' => hp (i + 1) q (by simpa using hq) (by rw [show i0 + (i + 1) = i0 + 1 + i from by omega]; exact hsel) o' d (by simpa using ho') hd') h t

theorem ownOf_none {sel : Nat → Bool} : ∀ (ps : List PE) (i0 : Nat) (own : List (Nat × SO)), (∀ i p, ps[i]? = some p → sel (i0 + i) = true → p.new = [] ∧ p.eats = none) → ownOf sel i0 ps own = own
  | [], _, _, _ => rfl
  | p :: ps, i0, own, h => by
    simp only [ownOf]
    have h1 := h 0 p rfl
    have ih := fun own => ownOf_none (sel := sel) ps (i0 + 1) own (fun i q hq hs => h (i + 1) q (by simpa using hq) (by rw [show i0 + (i + 1) = i0 + 1 + i from by omega]; exact hs))
    cases hs : sel i0 with
    | false => simp [ih]
    | true =>
      obtain ⟨h2, h3⟩ := h1 (by simpa using hs)
      rw [h2, h3]
      cases tilOk sel p.til <;> simp [eatO, ih]

theorem dums_get (env0 : List (Nat × SV)) : ∀ (l : List Oper) (i : Nat) (o : Oper), l[i]? = some o → (dums env0 l)[i]? = some ⟨match o.dst with | some d => nth env0 d | none => .any, [], none, none, false⟩
  | [], _, _, h => by simp at h
  | x :: xs, 0, o, h => by
    simp only [List.getElem?_cons_zero, Option.some.injEq] at h
    subst h
    rfl
  | x :: xs, i + 1, o, h => by
    simp only [dums, List.getElem?_cons_succ]
    exact dums_get env0 xs i o (by simpa using h)

theorem at_stageG {E : Stc} {ops : Array Oper} {s : List Fr} {env : List (Nat × SV)} {own : List (Nat × SO)} {all pre0 pre1 suf : List Oper} {ps : List PE} {env' : List (Nat × SV)} {own' : List (Nat × SO)} {ob : List Prop} {m0 m1 : Nat}
    (st : List Nat) (hall : ops.toList = all) (hsplit : all = (pre0 ++ pre1) ++ suf) (h0 : pre0.length = m0) (h01 : (pre0 ++ pre1).length = m1) (ans : List (Nat × Ans)) (nx0 : List Nat) (h : planS E.P E.T E.cx.m0 E.n all m0 pre0 pre1 (pre0 ++ pre1) ans env own nx0 st = .ok ps env' own' ob) (ho : All ob)
    (hS : SatA E ops m1 s env' own') : SatA E ops m0 s env own := by
  subst hall
  generalize hpre : pre0 ++ pre1 = pre at h hsplit h01
  unfold planS at h
  cases h1 : dstsOk pre with
  | false => simp [h1] at h
  | true =>
    cases h2 : barOk pre.length ops.toList with
    | false => simp [h1, h2] at h
    | true =>
      cases h3 : aheadOk 0 ops.toList with
      | false => simp [h1, h2, h3] at h
      | true =>
        simp only [h1, h2, h3, cond_true, envOfK_eq, ownOfK_eq 0, rmOK_eq, dumsK_eq] at h
        have key := planK_sound E ops.toList pre ans env (rmO st own) own _ ps env' own' ob ((newOk own ps && (disO (rmO st own) ps && (eatOk own ps && eatU ps))) = true ∧ freshP E.cx.m0 pre ps env own 0 ps = true ∧ tilsB pre ps 0 ps = true ∧ env' = envOf (fun _ => true) 0 pre ps env ∧ own' = ownOf (fun _ => true) 0 ps own) (fun qs ob1 hq ha => by
          cases h4 : (newOk own qs && (disO (rmO st own) qs && (eatOk own qs && eatU qs))) with
          | false => simp [h4] at hq
          | true =>
            cases h5 : freshP E.cx.m0 pre qs env own 0 qs with
            | false => simp [h4, h5] at hq
            | true =>
              cases h6 : tilsB pre qs 0 qs with
              | false => simp [h4, h5, h6] at hq
              | true =>
                simp only [h4, h5, h6, cond_true, PlanR.ok.injEq] at hq
                obtain ⟨e1, e2, e3, e4⟩ := hq
                subst e1; subst e4
                exact ⟨rfl, ha, h4, h5, h6, e2.symm, e3.symm⟩) pre1 m0 (dums env pre0) nx0 [] (by rw [dums_len, h0]) h ho
        obtain ⟨_, ⟨q, hq⟩, hlen0, hlocs, hn, hf, htl, e1, e2⟩ := key
        have hlp : pre.length = m0 + pre1.length := by rw [← hpre, List.length_append, h0]
        have hlen : ps.length = pre.length := by rw [hlen0, hlp]
        rw [Bool.and_eq_true, Bool.and_eq_true, Bool.and_eq_true] at hn
        obtain ⟨hn, hdis, heat, hu⟩ := hn
        subst e1; subst e2
        have hget : ∀ i, m0 ≤ i → pre[i]? = pre1[i - m0]? := fun i hi => by rw [← hpre, List.getElem?_append_right (by omega), h0]
        have cert : ∀ i o p, m0 ≤ i → pre[i]? = some o → ps[i]? = some p → Cert E ops pre ps env own s i o p := by
          intro i o p hi hio hip
          obtain ⟨hd, p', hp', hl⟩ := locs_get pre1 m0 (i - m0) o hlocs (by rw [← hget i hi]; exact hio)
          rw [show m0 + (i - m0) = i from by omega] at hp' hl
          rw [hip] at hp'
          cases hp'
          exact cert_of_loc hsplit hlen (fun k o h => rmO_own h) hdis hn heat hu (by rw [← hsplit]; exact h3) hf (fun i p j hp hj => by have := (tilsB_spec ps 0 i p j htl hp hj).2; rwa [Nat.zero_add] at this) hio hip hd hl
        have htl' : tilsLt pre.length ps := fun p hp j hj => by
          obtain ⟨i, hi⟩ := List.getElem?_of_mem hp
          exact (tilsB_spec ps 0 i p j htl hi hj).1
        have hsz : ops.size = pre.length + suf.length := by rw [← Array.length_toList, hsplit, List.length_append]
        intro fuel listed a w hls hl1 hl2 hfu hat
        have hat' : At E (envOf (fun i => listed.getD i false) 0 pre ps env) (ownOf (fun i => listed.getD i false) 0 ps own) a w := by
          have hdum : ∀ i p, ps[i]? = some p → listed.getD i false = true → i < m0 ∧ ∃ o, pre0[i]? = some o ∧ p = ⟨match o.dst with | some d => nth env d | none => .any, [], none, none, false⟩ := by
            intro i p hp hs
            have hi : i < m0 := by
              rcases Nat.lt_or_ge i m0 with h | h
              · exact h
              · rw [hl2 i h] at hs; cases hs
            refine ⟨hi, pre0[i]'(by omega), List.getElem?_eq_getElem _, ?_⟩
            rw [hq, List.getElem?_append_left (by rw [dums_len]; omega), dums_get env pre0 i _ (List.getElem?_eq_getElem (by omega))] at hp
            exact (Option.some.inj hp).symm
          refine at_le hat ?_ ?_
          · refine envOf_dums pre ps 0 m0 _ env (fun i p hp hs o d hio hd => ?_) (fun _ => SVle.refl _)
            rw [Nat.zero_add] at hs
            obtain ⟨hi, o', ho', rfl⟩ := hdum i p hp hs
            have : pre[i]? = some o' := by rw [← hpre, List.getElem?_append_left (by omega)]; exact ho'
            rw [this] at hio
            cases hio
            rw [hd]
            exact SVle.refl _
          · rw [ownOf_none ps 0 own (fun i p hp hs => by
              rw [Nat.zero_add] at hs
              obtain ⟨_, o', _, rfl⟩ := hdum i p hp hs
              exact ⟨rfl, rfl⟩)]
            exact fun _ _ h => h
        have hS' : SatA E ops pre.length s (envOf (fun _ => true) 0 pre ps env) (ownOf (fun _ => true) 0 ps own) := by rw [h01]; exact hS
        by_cases hp1 : pre1.length = 0
        · -- nothing is to be done
          have e : pre.length = m0 := by omega
          refine hS' fuel listed a w hls (fun i hi => hl1 i (by omega)) (fun i hi => hl2 i (by omega)) (by omega) ?_
          rw [envOf_congr (sel' := fun i => listed.getD i false) pre ps 0 env (fun i _ hi => (hl1 i (by omega)).symm), ownOf_congr (sel' := fun i => listed.getD i false) (N := pre.length) (fun i hi => (hl1 i (by omega)).symm) ps 0 own htl' (by omega)]
          exact hat'
        · refine wpAny_stage E ops pre suf ps env own s m0 hsplit hlen h1 htl' (by rw [← hsplit]; exact h2) (by rw [← hsplit]; exact h3) cert hS' fuel listed a w hls ⟨m0, by omega, hl2 m0 (Nat.le_refl _)⟩ hl1 (fun i hi => hl2 i (by omega)) (fun j oj k hoj hj hb => ?_) ?_ hat'
          · have hjm : j < m0 := by
              rcases Nat.lt_or_ge j m0 with h | h
              · exact h
              · rw [hl2 j h] at hj; cases hj
            have hjl : j < pre.length := by omega
            have := aheadOk_spec ops.toList 0 j oj h3 (by rw [hsplit, List.getElem?_append_left hjl]; exact hoj) k hb
            exact hl1 k (by omega)
          · have e5 : listed.toList = List.replicate m0 true ++ List.replicate (ops.size - m0) false := by
              apply List.ext_getElem?
              intro i
              rw [Array.getElem?_toList, List.getElem?_append, List.length_replicate, List.getElem?_replicate, List.getElem?_replicate]
              by_cases hi : i < ops.size
              · have e6 : listed.getD i false = listed[i]'(by omega) := by rw [Array.getD_eq_getD_getElem?, Array.getElem?_eq_getElem (by omega)]; rfl
                rw [Array.getElem?_eq_getElem (by omega), ← e6]
                by_cases hm : i < m0
                · rw [if_pos hm, if_pos hm, hl1 i hm]
                · rw [if_neg hm, if_pos (by omega), hl2 i (by omega)]
              · rw [Array.getElem?_eq_none (by omega)]
                by_cases hm : i < m0
                · omega
                · rw [if_neg hm, if_neg (by omega)]
            rw [e5]
            simpa using hfu

/-- A stage whose operations come in whatever order: from m0 on up to m1; st: which own blocks are written. -/
theorem at_stage {E : Stc} {ops : Array Oper} {s : List Fr} {env : List (Nat × SV)} {own : List (Nat × SO)} {all pre0 pre1 rest suf : List Oper} {ps : List PE} {env' : List (Nat × SV)} {own' : List (Nat × SO)} {ob : List Prop} {m0 m1 : Nat}
    (d : Nat) (st : List Nat) (hall : ops.toList = all) (hs0 : splitK m0 all Prod.mk = (pre0, rest)) (hs1 : splitK d rest Prod.mk = (pre1, suf)) (h0 : pre0.length = m0) (h01 : (pre0 ++ pre1).length = m1) (ans : List (Nat × Ans)) (nx0 : List Nat)
    (h : planS E.P E.T E.cx.m0 E.n all m0 pre0 pre1 (pre0 ++ pre1) ans env own nx0 st = .ok ps env' own' ob) (ho : All ob) (hS : SatA E ops m1 s env' own') : SatA E ops m0 s env own :=
  at_stageG st hall (by rw [splitK_pair hs0, splitK_pair hs1, List.append_assoc]) h0 h01 ans nx0 h ho hS

theorem letsOut_then {Q : Exit → Act → World → Prop} {A : Act → World → Prop} (h : LetsOut (Exit.then A Q)) : LetsOut Q := h

theorem wp_then {P : Program} {o : Oper} {a : Act} {w : World} {A : Act → World → Prop} {K K' : Act → World → Prop} {Q : Exit → Act → World → Prop} (h : ∀ a w, K a w → K' a w) (hh : o.wp P a w K (Exit.then A Q)) : o.wp P a w K' Q := by
  have h2 := Oper.wp_mono h hh
  unfold Oper.wp at *
  generalize (execOp a.eval o).run P w = r at *
  cases r with
  | ok n w' =>
    cases n <;> simp only [Oper.upon] at h2 ⊢ <;>
      first
        | exact h2
        | exact Calls.mono h2 (fun e w'' he => by cases e <;> exact he)
  | halt x w' => cases x <;> simp only [Oper.upon] at h2 ⊢ <;> exact h2

/-- One operation that all others wait for. -/
theorem at_forced {E : Stc} {ops : Array Oper} {s : List Fr} {env : List (Nat × SV)} {own : List (Nat × SO)} (nx : List Nat) {all pre0 suf : List Oper} {o : Oper} {m0 : Nat} {α : Type} (φ : α → Prop) (σ : α → List (Nat × SV)) (τ : α → List (Nat × SO))
    (hall : ops.toList = all) (hs0 : splitK m0 all Prod.mk = (pre0, o :: suf)) (h0 : pre0.length = m0) (hbar : barOk (m0 + 1) all = true) (hah : aheadOk 0 all = true)
    (h : Sat E (.ops all [o]) (.lp (Joined φ σ τ) :: s) env own nx) (k : ∀ y, φ y → SatA E ops (m0 + 1) s (σ y) (τ y)) : SatA E ops m0 s env own := by
  subst hall
  have hsp := splitK_pair hs0
  have hget : ∀ i : Nat, ops[i]? = ops.toList[i]? := fun i => by simp
  have hop : ops[m0]? = some o := by
    rw [hget, hsp, List.getElem?_append_right (by omega), h0, Nat.sub_self]
    rfl
  have hm : m0 < ops.size := (Array.getElem?_eq_some_iff.1 hop).1
  intro fuel listed a w hls hl1 hl2 hfu hat
  have hd : ∀ i, i < ops.size → listed.getD i true = listed.getD i false := fun i hi => by simp [hls, hi]
  have hready : ∀ j, j ∈ Region.ready .any ops listed ↔ j = m0 := by
    intro j
    rw [ready_iff]
    constructor
    · rintro ⟨hj1, o', ho, hb⟩
      have hjl : j < ops.size := (Array.getElem?_eq_some_iff.1 ho).1
      rw [hd j hjl] at hj1
      have hge : m0 ≤ j := by
        rcases Nat.lt_or_ge j m0 with h | h
        · rw [hl1 j h] at hj1; cases hj1
        · exact h
      rcases Nat.lt_or_ge m0 j with h | h
      · exfalso
        have hoj0 : ops.toList[j]? = some o' := by rw [← hget]; exact ho
        have := reach_listed (get := fun i => ops.toList[i]?) (L := fun i => listed.getD i false) (fun i oi k' hi hL hb' => hl1 k' (by
          have hlt' := aheadOk_spec ops.toList 0 i oi hah hi k' hb'
          rcases Nat.lt_or_ge i m0 with h' | h'
          · omega
          · simp only [hl2 i h'] at hL
            cases hL)) (barOk_spec hbar hoj0 (by omega) (Nat.lt_succ_self m0)) (fun o'' ho' k' hk' => by
          rw [hoj0] at ho'
          cases ho'
          exact hb k' hk')
        simp only [hl2 _ (Nat.le_refl _)] at this
        cases this
      · omega
    · rintro rfl
      refine ⟨by rw [hd _ hm]; exact hl2 _ (Nat.le_refl _), o, hop, fun j hj => hl1 j ?_⟩
      have := aheadOk_spec ops.toList 0 j.succ.pred
      have := aheadOk_spec ops.toList 0 _ o hah (by rw [← hget]; exact hop) j hj
      omega
  cases fuel with
  | zero => omega
  | succ fuel =>
    refine ⟨fun e => ?_, fun j hj => ?_⟩
    · have := (hready m0).2 rfl
      rw [e] at this
      cases this
    · obtain rfl := (hready j).1 hj
      have hw := h a w hat
      have key : ∀ a w, KK E (.lp (Joined φ σ τ) :: s) .normal a w → wpAny E.P .any ops (KK E s) fuel (listed.setIfInBounds j true) a w := by
        rintro a w ⟨env1, own1, ⟨y, hy, he, ho⟩, hat1⟩
        refine k y hy fuel _ a w (by simpa using hls) (fun i hi => ?_) (fun i hi => ?_) (by omega) (at_sub hat1 he ho)
        · by_cases e : i = j
          · subst e
            have : i < listed.size := by omega
            simp [this]
          · rw [getD_set_ne false (Ne.symm e)]; exact hl1 i (by omega)
        · rw [getD_set_ne false (by omega)]; exact hl2 i (by omega)
      unfold wpOp
      rw [hop]
      simp only
      unfold wpList at hw
      rw [Array.toArray_toList] at hw
      split
      · rename_i hwant
        rw [if_pos hwant] at hw
        exact hw.imp (wp_then key) (fun h => ⟨h.1, letsOut_then h.2⟩)
      · rename_i hwant
        rw [if_neg hwant] at hw
        exact key _ _ hw

/-- Between stages the state may be looked at in other words. -/
theorem at_between {E : Stc} {ops : Array Oper} {m : Nat} {s : List Fr} {env : List (Nat × SV)} {own : List (Nat × SO)} (nx : List Nat) {α : Type} (φ : α → Prop) (σ : α → List (Nat × SV)) (τ : α → List (Nat × SO))
    (h : Sat E .norm (.lp (Joined φ σ τ) :: s) env own nx) (k : ∀ y, φ y → SatA E ops m s (σ y) (τ y)) : SatA E ops m s env own := by
  intro fuel listed a w h1 h2 h3 h4 hat
  obtain ⟨env1, own1, ⟨y, hy, he, ho⟩, hat1⟩ := h a w hat
  exact k y hy fuel listed a w h1 h2 h3 h4 (at_sub hat1 he ho)

end Go.Eng
/- The proof engine: slices whose cells are owned. -/
namespace Go.Eng
open Go.RowKit

variable {E : Stc} {all rest : List Oper} {o : Oper} {s : List Fr} {env : List (Nat × SV)} {own own2 : List (Nat × SO)} {nx : List Nat}

theorem SVle.arr (k n : Nat) : SVle (.arr k n) (.sl k 0 n n) := fun _ _ _ h => .inl h

/-- A list that has nothing may be owned. -/
theorem at_nilS {m : Md} (t k : Nat) {sz : Nat} (ht : nth env t = .tl sz []) (kk : Sat E m s ((t, .sl k 0 0 0) :: env) ((k, .buf [] 0) :: own) nx)
    (hm : Nat.ble E.cx.m0 k = true := by rfl) (hE : freshE k env = true := by rfl) (hO : freshO k own = true := by rfl) : Sat E m s env own nx := by
  refine sat_mono (fun a w hat => ?_) kk
  obtain ⟨hdf, g, H, hdn⟩ := hat
  have hd2 := hdn.bind (k := k) (x := .pointer none) (so := .buf [] 0) (Nat.le_of_ble_eq_true hm) hE hO (.inr ⟨upd_same _ _ _, rfl⟩) (fun b hb => by cases hb)
  refine ⟨hdf, _, H, { hd2 with den := fun i => ?_ }⟩
  simp only [nth]
  cases hb : Nat.beq t i with
  | true =>
    rw [← beq_true hb]
    have := hdn.den t
    rw [ht] at this
    obtain ⟨_, ad, e⟩ := this
    exact .inr ⟨rfl, rfl, rfl, upd_same _ _ _, ad, e⟩
  | false => exact hd2.den i

/-- The same, in an own block. -/
theorem at_nilSI {m : Md} (c k i : Nat) {ty sz : Nat} {cs : List SV} (hc : ownq own c = some (.cells ty cs)) (hi : cs[i]? = some (.tl sz [])) (hso : setOwnK c (.cells ty (cs.set i (.sl k 0 0 0))) own some = some own2)
    (kk : Sat E m s env ((k, .buf [] 0) :: own2) nx) (hm : Nat.ble E.cx.m0 k = true := by rfl) (hE : freshE k env = true := by rfl) (hO : freshO k own = true := by rfl) (hne : Nat.beq k c = false := by rfl) (hcs : SV.noKs k cs = true := by rfl) : Sat E m s env own nx := by
  rw [setOwnK_eq] at hso
  simp only [Option.some.injEq] at hso
  subst hso
  have hkc : ¬ k = c := fun e => by rw [e, Nat.beq_refl] at hne; cases hne
  refine sat_mono (fun a w hat => ?_) kk
  obtain ⟨hdf, g, H, hdn⟩ := hat
  obtain ⟨b, vs, g1, g2, g3, g4, g5, g6⟩ := hdn.ok c _ hc
  obtain ⟨x, hxi, hxd⟩ := Dens.get g2 hi
  obtain ⟨_, ad, e⟩ := hxd
  have hd3 := hdn.bind (k := k) (x := .pointer none) (so := .buf [] 0) (Nat.le_of_ble_eq_true hm) hE hO (.inr ⟨upd_same _ _ _, rfl⟩) (fun b hb => by cases hb)
  have hp : Den (Eng.upd g k (.pointer none)) H (.sl k 0 0 0) x := .inr ⟨rfl, rfl, rfl, upd_same _ _ _, ad, e⟩
  have hiff : ∀ j, (ownq ((k, SO.buf [] 0) :: setOwn c (.cells ty (cs.set i (.sl k 0 0 0))) own) j).isSome = true → (ownq ((k, SO.buf [] 0) :: own) j).isSome = true := by
    intro j hi
    simp only [ownq] at hi ⊢
    cases hb : Nat.beq k j with
    | true => rfl
    | false =>
      rw [hb, cond_false] at hi
      rw [cond_false]
      rw [ownq_setOwn] at hi
      split at hi
      · rename_i e
        subst e
        rw [hc]; rfl
      · exact hi
  refine ⟨hdf, _, H, { hd3 with ok := fun j o' hj => ?_, inj := fun i j hi hj => hd3.inj i j (hiff i hi) (hiff j hj) }⟩
  simp only [ownq] at hj
  cases hb : Nat.beq k j with
  | true =>
    have hj' : ownq ((k, SO.buf [] 0) :: own) j = some o' := by simp only [ownq, hb, cond_true]; rw [hb, cond_true] at hj; exact hj
    exact hd3.ok j o' hj'
  | false =>
    rw [hb, cond_false, ownq_setOwn] at hj
    have hjk : j ≠ k := fun e => by rw [e, Nat.beq_refl] at hb; cases hb
    by_cases hjc : j = c
    · subst hjc
      rw [if_pos rfl, hc] at hj
      simp only [Option.map_some, Option.some.injEq] at hj
      subst hj
      exact ⟨b, vs, by rw [upd_ne _ _ _ j hjk]; exact g1, Dens.set hp _ _ i (Dens.upd (k := k) (fun j hj => upd_ne _ _ _ j hj) cs vs hcs g2) hxi, g3, g4, g5, g6⟩
    · rw [if_neg hjc] at hj
      exact hd3.ok j o' (by simp only [ownq, hb, cond_false]; exact hj)

/-- A place of an owned slice. -/
theorem does_indexS {P : Program} {T : Nat → TI} (hT : ∀ t, T t = tiOf P t) {o : Oper} {t sz k off m c : Nat} {x i : Operand} {kk : IntKind} {n : Int} (ho : o.op = .indexAddr t x i) (hx : ev env x = .sl k off m c) (hi : ev env i = .int kk n)
    (h0 : 0 ≤ n ∧ n < m) (hkT : lstT T t sz = true) : DoesV P o env own (.ptr k (off + n.toNat * sz)) := by
  obtain ⟨hk, hz, hk2, _⟩ := lstT_spec hT hkT
  obtain ⟨i1, h1⟩ := slice_ti hk
  obtain ⟨i2, d2, h2⟩ := ti_spec hk2
  refine does_val fun cx g H q a w hd => ?_
  have e1 := hd.ev x
  rw [hx] at e1
  rcases e1 with ⟨b, hg, e1⟩ | ⟨_, hm, _⟩
  · have e2 := hd.ev i
    rw [hi] at e2
    have e2 : a.eval i = .int kk n := e2
    refine ⟨.pointer (some ⟨b, off + n.toNat * sz, none⟩), ?_, b, hg, rfl⟩
    have : 0 ≤ n ∧ n < (m : Int) := h0
    simp [execOp, ho, e1, e2, Instr.indexAt, asIntOf, run_underlying h1.und, this, run_sizeOf' h2.info, ← h2.size, hz, Addr.add]
  · subst hm
    omega

theorem flatU_len {sz : Nat} {rows : List (List DV)} (h : ∀ r ∈ rows, r.length = sz) : (flatU rows).length = rows.length * sz := by
  unfold flatU
  rw [List.length_map]
  induction rows with
  | nil => simp
  | cons r l ih =>
    rw [List.flatten_cons, List.length_append, h r (by simp), ih fun q hq => h q (by simp [hq]), List.length_cons, Nat.add_mul]
    omega
theorem flatU_app (a b : List (List DV)) : flatU (a ++ b) = flatU a ++ flatU b := by simp [flatU]

theorem Dens.anys' {g : Nat → Value} {H : Hp} {n : Nat} {vs : List Value} (h : vs.length = n) : Dens g H (Eng.anys n) vs := by
  subst h
  exact Dens.anys vs

theorem zeroCells_one {z : Array Value} (hz : ∀ v ∈ z.toList, v.oneCell' = true) (m : Nat) : ∀ v ∈ (Builtin.zeroCells z m).toList, v.oneCell' = true := by
  intro v hv
  exact made_one hz m v hv

/-- An owned slice grows. -/
theorem at_appendS {T : Nat → TI} (k k' sz : Nat) {t n c r : Nat} {x y : Operand} {rows ys : List (List DV)} {cl : Call} (hT : ∀ t, T t = tiOf E.P t) (ho : o.op = .call cl) (hcl : cl.callee = .builtin .append) (ha : cl.args = #[x, y]) (hat : cl.argTypes = #[t, t])
    (hx : ev env x = .sl k 0 n c) (hy : lstv (ev env y) = some (sz, ys)) (hk : ownq own k = some (.buf rows r)) (hn : n = rows.length) (hr : ∀ q ∈ rows, q.length = sz) (hcs : n * sz + r = c * sz) (hnc : n ≤ c) (hy0 : 0 < ys.length) (hkT : lstT T t sz = true) (hl : ((n + ys.length : Nat) : Int) ≤ 9223372036854775807) (hb : (n + ys.length) * (T (T t).elem).bytes ≤ 140737488355328)
    (hless : lessK k own some = some own2)
    (kk : ∀ c' r', n + ys.length ≤ c' → (n + ys.length) * sz + r' = c' * sz → Sat E (.ops all rest) s (put o.dst (.sl k' 0 (n + ys.length) c') env) ((k', .buf (rows ++ ys) r') :: own2) nx)
    (hm : Nat.ble E.cx.m0 k' = true := by rfl) (hE : freshE k' env = true := by rfl) (hO : freshO k' own2 = true := by rfl) (hones : SV.ones (constsS (T (T t).elem).zero) = true := by rfl)
    (hg : guardK all o.guard env true false false = true := by rfl) (hd : dstLt o.dst E.n = true := by rfl) : Sat E (.ops all (o :: rest)) s env own nx := by
  intro a w hat0
  have hwant := wanted_of (E := E) (own := own) hg a w hat0
  rw [lessK_eq] at hless
  simp only [Option.some.injEq] at hless
  subst hless
  subst hn
  unfold wpList
  rw [if_pos hwant]
  refine .inl ?_
  obtain ⟨hdf, g, H, hdn⟩ := hat0
  obtain ⟨hk1, hz, hk2, hz2, hz0⟩ := lstT_spec hT hkT
  rw [hT (T t).elem, hT t] at hb hones
  obtain ⟨i1, h1⟩ := slice_ti hk1
  obtain ⟨i2, d2, h2⟩ := ti_spec hk2
  obtain ⟨z, hz3, hz4⟩ := zero_spec h2 hz2
  have hzs : z.cells.size = sz := by rw [← hz0, hz4, Array.length_toList]
  have hsz : sz = i2.size := by rw [← hz, h2.size]
  rw [h2.bytes] at hb
  have hrun : ∀ v w', (Builtin.append_ #[t, t] o.type #[a.eval x, a.eval y]).run E.P w = .ok v w' → (execOp a.eval o).run E.P w = .ok (.value v) w' := by
    intro v w' h
    simp only [execOp, ho, resolve, hcl, ha, hat]
    simp [invoke, builtin, h]
  obtain ⟨bd, c2, e2, hc2, hn2, hp2⟩ := lstv_den hy (hdn.ev y)
  cases hbd : bd with
  | none => rw [(hn2 hbd).1] at hy0; simp at hy0
  | some q =>
  subst hbd
  obtain ⟨hq1, hq2⟩ := hp2 q rfl
  obtain ⟨nv, hf2, hc3⟩ := hq2.flat
  have hnl := hf2.length
  have hq1 : q.spot = none := hq1.resolve_left fun e => by rw [e] at hy0; simp at hy0
  have hnews : ∀ (j : Nat) (v : Value), nv[j]? = some v → w.cell? (q.add j) = some v := by
    intro j v hj
    obtain ⟨b, off, spot⟩ := q
    simp only at hq1
    subst hq1
    rw [addr_add]
    exact hdn.hp _ _ _ (hc3 j v hj)
  have hdl : Dn E.cx g H env (rm1 k own) E.n a.tmps w := hdn.lessO (rm1_less k own)
  have hmul : (rows.length + ys.length) * sz = rows.length * sz + ys.length * sz := Nat.add_mul _ _ _
  -- a new block
  have fresh : ∀ (ov : List Value) (cap : Nat), Dens g H (flatU rows) ov → (∀ v ∈ ov, v.oneCell' = true) → rows.length + ys.length ≤ cap →
      (execOp a.eval o).run E.P w = .ok (.value (.slice (some ⟨w.heap.size, 0, none⟩) (rows.length + ys.length) cap)) (w.drew.alloc (.cells (ov.toArray ++ nv.toArray ++ Builtin.zeroCells z.cells (cap - (rows.length + ys.length))) (tiOf E.P t).elem)) →
      o.wp E.P a w (wpList E.P all.toArray (KK E s) rest) (KK E s) := by
    intro ov cap hod ho1 hcap hr'
    have hd1 := hdl.drew.grown (w' := w.drew.alloc (.cells (ov.toArray ++ nv.toArray ++ Builtin.zeroCells z.cells (cap - (rows.length + ys.length))) (tiOf E.P t).elem)) rfl rfl rfl (by simp) (fun b hb => heap_alloc_lt w.drew _ hb)
    have hzl : ((Builtin.zeroCells z.cells (cap - (rows.length + ys.length))).toList).length = (cap - (rows.length + ys.length)) * sz := by rw [Array.length_toList, size_zeroCells, hzs]
    have hone : ∀ v ∈ ov ++ nv ++ (Builtin.zeroCells z.cells (cap - (rows.length + ys.length))).toList, v.oneCell' = true := by
      intro v hv
      rcases List.mem_append.1 hv with hv | hv
      · rcases List.mem_append.1 hv with hv | hv
        · exact ho1 v hv
        · exact hf2.one v hv
      · have hz1 : ∀ v ∈ z.cells.toList, v.oneCell' = true := by
          rw [← hz4]
          exact (constsS_den g H _).oneCells hones
        exact zeroCells_one hz1 _ v hv
    have hden : Dens g H (bufC (rows ++ ys) ((cap - (rows.length + ys.length)) * sz)) (ov ++ nv ++ (Builtin.zeroCells z.cells (cap - (rows.length + ys.length))).toList) := by
      rw [bufC, flatU_app]
      exact Dens.append (Dens.append hod hf2.toFlat) (Dens.anys' hzl)
    have hd2 := hd1.bind (k := k') (x := .pointer (some ⟨w.heap.size, 0, none⟩)) (so := .buf (rows ++ ys) ((cap - (rows.length + ys.length)) * sz)) (Nat.le_of_ble_eq_true hm) hE hO (.inl ⟨(tiOf E.P t).elem, w.heap.size, ov ++ nv ++ (Builtin.zeroCells z.cells (cap - (rows.length + ys.length))).toList, upd_same _ _ _,
      Dens.plain g _ H _ _ _ hden, hone, by
        rw [show (w.drew.alloc (.cells (ov.toArray ++ nv.toArray ++ Builtin.zeroCells z.cells (cap - (rows.length + ys.length))) (tiOf E.P t).elem)).heap[w.heap.size]? = _ from heap_alloc_new w.drew _]
        congr 2
        apply Array.ext'
        simp, fun j => Hp.on_new hdl.hp j, .inl hdl.base.size⟩) (fun b hb j o' hj e => by
        simp only [blkOf, Option.some.injEq] at hb
        subst hb
        have := (hdl.ok j o' hj).blk_lt e
        omega)
    unfold Oper.wp
    rw [hr']
    refine kk cap _ hcap ?_ _ _ (At.put hdf hd2 (.inl ⟨w.heap.size, upd_same _ _ _, rfl⟩) fun d e => by rw [e] at hd; exact Nat.blt_eq.mp hd)
    rw [← Nat.add_mul, Nat.add_sub_cancel' hcap]
  have ex := hdn.ev x
  rw [hx] at ex
  rcases ex with ⟨b, hgk, ex⟩ | ⟨_, hn0, hc0, hgk, ad, ex⟩
  · -- cells of its own
    rcases hdn.ok k _ hk with ⟨ty, b', vs, e0, hv, hv1, hw, hH, hmine⟩ | ⟨e0, _⟩
    rotate_left
    · rw [e0] at hgk; cases hgk
    have hbb : b' = b := by rw [e0] at hgk; simpa using hgk
    subst hbb
    obtain ⟨v1, v2, rfl, hva, hvb⟩ := Dens.append_inv hv
    have hl1 : v1.length = rows.length * sz := by rw [hva.length, flatU_len hr]
    have hl2 : v2.length = r := by rw [hvb.length]; simp [anys]
    have hvl : (v1 ++ v2).length = c * sz := by rw [List.length_append, hl1, hl2, hcs]
    by_cases hroom : rows.length + ys.length ≤ c
    · have hfit : rows.length * sz + nv.length ≤ (v1 ++ v2).length := by
        rw [hnl, hvl, ← Nat.add_mul]
        exact Nat.mul_le_mul_right _ hroom
      have hr' := run_append_room_off (P := E.P) w t o.type _ i2 h1.und h2.info ty b' 0 rows.length c (v1 ++ v2).toArray hw q ys.length c2 nv (by rw [hnl, hsz]) hnews hf2.one hroom (by rw [← hsz]; simpa using hfit)
      rw [← hsz] at hr'
      obtain ⟨ty', hd1⟩ := hdn.openB hk hgk
      have hk' : ownq (setOwn k (.cells ty' (bufC rows r)) own) k = some (.cells ty' (bufC rows r)) := by rw [ownq_setOwn, if_pos rfl, hk]; rfl
      have hone : ∀ v ∈ splice nv (rows.length * sz) (v1 ++ v2), v.oneCell' = true := by
        intro v hv'
        unfold Eng.splice at hv'
        rcases List.mem_append.1 hv' with hv' | hv'
        · rcases List.mem_append.1 hv' with hv' | hv'
          · exact hv1 v (List.mem_of_mem_take hv')
          · exact hf2.one v hv'
        · exact hv1 v (List.mem_of_mem_drop hv')
      have hden : Dens g H (bufC (rows ++ ys) (c * sz - (rows.length + ys.length) * sz)) (splice nv (rows.length * sz) (v1 ++ v2)) := by
        unfold Eng.splice
        rw [bufC, flatU_app, ← hl1, List.take_left']
        · refine Dens.append (Dens.append hva hf2.toFlat) (Dens.anys' ?_)
          rw [List.length_drop, hvl, hl1, hnl, hmul]
        · rfl
      have hd2 := hd1.write (new := bufC (rows ++ ys) (c * sz - (rows.length + ys.length) * sz)) hk' hgk hden hone
      have hd3 := hd2.lessO (own2 := rm1 k own) (k := k) (fun j o' hj => by
        have := rm1_less k own j o' hj
        refine ⟨this.1, ?_⟩
        rw [ownq_setOwn, if_neg this.1, ownq_setOwn, if_neg this.1]
        exact this.2)
      have hd4 := hd3.bind (k := k') (x := .pointer (some ⟨b', 0, none⟩)) (so := .buf (rows ++ ys) (c * sz - (rows.length + ys.length) * sz)) (Nat.le_of_ble_eq_true hm) hE hO
        (.inl ⟨ty, b', splice nv (rows.length * sz) (v1 ++ v2), upd_same _ _ _, Dens.plain g _ H _ _ _ hden, hone, setRow_heap w b' _ _ ty (0, 0) hw, hH, hmine⟩) (fun b2 hb2 j o' hj e => by
          simp only [blkOf, Option.some.injEq] at hb2
          subst hb2
          have hl := rm1_less k own j o' hj
          exact hl.1 (hdn.inj j k (by rw [hl.2]; rfl) (by rw [hk]; rfl) b' e (by rw [hgk]; rfl)))
      unfold Oper.wp
      rw [hrun _ _ (by rw [ex, e2]; exact hr')]
      have e9 : (splice nv (0 + rows.length * sz) (v1 ++ v2).toArray.toList).toArray = (splice nv (rows.length * sz) (v1 ++ v2)).toArray := by rw [Nat.zero_add]
      rw [e9]
      have hle : (rows.length + ys.length) * sz ≤ c * sz := Nat.mul_le_mul_right _ hroom
      exact kk c _ hroom (by omega) _ _ (At.put hdf hd4 (.inl ⟨b', upd_same _ _ _, rfl⟩) fun d e => by rw [e] at hd; exact Nat.blt_eq.mp hd)
    · have holds : ∀ (j : Nat) (v : Value), v1[j]? = some v → w.cell? ((⟨b', 0, none⟩ : Addr).add j) = some v := by
        intro j v hj
        rw [addr_add, ok_cell hw, Nat.zero_add, List.getElem?_append_left (List.getElem?_eq_some_iff.1 hj).1]
        exact hj
      have hr' := run_append_grow (P := E.P) w t o.type _ i2 z h1.und h2.info hz3 ⟨b', 0, none⟩ rows.length c v1 (by rw [hl1, hsz]) holds q ys.length c2 nv (by rw [hnl, hsz]) hnews (by omega) hl (growslice_fits (by omega) hb)
      exact fresh v1 _ hva (fun v hv' => hv1 v (by simp [hv'])) (grownCap_ge _ _ _ _) (hrun _ _ (by rw [ex, e2]; exact hr'))
  · -- there was nothing
    subst hc0
    have hrows : rows = [] := List.eq_nil_of_length_eq_zero hn0
    subst hrows
    simp only [List.length_nil, Nat.zero_add] at hl hb
    cases ad with
    | none =>
      have hr' := run_append_nil (P := E.P) w t o.type _ i2 z h1.und h2.info hz3 q ys.length c2 nv (by rw [hnl, hsz]) hnews hy0 hl (by omega)
      exact fresh [] (grownCap w ys.length 0 (tiOf E.P t).elem) trivial (by simp) (by rw [List.length_nil, Nat.zero_add]; exact grownCap_ge _ _ _ _) (hrun _ _ (by rw [ex, e2, List.length_nil, Nat.zero_add]; simpa using hr'))
    | some p =>
      have hr' := run_append_grow (P := E.P) w t o.type _ i2 z h1.und h2.info hz3 p 0 0 [] (by simp) (by simp) q ys.length c2 nv (by rw [hnl, hsz]) hnews (by omega) (by simpa using hl) (growslice_fits (by omega) (by simpa using hb))
      exact fresh [] _ trivial (by simp) (grownCap_ge _ _ _ _) (hrun _ _ (by rw [ex, e2]; exact hr'))

/-- What was owned is let be read, and written no more: a slice of it, from the front. -/
theorem at_pubG {m : Md} (t k sz : Nat) {n c r : Nat} {rows : List (List DV)} (rows1 rows2 : List (List DV)) (sv : SV) (ht : nth env t = .sl k 0 n c) (hk : ownq own k = some (.buf rows r)) (hcs : rows = rows1 ++ rows2) (hn : n = rows1.length) (hnc : n ≤ c) (hr : ∀ r ∈ rows1, r.length = sz)
    (hsv : ∀ g H x a, DenD H (.lst sz rows1) x → x = .slice a n c → Den g H sv x) (hless : lessK k own some = some own2) (kk : Sat E m s ((t, sv) :: env) own2 nx) : Sat E m s env own nx := by
  refine sat_mono (fun a w h => ?_) kk
  obtain ⟨hdf, g, H, hd⟩ := h
  rw [lessK_eq] at hless
  simp only [Option.some.injEq] at hless
  subst hless
  have hl := rm1_less k own
  subst hcs; subst hn
  have ht' := hd.den t
  rw [ht] at ht'
  rcases ht' with ⟨b0, hg0, ex⟩ | ⟨_, hn0, hc0, hgk, ad, ex⟩
  · rcases hd.ok k _ hk with ⟨ty, b, vs, hg, hv, hone, hw, hH, hm⟩ | ⟨hg, _⟩
    rotate_left
    · rw [hg] at hg0; cases hg0
    have hbb : b0 = b := by rw [hg] at hg0; simpa using hg0.symm
    subst hbb
    rw [bufC, flatU_app, List.append_assoc] at hv
    obtain ⟨v1, v2, rfl, hv1, hv2⟩ := Dens.append_inv hv
    have hf := DenF.of_flatU hr hv1
    have hd2 := hd.fill (v1 ++ v2) hl (fun j o hj hne e => hne (hd.inj j k (by rw [hj]; rfl) (by rw [hk]; rfl) b0 e (by rw [hg]; rfl))) hm hw (fun j _ => hH j) (q := 0) (by simp)
    have e : (splice (v1 ++ v2) 0 (v1 ++ v2).toArray.toList).toArray = (v1 ++ v2).toArray := by simp [splice]
    rw [e, setRow_self w b0 (v1 ++ v2).toArray ty (0, 0) hw] at hd2
    have hle := Hp.add_le (H := H) (b := b0) (q := 0) (fun j _ => hH j) (v1 ++ v2)
    refine ⟨hdf, g, _, { hd2 with den := fun i => ?_ }⟩
    simp only [nth]
    cases hb : Nat.beq t i with
    | false => exact hd2.den i
    | true =>
      rw [← beq_true hb]
      refine hsv g _ _ _ ⟨some ⟨b0, 0, none⟩, c, ex, hnc, fun e => (by cases e), fun p hp => ?_⟩ ex
      simp only [Option.some.injEq] at hp
      subst hp
      refine ⟨.inr rfl, (hf.mono hle).rs fun j v hj => ?_⟩
      have := Hp.add_at H b0 0 (v1 ++ v2) (j := j) (v := v) (by rw [List.getElem?_append_left (List.getElem?_eq_some_iff.1 hj).1]; exact hj)
      simpa using this
  · have hd2 := hd.lessO hl
    refine ⟨hdf, g, H, { hd2 with den := fun i => ?_ }⟩
    simp only [nth]
    cases hb : Nat.beq t i with
    | false => exact hd2.den i
    | true =>
      rw [← beq_true hb]
      have hrows : rows1 = [] := List.eq_nil_of_length_eq_zero hn0
      subst hrows
      subst hc0
      exact hsv g H _ _ ⟨ad, 0, ex, Nat.le_refl _, fun _ => ⟨rfl, rfl⟩, fun p _ => ⟨.inl rfl, trivial⟩⟩ ex

theorem at_pubS {m : Md} (t k sz : Nat) {n c r : Nat} {rows : List (List DV)} (ht : nth env t = .sl k 0 n c) (hk : ownq own k = some (.buf rows r)) (hn : n = rows.length) (hnc : n ≤ c) (hr : ∀ r ∈ rows, r.length = sz)
    (hless : lessK k own some = some own2) (kk : Sat E m s ((t, .lst sz rows) :: env) own2 nx) : Sat E m s env own nx :=
  at_pubG t k sz rows [] (.lst sz rows) ht hk (by simp) hn hnc hr (fun _ _ _ _ h _ => h) hless kk
theorem at_pubT {m : Md} (t k sz : Nat) {n r : Nat} {rows : List (List DV)} (rows1 rows2 : List (List DV)) (ht : nth env t = .sl k 0 n n) (hk : ownq own k = some (.buf rows r)) (hcs : rows = rows1 ++ rows2) (hn : n = rows1.length) (hr : ∀ r ∈ rows1, r.length = sz)
    (hless : lessK k own some = some own2) (kk : Sat E m s ((t, .tl sz rows1) :: env) own2 nx) : Sat E m s env own nx :=
  at_pubG t k sz rows1 rows2 (.tl sz rows1) ht hk hcs hn (Nat.le_refl _) hr (fun _ _ _ a h e => ⟨h, a, by rw [e, hn]⟩) hless kk

end Go.Eng
