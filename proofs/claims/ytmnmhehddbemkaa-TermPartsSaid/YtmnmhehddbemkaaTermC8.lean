/- The texts SortR, W6b, Ren, W6c, W6d, W6e, L1, W6f, W6g, W4t, M1, W4y, one behind the other: an executor over the translated code, contracts of functions, and their laws. -/
import Derived.Shelf.SlSortCmp.WholeK
import Derived.Shelf.Sort.Plain
import Derived.Test.YtmnmhehddbemkaaTermC7
namespace Go.Eng
open Go.Sort

theorem putRow_at {α : Type} [Inhabited α] (enc : α → Value) (w : World) (b ty : Nat) (v1 v2 : List Value) (d : Array α) (h : w.heap[b]? = some (.cells (v1 ++ v2).toArray ty (0, 0))) (hs : d.size = v1.length) :
    putRow enc w b 0 d = w.setRow b (d.toList.map enc ++ v2).toArray := by
  show mapBlock w b (putCells enc 0 d) = mapBlock w b (fun _ => (d.toList.map enc ++ v2).toArray)
  refine mapBlock_congr w b _ _ fun c e fr hc => ?_
  rw [h] at hc
  cases hc
  unfold putCells
  apply Array.ext
  · simp [hs]
  · intro i h1 h2
    simp only [Array.size_mapIdx, List.size_toArray, List.length_append] at h1
    simp only [Array.getElem_mapIdx, List.getElem_toArray]
    by_cases hi : i < d.size
    · rw [if_pos ⟨Nat.zero_le _, by omega⟩, List.getElem_append_left (by simpa using hi), List.getElem_map, Nat.sub_zero, getElem!_pos d i hi]
      rfl
    · rw [if_neg (by omega), List.getElem_append_right (by omega), List.getElem_append_right (by simpa using hi)]
      simp only [List.length_map, Array.length_toList, hs]

theorem holds_at {α : Type} [Inhabited α] (enc : α → Value) (w : World) (b ty : Nat) (v2 : List Value) (d : Array α) (h : w.heap[b]? = some (.cells (d.toList.map enc ++ v2).toArray ty (0, 0))) : Holds enc w b 0 d := by
  intro j hj
  refine ⟨?_, by simp [World.frozen?, h]⟩
  rw [Nat.zero_add, ok_cell h, List.getElem?_append_left (by simpa using hj), List.getElem?_map, Array.getElem?_toList, Array.getElem?_eq_getElem hj, getElem!_pos d j hj]
  rfl

theorem flatten_get {β : Type} {k : Nat} : ∀ (L : List (List β)), (∀ x ∈ L, x.length = k) → ∀ i j, j < k → L.flatten[i * k + j]? = (L[i]?).bind (·[j]?)
  | [], _, i, j, _ => by simp
  | x :: L, h, 0, j, hj => by
    have := h x (by simp)
    simp only [List.flatten_cons, Nat.zero_mul, Nat.zero_add, List.getElem?_cons_zero, Option.bind_some]
    rw [List.getElem?_append_left (by omega)]
  | x :: L, h, i + 1, j, hj => by
    have h1 := h x (by simp)
    have ih := flatten_get L (fun y hy => h y (by simp [hy])) i j hj
    simp only [List.flatten_cons, List.getElem?_cons_succ]
    rw [← ih, List.getElem?_append_right (by rw [h1, Nat.add_mul]; omega), h1]
    congr 1
    rw [Nat.add_mul]
    omega
theorem flatK_eq {α : Type} [Inhabited α] (enc : α → List Value) (k : Nat) (hk : ∀ x, (enc x).length = k) (es : List α) : (flatK enc k es.toArray).toList = (es.map enc).flatten := by
  have hlen : (es.map enc).flatten.length = es.length * k := by
    induction es with
    | nil => simp
    | cons x l ih => simp only [List.map_cons, List.flatten_cons, List.length_append, hk, ih, List.length_cons, Nat.add_mul]; omega
  apply List.ext_getElem?
  intro t
  by_cases ht : t < es.length * k
  · have k0 : 0 < k := by
      rcases Nat.eq_zero_or_pos k with h | h
      · subst h; simp at ht
      · exact h
    have hi : t / k < es.length := (Nat.div_lt_iff_lt_mul k0).2 ht
    have hj : t % k < k := Nat.mod_lt _ k0
    have e : t / k * k + t % k = t := Nat.div_add_mod' t k
    have h1 := flatten_get (es.map enc) (fun x hx => by obtain ⟨y, _, rfl⟩ := List.mem_map.1 hx; exact hk y) (t / k) (t % k) hj
    rw [e] at h1
    rw [h1, List.getElem?_map, List.getElem?_eq_getElem hi]
    have h2 : t < (flatK enc k es.toArray).size := by simpa using ht
    rw [Array.getElem?_toList, Array.getElem?_eq_getElem h2]
    have h3 := get_flatK enc k es.toArray t (by simpa using ht)
    rw [getElem!_pos _ t h2] at h3
    rw [h3, getElem!_pos es.toArray (t / k) (by simpa using hi), getElem!_pos _ _ (by rw [hk]; exact hj)]
    simp [hk, hj]
  · rw [List.getElem?_eq_none (by simpa using Nat.not_lt.1 ht), List.getElem?_eq_none (by omega)]

/-- A world that differs by what was drawn and what was laid. -/
theorem world_grow {w w' : World} (hos : w'.os = w.os) (ht : w'.tape = w.tape) (ho : w'.output = w.output) (hd : w.drawn ≤ w'.drawn) (hz : w.heap.size ≤ w'.heap.size) (hb : ∀ b, b < w.heap.size → w'.heap[b]? = w.heap[b]?) :
    ∃ q os', w' = grow (w.drewN q) os' := by
  refine ⟨w'.drawn - w.drawn, w'.heap.extract w.heap.size w'.heap.size, ?_⟩
  obtain ⟨h', t', d', o', p'⟩ := w'
  obtain ⟨h, t, d, o, p⟩ := w
  simp only at hos ht ho hd hz hb
  subst hos; subst ht; subst ho
  simp only [grow, World.drewN, World.mk.injEq, and_true, true_and]
  refine ⟨?_, by omega⟩
  apply Array.ext_getElem?
  intro i
  by_cases hi : i < h.size
  · rw [Array.getElem?_append_left hi]
    exact hb i hi
  · rw [Array.getElem?_append_right (by omega), Array.getElem?_extract]
    by_cases hi2 : i < h'.size
    · rw [if_pos (by omega)]
      congr 1
      omega
    · rw [if_neg (by omega), Array.getElem?_eq_none (by omega)]
end Go.Eng

namespace Go.Proofs.Ytmnmhehddbemkaa
open Go Go.Eng Go.Shelf Go.RowKit Go.Lib Go.Sort
set_option maxRecDepth 100000
def Try.sortTm_ren : Go.Shelf.Ren := ⟨fun | 6 => 81 | 15 => 96 | 14 => 103 | 28 => 114 | 29 => 115 | 20 => 118 | 21 => 119 | 22 => 120 | 23 => 121 | 24 => 122 | 25 => 123 | 26 => 124 | 27 => 125 | 46 => 133 | 47 => 128 | 48 => 129 | 49 => 134 | 50 => 135 | 57 => 137 | n => n, fun | 22 => 24 | 24 => 33 | 25 => 96 | 3 => 3 | 39 => 118 | 0 => 0 | 53 => 141 | 55 => 143 | 4 => 4 | 46 => 135 | 45 => 134 | 50 => 110 | 5 => 5 | 9 => 9 | 66 => 150 | 70 => 154 | 76 => 158 | 77 => 159 | n => n, fun | n => n⟩
theorem Try.sortTm : Go.Proofs.SlLaysF0.n6 Try.prog Try.sortTm_ren := {
  mixed := by kernel_rfl,
  f6 := ⟨Try.f81.name, by decide, Try.func81.trans (congrArg some (by kernel_rfl))⟩,
  f14 := ⟨Try.f103.name, by decide, Try.func103.trans (congrArg some (by kernel_rfl))⟩,
  f15 := Try.func96.trans (congrArg some (by kernel_rfl)),
  f20 := ⟨Try.f118.name, by decide, Try.func118.trans (congrArg some (by kernel_rfl))⟩,
  f21 := ⟨Try.f119.name, by decide, Try.func119.trans (congrArg some (by kernel_rfl))⟩,
  f22 := ⟨Try.f120.name, by decide, Try.func120.trans (congrArg some (by kernel_rfl))⟩,
  f23 := ⟨Try.f121.name, by decide, Try.func121.trans (congrArg some (by kernel_rfl))⟩,
  f24 := ⟨Try.f122.name, by decide, Try.func122.trans (congrArg some (by kernel_rfl))⟩,
  f25 := ⟨Try.f123.name, by decide, Try.func123.trans (congrArg some (by kernel_rfl))⟩,
  f26 := ⟨Try.f124.name, by decide, Try.func124.trans (congrArg some (by kernel_rfl))⟩,
  f27 := ⟨Try.f125.name, by decide, Try.func125.trans (congrArg some (by kernel_rfl))⟩,
  f28 := Try.func114.trans (congrArg some (by kernel_rfl)),
  f29 := Try.func115.trans (congrArg some (by kernel_rfl)),
  f46 := ⟨Try.f133.name, by decide, Try.func133.trans (congrArg some (by kernel_rfl))⟩,
  f47 := Try.func128.trans (congrArg some (by kernel_rfl)),
  f48 := Try.func129.trans (congrArg some (by kernel_rfl)),
  f49 := ⟨Try.f134.name, by decide, Try.func134.trans (congrArg some (by kernel_rfl))⟩,
  f50 := ⟨Try.f135.name, by decide, Try.func135.trans (congrArg some (by kernel_rfl))⟩,
  f57 := ⟨Try.f137.name, by decide, Try.func137.trans (congrArg some (by kernel_rfl))⟩,
  t0 := Try.underlying0,
  a0 := Try.isAgg0,
  z0 := Try.sizeOf0,
  v0 := Try.zeroValue0,
  t3 := Try.underlying3,
  a3 := Try.isAgg3,
  z3 := Try.sizeOf3,
  v3 := Try.zeroValue3,
  t4 := Try.underlying4,
  a4 := Try.isAgg4,
  z4 := Try.sizeOf4,
  v4 := Try.zeroValue4,
  t5 := Try.underlying5,
  a5 := Try.isAgg5,
  z5 := Try.sizeOf5,
  v5 := Try.zeroValue5,
  t9 := Try.underlying9,
  a9 := Try.isAgg9,
  z9 := Try.sizeOf9,
  v9 := Try.zeroValue9,
  t22 := Try.underlying24,
  a22 := Try.isAgg24,
  z22 := Try.sizeOf24,
  v22 := Try.zeroValue24,
  t25 := Try.underlying96,
  a25 := Try.isAgg96,
  z25 := Try.sizeOf96,
  v25 := Try.zeroValue96,
  t39 := Try.underlying118,
  a39 := Try.isAgg118,
  z39 := Try.sizeOf118,
  v39 := Try.zeroValue118,
  t45 := Try.underlying134,
  a45 := Try.isAgg134,
  z45 := Try.sizeOf134,
  v45 := Try.zeroValue134,
  t46 := Try.underlying135,
  a46 := Try.isAgg135,
  z46 := Try.sizeOf135,
  v46 := Try.zeroValue135,
  t50 := Try.underlying110,
  a50 := Try.isAgg110,
  z50 := Try.sizeOf110,
  v50 := Try.zeroValue110,
  t53 := Try.underlying141,
  a53 := Try.isAgg141,
  z53 := Try.sizeOf141,
  v53 := Try.zeroValue141,
  t55 := Try.underlying143,
  a55 := Try.isAgg143,
  z55 := Try.sizeOf143,
  v55 := Try.zeroValue143,
  t66 := Try.underlying150,
  a66 := Try.isAgg150,
  z66 := Try.sizeOf150,
  v66 := Try.zeroValue150,
  t70 := Try.underlying154,
  a70 := Try.isAgg154,
  z70 := Try.sizeOf154,
  v70 := Try.zeroValue154,
  t76 := Try.underlying158,
  a76 := Try.isAgg158,
  z76 := Try.sizeOf158,
  v76 := Try.zeroValue158,
  t77 := Try.underlying159,
  a77 := Try.isAgg159,
  z77 := Try.sizeOf159,
  v77 := Try.zeroValue159 }

/-- Elements: terms, as they stand in memory. -/
structure SE (H : Hp) where
  t : Tm
  vs : List Value
  sm : Sm t
  den : DenDs H (tr t) vs
abbrev zE : Tm := .mk 0 0 .empty []
theorem z0_den (H : Hp) : DenDs H (tr zE) [.int .i64 0, .int .i64 0, .string .empty, .slice none 0 0] := by
  refine ⟨rfl, rfl, rfl, ?_, trivial⟩
  show DenD H (.lst 4 (rowsT [])) _
  rw [rowsT_nil]
  exact ⟨none, 0, rfl, Nat.le_refl _, fun _ => ⟨rfl, rfl⟩, fun p hp => by cases hp⟩
instance (H : Hp) : Inhabited (SE H) := ⟨⟨zE, [.int .i64 0, .int .i64 0, .string .empty, .slice none 0 0], .mk (by simp) (by simp), z0_den H⟩⟩
def encE {H : Hp} (x : SE H) : List Value := x.vs
def cfE {H : Hp} (x y : SE H) : Int := ordT x.t y.t
theorem encE_len {H : Hp} (x : SE H) : (encE x).length = 4 := by
  obtain ⟨t, vs, h1, h2⟩ := x
  match vs, h2 with
  | [_, _, _, _], _ => rfl
  | [], h => exact h.elim
  | [_], h => exact h.2.elim
  | [_, _], h => exact h.2.2.elim
  | [_, _, _], h => exact h.2.2.2.elim
  | _ :: _ :: _ :: _ :: _ :: _, h => exact h.2.2.2.2.elim
theorem encE_one {H : Hp} (x : SE H) : ∀ v ∈ encE x, v.oneCell' = true := x.den.one
theorem swoE (H : Hp) : SWO (ltOf (cfE (H := H))) where
  irrefl x := by unfold ltOf cfE; rw [ord_irr]; rfl
  trans x y z h1 h2 := by
    unfold ltOf cfE at *
    simp only [decide_eq_true_eq] at *
    exact ord_trans h1 h2
  ntrans x y z h1 h2 := by
    unfold ltOf cfE at *
    simp only [decide_eq_false_iff_not] at *
    have e1 := ord_anti x.t y.t
    have e2 := ord_anti y.t z.t
    have e3 := ord_anti x.t z.t
    have := (tr_ord z.t y.t x.t (by omega) (by omega)).1
    omega

theorem elems {H : Hp} : ∀ (l : List Tm) (vs : List Value), (∀ t ∈ l, Sm t) → DenF H 4 (rowsT l) vs → ∃ es : List (SE H), es.map (·.t) = l ∧ (es.map encE).flatten = vs
  | [], vs, _, h => by rw [rowsT_nil] at h; exact ⟨[], rfl, (show vs = [] from h).symm⟩
  | t :: l, vs, hs, h => by
    rw [rowsT_cons] at h
    obtain ⟨v1, v2, rfl, h1, h2, h3⟩ := h
    obtain ⟨es, e1, e2⟩ := elems l v2 (fun x hx => hs x (by simp [hx])) h3
    exact ⟨⟨t, v1, hs t (by simp), h1⟩ :: es, by simp [e1], by simp [e2, encE]⟩
theorem elems_den {H : Hp} : ∀ (es : List (SE H)), DenF H 4 (rowsT (es.map (·.t))) (es.map encE).flatten
  | [] => by rw [List.map_nil, rowsT_nil]; rfl
  | x :: es => by
    rw [List.map_cons, rowsT_cons, List.map_cons, List.flatten_cons]
    exact ⟨_, _, rfl, x.den, encE_len x, elems_den es⟩

theorem cmpLaysE {H : Hp} {w : World} {b n : Nat} (hH : H.on w) (hb : ∀ o, H b o = none) : CmpLays Try.prog 77 #[] (encE (H := H)) 4 cfE b 0 n w := by
  intro m os dk hdk x y
  have hW : H.on (sortWorldK encE 4 w b 0 m dk os) := by
    intro b' o v hv
    have hne : b' ≠ b := fun e => by rw [e, hb] at hv; cases hv
    have hlt := Hp.on_lt hH hv
    rw [World.cell?_same (w := w)]
    · exact hH b' o v hv
    · show (grow (putRowK encE 4 (Sort.ahead w m) b 0 dk) os).heap[b']? = _
      have e1 : (putRowK encE 4 (Sort.ahead w m) b 0 dk).heap[b']? = w.heap[b']? := by
        show ((Sort.ahead w m).heap.modify b _)[b']? = _
        rw [Array.getElem?_modify, if_neg (Ne.symm hne)]
        rfl
      have e2 : (putRowK encE 4 (Sort.ahead w m) b 0 dk).heap.size = w.heap.size := by
        show ((Sort.ahead w m).heap.modify b _).size = _
        rw [Array.size_modify]
        rfl
      show ((putRowK encE 4 (Sort.ahead w m) b 0 dk).heap ++ os)[b']? = _
      rw [Array.getElem?_append_left (by rw [e2]; exact hlt), e1]
  have hc := tcmp_fn x.t y.t x.sm
  have hd : Dens (fun _ => undef) H [x.t.sv, y.t.sv] [.agg (encE x).toArray, .agg (encE y).toArray] := ⟨⟨_, rfl, ups_den x.den⟩, ⟨_, rfl, ups_den y.den⟩, trivial⟩
  refine (hc.2 (fun _ => undef) H _ _ hW (fun k o hk => by simp [ownq] at hk) (fun i j hi => by simp [ownq] at hi) hd).mono fun e w' he => ?_
  cases e with
  | returned v =>
    obtain ⟨g', H', sv, own, ⟨rfl, _, rfl⟩, hv, _, _, _, hbase⟩ := he
    have e : v = .int .i64 (cfE x y) := hv
    subst e
    refine ⟨rfl, world_grow hbase.os hbase.tape hbase.output hbase.drawn hbase.size fun c hc => hbase.block c hc ?_⟩
    rintro ⟨k, hk, _⟩
    simp [ownq] at hk
  | _ => exact he.elim

theorem perm_full {α : Type} [Inhabited α] {d d' : Array α} (h : PermIn 0 d.size d d') : d'.toList.Perm d.toList := by
  have h1 := h.2.2
  have e1 : d'.extract 0 d.size = d' := by rw [← h.1]; simp
  rw [e1] at h1
  simpa using h1

/-- Nothing that stands behind is less. -/
def Srt (l : List Tm) : Prop := l.Pairwise fun a b => ¬ ordT b a < 0

variable {E : Stc} {all rest : List Oper} {o : Oper} {s : List Fr} {env : List (Nat × SV)} {own : List (Nat × SO)} {nx : List Nat}

/-- Terms are sorted in place. -/
theorem at_sortT (k : Nat) {l : List Tm} (hP : E.P = Try.prog) (hc : callK o.op env (fun f l => some (f, l)) none = some (81, [.arr k l.length, .clo 77 []])) (hk : ownq own k = some (.buf (rowsT l) 0)) (hsm : ∀ t ∈ l, Sm t) (hl : l.length ≤ 1000000)
    (kk : ∀ l' : List Tm, l'.Perm l → Srt l' → Sat E (.ops all rest) s (put o.dst (.tup []) env) (setOwn k (.buf (rowsT l') 0) own) nx)
    (hg : guardK all o.guard env true false false = true := by rfl) (hd : dstLt o.dst E.n = true := by rfl) : Sat E (.ops all (o :: rest)) s env own nx := by
  intro a w hat0
  have hwant := wanted_of (E := E) (own := own) hg a w hat0
  unfold wpList
  rw [if_pos hwant]
  refine .inl ?_
  obtain ⟨hdf, g, H, hdn⟩ := hat0
  have hE : Enter E.P 81 := by rw [hP]; exact enter_of Try.func81 rfl (by decide)
  obtain ⟨vs0, hv0, hr⟩ := run_call (P := E.P) hdn hE hc
  obtain ⟨x, f, rfl, hx, hf⟩ : ∃ x f, vs0 = [x, f] ∧ Den g H (.arr k l.length) x ∧ Den g H (.clo 77 []) f := by
    match vs0, hv0 with
    | [x, f], h => exact ⟨x, f, rfl, h.1, h.2.1⟩
    | [], h => exact h.elim
    | [_], h => exact h.2.elim
    | _ :: _ :: _ :: _, h => exact h.2.2.elim
  obtain ⟨b0, hg0, rfl⟩ := hx
  obtain ⟨cs, rfl, hcs⟩ := hf
  obtain rfl : cs = [] := by
    cases cs with
    | nil => rfl
    | cons _ _ => exact hcs.elim
  rcases hdn.ok k _ hk with ⟨ty, b, vs, hgk, hv, hone, hw, hH, hm⟩ | ⟨hgk, _⟩
  rotate_left
  · rw [hgk] at hg0; cases hg0
  have hbb : b0 = b := by rw [hgk] at hg0; simpa using hg0.symm
  subst hbb
  have hv' : Dens g H (flatU (rowsT l)) vs := by have := hv; rw [bufC] at this; simpa [anys] using this
  have hF := DenF.of_flatU rowsT_sz hv'
  obtain ⟨es, e1, e2⟩ := elems l vs hsm hF
  have hlen : es.toArray.size = l.length := by rw [← e1]; simp
  have hwf : w.heap[b0]? = some (.cells (((flatK encE 4 es.toArray).toList.map id) ++ []).toArray ty (0, 0)) := by
    rw [List.map_id, List.append_nil, flatK_eq encE 4 encE_len, e2]
    exact hw
  have hHK : HoldsK encE 4 w b0 0 es.toArray := holds_at id w b0 ty [] _ hwf
  have hcon := AnyQ.slices_SortFunc Try.sortTm 4 (Try.isAgg33) (Try.sizeOf33) encE encE_len encE_one cfE (swoE H) 77 #[] b0 0 l.length es.toArray w
    (enter_of Try.func77 rfl (by decide)) (cmpLaysE hdn.hp hH) hHK (heap_lt hw) (by rw [hlen]; omega)
  have hcon2 : Calls Try.prog 81 #[.slice (some ⟨b0, 0, none⟩) l.length l.length, .func (.func 77) #[] #[]] w fun e w' => e = .returned (.tuple #[]) ∧ ∃ d' n os, PermIn 0 es.toArray.size es.toArray d' ∧ SortedIn (ltOf cfE) 0 es.toArray.size d' ∧ w' = sortWorldK encE 4 w b0 0 n d' os := by
    rw [← hlen] at hcon ⊢
    exact hcon
  unfold Oper.wp
  rw [hr]
  show Calls E.P 81 #[.slice (some ⟨b0, 0, none⟩) l.length l.length, .func (.func 77) #[] #[]] w _
  have hcon3 : Calls E.P 81 #[.slice (some ⟨b0, 0, none⟩) l.length l.length, .func (.func 77) #[] #[]] w fun e w' => e = .returned (.tuple #[]) ∧ ∃ d' n os, PermIn 0 es.toArray.size es.toArray d' ∧ SortedIn (ltOf cfE) 0 es.toArray.size d' ∧ w' = sortWorldK encE 4 w b0 0 n d' os := by rw [hP]; exact hcon2
  refine hcon3.mono ?_
  rintro e w' ⟨rfl, d', n, os, hp, hs, rfl⟩
  have hperm := perm_full hp
  have hp2 : (d'.toList.map (·.t)).Perm l := by rw [← e1]; exact hperm.map _
  refine kk (d'.toList.map (·.t)) hp2 ?_ _ _ ?_
  · unfold Srt
    rw [List.pairwise_map, List.pairwise_iff_getElem]
    intro i j hi hj hij
    simp only [Array.length_toList] at hi hj
    have h2 := hs i j (Nat.zero_le _) hij (by rw [← hp.1]; exact hj)
    rw [getElem!_pos d' j hj, getElem!_pos d' i hi] at h2
    unfold ltOf cfE at h2
    simpa using h2
  · -- the world behind
    have hd1 : Dn E.cx g H env own E.n a.tmps (Sort.ahead w n) := hdn.grown (w' := Sort.ahead w n) rfl rfl rfl (Nat.le_refl _) (fun _ _ => rfl) (Nat.le_add_right _ _)
    obtain ⟨ty', hd2⟩ := hd1.openB hk hgk
    have hk' : ownq (setOwn k (.cells ty' (bufC (rowsT l) 0)) own) k = some (.cells ty' (bufC (rowsT l) 0)) := by rw [ownq_setOwn, if_pos rfl, hk]; rfl
    have hl2 : (flatK encE 4 d').toList = (d'.toList.map encE).flatten := by
      have := flatK_eq encE 4 encE_len d'.toList
      simpa using this
    have hden : Dens g H (bufC (rowsT (d'.toList.map (·.t))) 0) (flatK encE 4 d').toList := by
      rw [hl2, bufC]
      have := (elems_den d'.toList).toFlat (g := g)
      simpa [anys] using this
    have hone2 : ∀ v ∈ (flatK encE 4 d').toList, v.oneCell' = true := by
      rw [hl2]
      intro v hv
      obtain ⟨q, hq, hvq⟩ := List.mem_flatten.1 hv
      obtain ⟨y, _, rfl⟩ := List.mem_map.1 hq
      exact encE_one y v hvq
    have hd3 := hd2.write (new := bufC (rowsT (d'.toList.map (·.t))) 0) hk' hgk hden hone2
    have hd4 := hd3.closeB (k := k) (ty := ty') (rw' := rowsT (d'.toList.map (·.t))) (nn := 0) (by rw [ownq_setOwn, if_pos rfl, hk']; rfl)
    rw [setOwn_setOwn, setOwn_setOwn] at hd4
    have hput : putRowK encE 4 (Sort.ahead w n) b0 0 d' = (Sort.ahead w n).setRow b0 (flatK encE 4 d').toList.toArray := by
      have := putRow_at id (Sort.ahead w n) b0 ty (flatK encE 4 es.toArray).toList [] (flatK encE 4 d') (by
        have := hwf
        rw [List.map_id] at this
        exact this) (by rw [Array.length_toList, size_flatK, size_flatK, hp.1])
      rw [List.map_id, List.append_nil] at this
      exact this
    have hd5 : Dn E.cx g H env (setOwn k (.buf (rowsT (d'.toList.map (·.t))) 0) own) E.n a.tmps (sortWorldK encE 4 w b0 0 n d' os) := by
      unfold sortWorldK
      rw [hput]
      exact hd4.grown (w' := grow ((Sort.ahead w n).setRow b0 (flatK encE 4 d').toList.toArray) os) rfl rfl rfl (by show _ ≤ (_ ++ os).size; rw [Array.size_append]; omega) (fun c hc => by
        show (_ ++ os)[c]? = _
        rw [Array.getElem?_append_left hc]) (Nat.le_refl _)
    exact At.put hdf hd5 (⟨[], rfl, trivial⟩ : Den g H (.tup []) (.tuple #[])) fun d e => by rw [e] at hd; exact Nat.blt_eq.mp hd
end Go.Proofs.Ytmnmhehddbemkaa
namespace Go.Eng
variable {E : Stc} {s : List Fr} {env : List (Nat × SV)} {own own2 : List (Nat × SO)} {nx : List Nat}
/-- Cells that are known are a buffer. -/
theorem at_closeB {m : Md} (k : Nat) {ty r : Nat} {rows : List (List DV)} (hk : ownq own k = some (.cells ty (bufC rows r))) (hso : setOwnK k (.buf rows r) own some = some own2) (kk : Sat E m s env own2 nx) : Sat E m s env own nx := by
  rw [setOwnK_eq] at hso
  simp only [Option.some.injEq] at hso
  subst hso
  refine sat_mono (fun a w hat => ?_) kk
  obtain ⟨hdf, g, H, hdn⟩ := hat
  exact ⟨hdf, g, H, hdn.closeB hk⟩
end Go.Eng
namespace Go.Proofs.Ytmnmhehddbemkaa
open Go Go.Eng
set_option maxRecDepth 100000

theorem ownB_fn (l : List Tm) (hl : l.length ≤ 1000000) (h : ∀ t ∈ l, Sm t) : Contract Try.prog 80 0 [] [.lst 4 (rowsT l)] fun s post => s = .arr 0 l.length ∧ post = [(0, .buf (rowsT l) 0)] := by
  have hlen : (rowsT l).length = l.length := rowsT_len l
  refine contract_of ty_ok [1, 2, 3, 4, 6, 7, 8] Try.func80 rfl (by decide) Try.ntmps80 rfl fun z => ?_
  refine run 400 rfl ?_
  refine at_make 0 4 ty_ok rfl rfl rfl (by omega) (show ((56 : Nat) : Int) * ((rowsT l).length : Int) ≤ 281474976710656 by omega) (by omega) ?_
  refine run 400 rfl ?_
  refine at_loop (fun i : Nat => i ≤ l.length) (fun i => [(3, .arr 0 (rowsT l).length), (9, .lst 4 (rowsT l)), (10, I (rowsT l).length), (11, I i)]) (fun i => [(0, .cells 33 (half l i))]) (fun i => l.length - i) [1, 2, 3, 4, 6, 7, 8]
    0 (by omega) ⟨SVle.refl _, SVle.refl _, SVle.refl _, SVle.refl _, trivial⟩ ⟨?_, trivial⟩ ?_
  · show some (SO.cells 33 (List.replicate (((rowsT l).length : Int).toNat * 4) .any)) = some (SO.cells 33 (half l 0))
    unfold half
    rw [List.take_zero, rowsT_nil, hlen]
    rfl
  intro i hi
  refine run 400 rfl ?_
  refine at_ifd rfl (fun g => ?_) (fun g => ?_)
  rotate_left
  · have e : i = l.length := by omega
    subst e
    refine run 400 rfl ?_
    refine at_closeB 0 (ty := 33) (r := 0) (rows := rowsT l) (by show some (SO.cells 33 (half l l.length)) = _; unfold half bufC; rw [List.take_length, Nat.sub_self, Nat.zero_mul, List.replicate_zero]; rfl) rfl ?_
    exact at_ret rfl rfl [(0, .buf (rowsT l) 0)] ⟨by rw [← hlen], rfl⟩ ⟨rfl, trivial⟩
  have hlt : i < l.length := by omega
  have hget := rowsT_get hlt
  have hmem := getD_mem hlt
  have hgetD : l[i]? = some (l.getD i .zero) := by rw [List.getD_eq_getElem?_getD, List.getElem?_eq_getElem hlt]; rfl
  generalize l.getD i .zero = u at hget hmem hgetD
  refine run 400 rfl ?_
  refine at_val (.rp (tr u) 0) (does_index ty_ok _ rfl rfl rfl (by omega) (show (rowsT l)[(i : Int).toNat]? = some (tr u) from hget) rfl) ?_
  refine run 1 rfl ?_
  refine at_alloc ty_ok 1 _ rfl rfl (by simp only [freshO, noKs_half]; rfl) ?_
  refine run 400 rfl ?_
  refine at_fn (own_fn u (h u hmem)) rfl ?_
  refine run 400 rfl ?_
  refine at_val (.ptr 0 ((i : Int).toNat * 4)) (does_indexArr ty_ok rfl rfl rfl ⟨by omega, by rw [hlen]; omega⟩ rfl) ?_
  refine at_store ty_ok (half l (i + 1)) rfl rfl rfl rfl rfl rfl (by unfold half; rw [List.length_append, flat_len, List.length_replicate, List.length_take]; show i * 4 + 4 ≤ _; omega) (half_step hgetD) rfl ?_
  refine run 400 rfl ?_
  exact at_again (i + 1) (by omega) (by omega) ⟨SVle.refl _, SVle.refl _, SVle.refl _, SVle.of_eq (by show I ((i : Int) + 1) = I ((i + 1 : Nat) : Int); rw [Int.natCast_add]; rfl), trivial⟩ ⟨rfl, trivial⟩

theorem clipT_fn (l : List Tm) (n c r : Nat) (hn : n ≤ c) : Contract Try.prog 82 1 (slO l r) [.sl 0 0 n c] fun s post => s = .sl 0 0 n n ∧ post = slO l r := by
  refine contract_of ty_ok [1, 2, 3, 4, 5, 6, 7] Try.func82 rfl (by decide) Try.ntmps82 rfl fun z => ?_
  refine run 400 rfl ?_
  refine at_val (.sl 0 0 (n : Int).toNat (n : Int).toNat) (does_sliceS_hm (sz := 4) ty_ok rfl rfl rfl rfl (by omega) rfl) ?_
  refine run 400 rfl ?_
  exact at_ret rfl rfl (slO l r) ⟨rfl, rfl⟩ ⟨rfl, trivial⟩

theorem sortT_fn (l : List Tm) (hl : l.length ≤ 1000000) (h : ∀ t ∈ l, Sm t) : GivesP Try.prog 50 [.lst 4 (rowsT l)] fun s => ∃ l' : List Tm, l'.Perm l ∧ Srt l' ∧ s = .tl 4 (rowsT (cmpF same l')) := by
  refine contract_of ty_ok [1, 2, 3, 4, 5, 6, 7] Try.func50 rfl (by decide) Try.ntmps50 rfl fun z => ?_
  refine run 400 rfl ?_
  refine at_callF [0] (ownB_fn l hl h) rfl trivial rfl rfl rfl ?_
  refine run 400 rfl ?_
  refine at_sortT 0 rfl rfl rfl h hl fun l' hp hs => ?_
  have e := hp.length_eq
  rw [← e]
  refine run 400 rfl ?_
  refine at_less [(8, .sl 0 0 l'.length l'.length)] (slO l' 0) [1, 2, 3, 4, 5, 6, 7] ⟨SVle.arr _ _, trivial⟩ ⟨rfl, trivial⟩ ?_
  refine at_callF [0] (cmpact_fn l' l'.length 0 (by omega) (Nat.le_refl _) fun t ht => h t (hp.mem_iff.1 ht)) rfl ⟨rfl, trivial⟩ rfl rfl rfl ?_
  refine run 400 rfl ?_
  refine at_callF [0] (clipT_fn _ _ _ _ (cmp_len _ _)) rfl ⟨rfl, trivial⟩ rfl rfl rfl ?_
  refine run 400 rfl ?_
  refine at_pubT 2 0 4 (rowsT (cmpF same l')) [] rfl rfl (List.append_nil _).symm (rowsT_len _).symm (fun r hr => rowsT_sz r hr) rfl ?_
  exact at_ret rfl rfl [] ⟨⟨l', hp, hs, rfl⟩, rfl, rfl⟩ trivial
end Go.Proofs.Ytmnmhehddbemkaa
/- The proof engine: an own block gets another name. -/
namespace Go.Eng

theorem at_ren {E : Stc} {m : Md} {s : List Fr} {env : List (Nat × SV)} {own : List (Nat × SO)} {nx : List Nat} (a b : Nat) (kk : Sat E m s (renE (swpN a b) env) (mapO (swpN a b) own) nx) (hb : Nat.ble E.cx.m0 b = true := by rfl)
    (hE : freshE a (renE (swpN a b) env) = true := by rfl) (hO : freshO a (mapO (swpN a b) own) = true := by rfl) : Sat E m s env own nx := by
  refine sat_mono (fun ac w h => ?_) kk
  obtain ⟨hdf, g, H, hd⟩ := h
  have hr := swpN_swpN a b
  have hb := Nat.le_of_ble_eq_true hb
  have den0 : ∀ s x, Den g H s x → Den (fun k => g (swpN a b k)) H (ren (swpN a b) s) x := fun s x h =>
    Den.unren (g := fun k => g (swpN a b k)) (g' := g) (r := swpN a b) (fun _ => rfl) (ren (swpN a b) s) x (by rw [ren_ren hr]; exact h)
  have dens0 : ∀ l xs, Dens g H l xs → Dens (fun k => g (swpN a b k)) H (rens (swpN a b) l) xs := fun l xs h =>
    Dens.unren (g := fun k => g (swpN a b k)) (g' := g) (r := swpN a b) (fun _ => rfl) (rens (swpN a b) l) xs (by rw [rens_rens hr]; exact h)
  have hne : ∀ i, i ≠ a → upd (fun k => g (swpN a b k)) a (g a) i = g (swpN a b i) := fun i hi => upd_ne _ _ _ i hi
  have hfix : ∀ k, k < E.cx.m0 → upd (fun k => g (swpN a b k)) a (g a) k = g k := fun k hk => by
    by_cases hka : k = a
    · subst hka; exact upd_same _ _ _
    · rw [hne k hka]
      unfold swpN
      have h1 : Nat.beq k a = false := by
        cases h : Nat.beq k a with
        | false => rfl
        | true => exact absurd (beq_true h) hka
      have h2 : Nat.beq k b = false := by
        cases h : Nat.beq k b with
        | false => rfl
        | true => have := beq_true h; omega
      simp [h1, h2]
  refine ⟨hdf, upd (fun k => g (swpN a b k)) a (g a), H, { size := hd.size, den := fun t => Den.upd hne _ _ (freshE_nth t hE) (by rw [nth_renE]; exact den0 _ _ (hd.den t)), ok := fun k o hk0 => ?_, inj := fun i j hi hj c hci hcj => ?_, hp := hd.hp, base := { hd.base with fix := fun k hk => by rw [hfix k hk]; exact hd.base.fix k hk } }⟩
  · have hf := freshO_own hO hk0
    have hk := hk0
    rw [ownq_mapO' hr] at hk
    cases ho : ownq own (swpN a b k) with
    | none => rw [ho] at hk; cases hk
    | some so =>
      rw [ho] at hk
      simp only [Option.map_some, Option.some.injEq] at hk
      have h0 : OwnOk E.cx.mine (fun k => g (swpN a b k)) H w k o := by
        subst hk
        have := hd.ok _ _ ho
        cases so with
        | cells ty cs =>
          obtain ⟨b, vs, e, h1, h2⟩ := this
          exact ⟨b, vs, e, dens0 cs vs h1, h2⟩
        | tok sz => exact this
        | obj f => exact this
        | buf rw nn =>
          rcases this with ⟨ty, b, ws, e, h1, h2⟩ | h
          · exact .inl ⟨ty, b, ws, e, Dens.plain g _ H rw nn ws h1, h2⟩
          · exact .inr h
      exact h0.upd hf
  · have key : ∀ i, (ownq (mapO (swpN a b) own) i).isSome = true → (ownq own (swpN a b i)).isSome = true ∧ i ≠ a := fun i hi => by
      refine ⟨?_, ?_⟩
      · rw [ownq_mapO' hr] at hi
        simpa using hi
      · cases h : ownq (mapO (swpN a b) own) i with
        | none => rw [h] at hi; cases hi
        | some o => exact (freshO_own hO h).1
    obtain ⟨ki, ni⟩ := key i hi
    obtain ⟨kj, nj⟩ := key j hj
    rw [hne i ni] at hci
    rw [hne j nj] at hcj
    have e := hd.inj _ _ ki kj c hci hcj
    have := congrArg (swpN a b) e
    rw [hr, hr] at this
    exact this
end Go.Eng
namespace Go.Proofs.Ytmnmhehddbemkaa
open Go Go.Eng
set_option maxRecDepth 100000

abbrev eqI (u v : Int) : Bool := u == v
abbrev slI (l : List Int) (r : Nat) : List (Nat × SO) := [(0, .buf (ints l) r)]
theorem ints_set (B : List Int) (k : Nat) (u : Int) : (ints B).set k [.int .i64 u] = ints (B.set k u) := by
  simp [List.map_set]
theorem ints_app (a b : List Int) : ints (a ++ b) = ints a ++ ints b := by simp
theorem ints_at' {l : List Int} {i : Nat} {u : Int} (h : l[i]? = some u) : (ints l)[i]? = some [.int .i64 u] := by
  rw [List.getElem?_map, h]; rfl
theorem ints_sz {l : List Int} : ∀ q ∈ ints l, q.length = 1 := by
  intro q hq
  obtain ⟨x, _, rfl⟩ := List.mem_map.1 hq
  rfl

theorem cmpactI_fn (l : List Int) (c r : Nat) (hl : l.length ≤ 1000000) (hc : l.length ≤ c) :
    Contract Try.prog 74 1 (slI l r) [.sl 0 0 l.length c] fun s post => s = .sl 0 0 (cmpF eqI l).length c ∧ post = slI (cmpF eqI l) ((l.length - (cmpF eqI l).length) * 1 + r) := by
  refine contract_of ty_ok [1, 2, 3, 4, 5, 6, 7] Try.func74 rfl (by decide) Try.ntmps74 rfl fun z => ?_
  refine run 400 rfl ?_
  refine at_ifd rfl (fun g => ?_) (fun g => ?_)
  · have e : cmpF eqI l = l := by
      match l, g with
      | [], _ => rfl
      | [x], _ => rfl
      | _ :: _ :: l, g => simp at g; omega
    refine run 400 rfl ?_
    exact at_ret rfl rfl (slI l r) ⟨by rw [e], by rw [e, Nat.sub_self, Nat.zero_mul, Nat.zero_add]⟩ ⟨rfl, trivial⟩
  refine run 400 rfl ?_
  refine at_loop (fun i : Nat => 1 ≤ i ∧ i ≤ l.length ∧ cmpF eqI (l.take i) = l.take i) (fun i => [(0, .sl 0 0 l.length c), (3, I i)]) (fun _ => slI l r) (fun i => l.length - i) [1, 2, 3, 4, 5, 6, 7]
    1 ⟨by omega, by omega, cmp_one _ _⟩ ⟨SVle.refl _, SVle.refl _, trivial⟩ ⟨rfl, trivial⟩ ?_
  rintro i ⟨a1, a2, a3⟩
  refine run 400 rfl ?_
  refine at_ifd rfl (fun g => ?_) (fun g => ?_)
  rotate_left
  · have e : i = l.length := by omega
    subst e
    rw [List.take_length] at a3
    refine run 400 rfl ?_
    exact at_ret rfl rfl (slI l r) ⟨by rw [a3], by rw [a3, Nat.sub_self, Nat.zero_mul, Nat.zero_add]⟩ ⟨rfl, trivial⟩
  have hlt : i < l.length := by omega
  obtain ⟨u, hu⟩ : ∃ u, l[i]? = some u := ⟨_, List.getElem?_eq_getElem hlt⟩
  obtain ⟨v, hv⟩ : ∃ v, l[i - 1]? = some v := ⟨_, List.getElem?_eq_getElem (by omega)⟩
  have h63 : ((i : Int) - 1).toNat = i - 1 := by omega
  refine run 400 rfl ?_
  refine at_drawn 10 rfl rfl [(2, .val (.ptr 0 (0 + (i : Int).toNat * 1))), (3, .val (I u)), (7, .val (.ptr 0 (0 + ((i : Int) - 1).toNat * 1))), (8, .val (I v))] [1, 2, 3] rfl
    ⟨does_loadB1 (j := 0) (sz := 1) (i := i - 1) ty_ok rfl rfl rfl (fun e => by cases e) (fun e => by cases e) (by omega) ints_sz (ints_at' hv) rfl, does_indexS ty_ok rfl rfl rfl (by omega) rfl, by constructor <;> omega, does_loadB1 (j := 0) (sz := 1) (i := i) ty_ok rfl rfl rfl (fun e => by cases e) (fun e => by cases e) (by omega) ints_sz (ints_at' hu) rfl, does_indexS ty_ok rfl rfl rfl (by omega) rfl⟩ ?_
  refine run 400 rfl ?_
  refine at_if rfl (fun q => ?_) (fun q => ?_)
  rotate_left
  · have q : eqI u v = false := by simpa using q
    refine run 400 rfl ?_
    exact at_again (i + 1) ⟨by omega, by omega, by rw [cmp_step eqI a1 hu hv, q, a3, List.take_add_one, hu]; rfl⟩ (by omega) ⟨SVle.refl _, SVle.of_eq (by show I ((i : Int) + 1) = I ((i + 1 : Nat) : Int); rw [Int.natCast_add]; rfl), trivial⟩ ⟨rfl, trivial⟩
  have q : eqI u v = true := by simpa using q
  refine run 400 rfl ?_
  refine at_val (.sl 0 (0 + (i : Int).toNat * 1) (l.length - (i : Int).toNat) (c - (i : Int).toNat)) (does_sliceS_l ty_ok rfl rfl rfl (by omega) hc rfl) ?_
  refine run 400 rfl ?_
  have hst := Cin.start a1 hlt hu hv q a3
  clear hu hv q
  refine at_loop (fun p : Nat × Nat × List Int => 1 ≤ p.1 ∧ Cin eqI l (i + p.1) p.2.1 p.2.2) (fun p => [(0, .sl 0 0 l.length c), (3, I p.2.1), (4, .sl 0 (0 + (i : Int).toNat * 1) (l.length - (i : Int).toNat) (c - (i : Int).toNat)), (5, I p.1)]) (fun p => slI p.2.2 r) (fun p => l.length - p.1) [1, 2, 3, 4, 5, 6, 7]
    (1, i, l) ⟨Nat.le_refl _, hst⟩ ⟨SVle.refl _, SVle.refl _, SVle.refl _, SVle.refl _, trivial⟩ ⟨rfl, trivial⟩ ?_
  rintro ⟨j, k, B⟩ ⟨b1, b2⟩
  dsimp only at b1 b2
  have c1 := b2.k1
  have c2 := b2.km
  have c3 := b2.ml
  have c4 := b2.len
  refine run 400 rfl ?_
  refine at_ifd rfl (fun g2 => ?_) (fun g2 => ?_)
  rotate_left
  · have e : i + j = l.length := by simp at g2; omega
    rw [e] at b2
    obtain ⟨d1, d2⟩ := b2.done
    refine run 400 rfl ?_
    refine at_val (.sl 0 (0 + (k : Int).toNat * 1) (l.length - (k : Int).toNat) (c - (k : Int).toNat)) (does_sliceS_l ty_ok rfl rfl rfl (by omega) hc rfl) ?_
    refine at_clearS (ints (B.take k)) (ints (B.drop k)) ty_ok rfl rfl rfl rfl rfl rfl (by rw [← ints_app, List.take_append_drop]) ints_sz (by rw [ints_len, List.length_take]; omega) (by rw [ints_len, List.length_drop]; omega) (by omega) rfl ?_
    refine run 400 rfl ?_
    refine at_val (.sl 0 0 (k : Int).toNat c) (does_sliceS_h (sz := 1) ty_ok rfl rfl rfl (by omega) rfl) ?_
    refine run 400 rfl ?_
    exact at_ret rfl rfl (slI (cmpF eqI l) ((l.length - (cmpF eqI l).length) * 1 + r)) ⟨by show SV.sl _ _ _ _ = _; rw [← d2]; rfl, rfl⟩ ⟨by rw [← d2, ← d1]; rfl, trivial⟩
  have hlt2 : i + j < l.length := by simp at g2; omega
  obtain ⟨u, hu⟩ : ∃ u, l[i + j]? = some u := ⟨_, List.getElem?_eq_getElem hlt2⟩
  obtain ⟨v, hv⟩ : ∃ v, l[i + j - 1]? = some v := ⟨_, List.getElem?_eq_getElem (by omega)⟩
  have hBu : B[i + j]? = some u := by rw [b2.at (by omega)]; exact hu
  have hBv : B[i + j - 1]? = some v := by rw [b2.at (by omega)]; exact hv
  refine run 400 rfl ?_
  refine at_drawn 10 rfl rfl [(2, .val (.ptr 0 (0 + (i : Int).toNat * 1 + (j : Int).toNat * 1))), (3, .val (I u)), (7, .val (.ptr 0 (0 + (i : Int).toNat * 1 + ((j : Int) - 1).toNat * 1))), (8, .val (I v))] [1, 2, 3] rfl
    ⟨does_loadB1 (j := 0) (sz := 1) (i := i + j - 1) ty_ok rfl rfl rfl (fun e => by cases e) (fun e => by cases e) (by omega) ints_sz (ints_at' hBv) rfl, does_indexS ty_ok rfl rfl rfl (by omega) rfl, by constructor <;> omega, does_loadB1 (j := 0) (sz := 1) (i := i + j) ty_ok rfl rfl rfl (fun e => by cases e) (fun e => by cases e) (by omega) ints_sz (ints_at' hBu) rfl, does_indexS ty_ok rfl rfl rfl (by omega) rfl⟩ ?_
  refine run 400 rfl ?_
  refine at_if rfl (fun q => ?_) (fun q => ?_)
  rotate_left
  · have q : eqI u v = true := by simpa using q
    refine run 400 rfl ?_
    exact at_again (j + 1, k, B) ⟨by dsimp only; omega, b2.skip hlt2 hu hv q⟩ (by dsimp only; omega) ⟨SVle.refl _, SVle.refl _, SVle.refl _, SVle.of_eq (by show I ((j : Int) + 1) = I ((j + 1 : Nat) : Int); rw [Int.natCast_add]; rfl), trivial⟩ ⟨rfl, trivial⟩
  have q : eqI u v = false := by simpa using q
  refine run 400 rfl ?_
  refine at_val (.ptr 0 (0 + (i : Int).toNat * 1 + (j : Int).toNat * 1)) (does_indexS ty_ok rfl rfl rfl (by omega) rfl) ?_
  refine at_val (I u) (does_loadB1 (j := 0) (sz := 1) (i := i + j) ty_ok rfl rfl rfl (fun e => by cases e) (fun e => by cases e) (by omega) ints_sz (ints_at' hBu) rfl) ?_
  refine at_val (.ptr 0 (0 + (k : Int).toNat * 1)) (does_indexS ty_ok rfl rfl rfl (by omega) rfl) ?_
  refine at_storeB (sz := 1) (i := k) ty_ok [.int .i64 u] rfl rfl rfl rfl rfl (fun e => by cases e) rfl (by omega) ints_sz (by show k < (ints B).length; rw [ints_len]; omega) rfl rfl ?_
  refine run 400 rfl ?_
  exact at_again (j + 1, k + 1, B.set k u) ⟨by dsimp only; omega, b2.keep hlt2 hu hv q⟩ (by dsimp only; omega) ⟨SVle.refl _, SVle.of_eq (by show I ((k : Int) + 1) = I ((k + 1 : Nat) : Int); rw [Int.natCast_add]; rfl), SVle.refl _, SVle.of_eq (by show I ((j : Int) + 1) = I ((j + 1 : Nat) : Int); rw [Int.natCast_add]; rfl), trivial⟩ ⟨by show some (SO.buf ((ints B).set k [.int .i64 u]) r) = some (.buf (ints (B.set k u)) r); rw [ints_set], trivial⟩

theorem clipI_fn (l : List Int) (n c r : Nat) (hn : n ≤ c) : Contract Try.prog 73 1 (slI l r) [.sl 0 0 n c] fun s post => s = .sl 0 0 n n ∧ post = slI l r := by
  refine contract_of ty_ok [1, 2, 3, 4, 5, 6, 7] Try.func73 rfl (by decide) Try.ntmps73 rfl fun z => ?_
  refine run 400 rfl ?_
  refine at_val (.sl 0 0 (n : Int).toNat (n : Int).toNat) (does_sliceS_hm (sz := 1) ty_ok rfl rfl rfl rfl (by omega) rfl) ?_
  refine run 400 rfl ?_
  exact at_ret rfl rfl (slI l r) ⟨rfl, rfl⟩ ⟨rfl, trivial⟩

abbrev nbO (l : List Int) (c r : Nat) : List (Nat × SO) := [(0, .cells 22 [.sl 1 0 l.length c]), (1, .buf (ints l) r)]
abbrev nbP (l : List Int) (c r : Nat) : List (Nat × SO) := [(0, .cells 22 [.sl 2 0 l.length c]), (2, .buf (ints l) r)]
theorem non1B_fn (t : Tm) (l : List Int) (c r : Nat) (hl : l.length ≤ 1000000) (hc : l.length ≤ c) (hr : l.length + r = c) : Contract Try.prog 71 2 (nbO l c r) [t.sv, .ptr 0 0] fun s post => ∃ c' r', (l ++ if t.k = 2 then [t.n] else []).length ≤ c' ∧ (l ++ if t.k = 2 then [t.n] else []).length + r' = c' ∧ s = .tt ∧ post = nbP (l ++ if t.k = 2 then [t.n] else []) c' r' := by
  have hln := ints_len l
  refine contract_of ty_ok [3, 4, 5, 6, 7] Try.func71 rfl (by decide) Try.ntmps71 rfl fun z => ?_
  refine run 400 rfl ?_
  refine at_if rfl (fun g => ?_) (fun g => ?_)
  · have g : t.k = 2 := by simpa using g
    rw [if_pos g]
    refine run 400 rfl ?_
    refine at_gro (.tl 1 (ints [t.n])) (doesG_build ty_ok _ rfl ⟨⟨rfl, rfl, _, rfl, SVles.refl _⟩, trivial⟩ rfl rfl (by decide)) ?_
    refine run 400 rfl ?_
    refine at_appendS 1 2 1 ty_ok rfl rfl rfl rfl rfl rfl rfl hln.symm ints_sz (by omega) hc (by simp) rfl (by simp; omega) (by show _ * 8 ≤ _; simp; omega) rfl ?_
    intro c' r' h1 h2
    refine run 400 rfl ?_
    exact at_ret rfl rfl (nbP (l ++ [t.n]) c' r') ⟨c', r', by simpa using h1, by simpa using h2, rfl, rfl⟩ ⟨by show some (SO.cells 22 [.sl 2 0 (l.length + 1) c']) = some (SO.cells 22 [.sl 2 0 (l ++ [t.n]).length c']); simp, by show some (SO.buf (ints l ++ ints [t.n]) r') = some (SO.buf (ints (l ++ [t.n])) r'); simp, trivial⟩
  · have g : ¬ t.k = 2 := by simpa using g
    rw [if_neg g, List.append_nil]
    refine at_ren 1 2 ?_
    refine run 400 rfl ?_
    exact at_ret rfl rfl (nbP l c r) ⟨c, r, hc, hr, rfl, rfl⟩ ⟨rfl, rfl, trivial⟩

theorem eachB_fn : ∀ (t : Tm) (l : List Int) (c r : Nat), Sm t → l.length + szT t ≤ 1000000 → l.length ≤ c → l.length + r = c → Contract Try.prog 70 2 (nbO l c r) [t.sv, .clo 71 [.ptr 0 0]] fun s post => ∃ c' r', (l ++ nonT t).length ≤ c' ∧ (l ++ nonT t).length + r' = c' ∧ s = .tt ∧ post = nbP (l ++ nonT t) c' r' := by
  intro t
  induction t using Tm.ind with
  | h k n s l ih =>
    intro L cp rr hsm hc hcc hrr
    have hL := hsm.ks
    have hlen0 : ((rowsT l).length : Int) = l.length := by rw [rowsT_len]
    refine contract_of ty_ok [3, 4, 5, 6, 7] Try.func70 rfl (by decide) Try.ntmps70 rfl fun z => ?_
    refine run 400 rfl ?_
    rw [szT] at hc
    rw [nonT]
    refine at_callG [0, 1, 2] (non1B_fn (.mk k n s l) L cp rr (by omega) hcc hrr) rfl ⟨rfl, rfl, trivial⟩ rfl ?_
    rintro sv post ⟨c1, r1, e1, e2, rfl, rfl⟩
    refine ⟨rfl, rfl, ?_⟩
    refine run 400 rfl ?_
    refine at_loop (fun p : Nat × List Int × Nat × Nat => p.1 ≤ l.length ∧ p.2.1 ++ nonL (l.drop p.1) = L ++ ((if k = 2 then [n] else []) ++ nonL l) ∧ p.2.1.length + szL (l.drop p.1) ≤ 1000000 ∧ p.2.1.length ≤ p.2.2.1 ∧ p.2.1.length + p.2.2.2 = p.2.2.1) (fun p => [(1, .clo 71 [.ptr 0 0]), (2, .ptr 3 0), (12, .lst 4 (rowsT l)), (13, I (rowsT l).length), (14, I p.1)]) (fun p => (3, .cells 33 [I k, I n, .str s, .lst 4 (rowsT l)]) :: nbP p.2.1 p.2.2.1 p.2.2.2) (fun p => l.length - p.1) [4, 5, 6, 7]
      (0, L ++ (if k = 2 then [n] else []), c1, r1) ⟨by dsimp only; omega, by dsimp only; rw [List.drop_zero, List.append_assoc], by dsimp only; rw [List.drop_zero, List.length_append]; split <;> simp <;> omega, e1, e2⟩ ⟨SVle.refl _, SVle.refl _, SVle.refl _, SVle.refl _, SVle.refl _, trivial⟩ ⟨rfl, rfl, rfl, trivial⟩ ?_
    rintro ⟨i, q, c2, r2⟩ ⟨a1, a2, a3, a4, a5⟩
    dsimp only at a1 a2 a3 a4 a5
    refine run 400 rfl ?_
    refine at_ifd rfl (fun g => ?_) (fun g => ?_)
    rotate_left
    · dsimp only at g
      rw [hlen0] at g
      have e : i = l.length := by omega
      subst e
      rw [List.drop_length] at a2
      rw [nonL, List.append_nil] at a2
      refine run 400 rfl ?_
      exact at_ret rfl rfl (nbP q c2 r2) ⟨c2, r2, by rw [← a2]; exact a4, by rw [← a2]; exact a5, rfl, by rw [a2]⟩ ⟨rfl, rfl, trivial⟩
    dsimp only at g
    rw [hlen0] at g
    have hlt : i < l.length := by omega
    have hget := rowsT_get hlt
    have hmem := getD_mem hlt
    rw [drop_getD hlt] at a2 a3
    generalize l.getD i .zero = u at hget hmem a2 a3
    refine run 400 rfl ?_
    refine at_val (.rp (tr u) 0) (does_index ty_ok _ rfl rfl rfl (by omega) (show (rowsT l)[(i : Int).toNat]? = some (tr u) from hget) rfl) ?_
    refine run 400 rfl ?_
    rw [nonL] at a2
    rw [szL] at a3
    have hnl := nonT_len u
    refine at_callG [0, 2, 8] (ih u hmem q c2 r2 (hL.2 u hmem) (by omega) a4 a5) rfl ⟨rfl, rfl, trivial⟩ rfl ?_
    rintro sv post ⟨c3, r3, e3, e4, rfl, rfl⟩
    refine ⟨rfl, rfl, ?_⟩
    refine at_swap 8 2 ?_
    refine run 400 rfl ?_
    exact at_again (i + 1, q ++ nonT u, c3, r3) ⟨by dsimp only; omega, by dsimp only; rw [← a2, List.append_assoc], by dsimp only; rw [List.length_append]; omega, e3, e4⟩ (by dsimp only; omega) ⟨SVle.refl _, SVle.refl _, SVle.refl _, SVle.refl _, SVle.of_eq (by show I ((i : Int) + 1) = I ((i + 1 : Nat) : Int); rw [Int.natCast_add]; rfl), trivial⟩ ⟨rfl, rfl, rfl, trivial⟩
end Go.Proofs.Ytmnmhehddbemkaa
namespace Go.Eng
variable {env : List (Nat × SV)} {own : List (Nat × SO)}
/-- A byte of a string. -/
theorem does_byteAt {T : Nat → TI} {P : Program} (hT : ∀ t, T t = tiOf P t) {o : Oper} {t : Nat} {x i : Operand} {b : ByteArray} {k : IntKind} {n : Int} (y : Int) (ho : o.op = .index t x i) (hx : ev env x = .str b) (hi : ev env i = .int k n) (ht : (T t).kd = .str)
    (h0 : 0 ≤ n) (hy : ∃ h : n.toNat < b.size, ((b[n.toNat]'h).toNat : Int) = y) : DoesV P o env own (.int .u8 y) := by
  refine does_val fun cx g H q a w hd => ?_
  have e1 := hd.ev x
  rw [hx] at e1
  have e2 := hd.ev i
  rw [hi] at e2
  have e1 : a.eval x = .string b := e1
  have e2 : a.eval i = .int k n := e2
  have hu : P.underlying t = some .string := by
    rw [hT] at ht
    obtain ⟨i, d, hs, e⟩ := und_kd (P := P) ht (by simp)
    cases d <;> simp [kdOf] at e
    exact hs.und
  refine ⟨_, ?_, rfl⟩
  obtain ⟨hlt, hy⟩ := hy
  simp [execOp, ho, e1, e2, run_index_string _ _ _ _ _ hu, h0, hy, show n < b.size by omega]
end Go.Eng
namespace Go.Proofs.Ytmnmhehddbemkaa
open Go Go.Eng
set_option maxRecDepth 100000
theorem len64_0 : Gives Try.prog 115 [.int .u64 0] (I 0) := by
  refine contract_of ty_ok [1, 2, 3, 4, 5, 6, 7] Try.func115 rfl (by decide) Try.ntmps115 rfl fun z => ?_
  refine run 400 rfl ?_
  refine at_ifd rfl (fun g => absurd g (by decide)) (fun _ => ?_)
  refine run 400 rfl ?_
  refine at_ifd rfl (fun g => absurd g (by decide)) (fun _ => ?_)
  refine run 400 rfl ?_
  refine at_ifd rfl (fun g => absurd g (by decide)) (fun _ => ?_)
  refine run 400 rfl ?_
  refine at_val (.int .u8 0) (does_byteAt ty_ok (y := 0) rfl rfl rfl rfl (by decide) ⟨by decide, rfl⟩) ?_
  refine run 400 rfl ?_
  exact at_ret rfl rfl [] ⟨rfl, rfl, rfl⟩ trivial
theorem len_0 : Gives Try.prog 96 [.int .u64 0] (I 0) := by
  refine contract_of ty_ok [1, 2, 3, 4, 5, 6, 7] Try.func96 rfl (by decide) Try.ntmps96 rfl fun z => ?_
  refine run 400 rfl ?_
  refine at_fn len64_0 rfl ?_
  refine run 400 rfl ?_
  exact at_ret rfl rfl [] ⟨rfl, rfl, rfl⟩ trivial

theorem ins_0 : Gives Try.prog 105 [.lst 1 [], I 0, I 0] (.tup []) := by
  refine contract_of ty_ok [1, 2, 3, 4, 5, 6, 7] Try.func105 rfl (by decide) Try.ntmps105 rfl fun z => ?_
  refine run 400 rfl ?_
  refine at_loop (fun _ : Unit => True) (fun _ => [(6, I 1), (2, I 0)]) (fun _ => []) (fun _ => 0) [1, 2, 3, 4, 5, 6, 7] () trivial ⟨SVle.refl _, SVle.refl _, trivial⟩ trivial ?_
  intro _ _
  refine run 400 rfl ?_
  refine at_ifd rfl (fun g => absurd g (by decide)) (fun _ => ?_)
  refine run 400 rfl ?_
  refine at_end ?_
  exact at_ret rfl rfl [] ⟨rfl, rfl, rfl⟩ trivial
theorem pdq_0 : Gives Try.prog 95 [.lst 1 [], I 0, I 0, I 0] (.tup []) := by
  refine contract_of ty_ok [1, 2, 3, 4, 5, 6, 7] Try.func95 rfl (by decide) Try.ntmps95 rfl fun z => ?_
  refine run 400 rfl ?_
  refine at_loop (fun _ : Unit => True) (fun _ => [(0, .lst 1 []), (1, I 0), (2, I 0)]) (fun _ => []) (fun _ => 0) [1, 2, 3, 4, 5, 6, 7] () trivial ⟨SVle.refl _, SVle.refl _, SVle.refl _, trivial⟩ trivial ?_
  intro _ _
  refine run 400 rfl ?_
  refine at_ifd rfl (fun _ => ?_) (fun g => absurd (by decide) g)
  refine run 400 rfl ?_
  refine at_fn ins_0 rfl ?_
  refine run 400 rfl ?_
  exact at_ret rfl rfl [] ⟨rfl, rfl, rfl⟩ trivial
theorem sort_0 : Gives Try.prog 72 [.lst 1 []] (.tup []) := by
  refine contract_of ty_ok [1, 2, 3, 4, 5, 6, 7] Try.func72 rfl (by decide) Try.ntmps72 rfl fun z => ?_
  refine run 400 rfl ?_ (by simp [All, inR])
  refine at_fn len_0 rfl ?_
  refine run 400 rfl ?_
  refine at_fn pdq_0 rfl ?_
  refine run 400 rfl ?_
  refine at_end ?_
  exact at_ret rfl rfl [] ⟨rfl, rfl, rfl⟩ trivial
end Go.Proofs.Ytmnmhehddbemkaa
namespace Go.Proofs.Ytmnmhehddbemkaa
open Go Go.Eng Go.Shelf Go.RowKit Go.Lib Go.Sort
set_option maxRecDepth 100000
def Try.sortI_ren : Go.Shelf.Ren := ⟨fun | 189 => 72 | 125 => 96 | 257 => 95 | 128 => 114 | 129 => 115 | 294 => 105 | 295 => 106 | 296 => 107 | 297 => 108 | 298 => 109 | 299 => 110 | 216 => 111 | 300 => 112 | 301 => 113 | 328 => 127 | 329 => 128 | 330 => 129 | 331 => 130 | 332 => 131 | 215 => 116 | 343 => 136 | n => n, fun | 28 => 22 | 3 => 3 | 46 => 118 | 0 => 0 | 51 => 141 | 53 => 143 | 4 => 4 | 183 => 135 | 182 => 134 | 131 => 110 | 5 => 5 | 9 => 9 | 218 => 150 | 222 => 154 | 228 => 158 | 229 => 159 | n => n, fun | n => n⟩
theorem Try.sortI : Go.Proofs.Lays.n189 Try.prog Try.sortI_ren := {
  mixed := by kernel_rfl,
  f125 := Try.func96.trans (congrArg some (by kernel_rfl)),
  f128 := Try.func114.trans (congrArg some (by kernel_rfl)),
  f129 := Try.func115.trans (congrArg some (by kernel_rfl)),
  f189 := Try.func72.trans (congrArg some (by kernel_rfl)),
  f215 := Try.func116.trans (congrArg some (by kernel_rfl)),
  f216 := Try.func111.trans (congrArg some (by kernel_rfl)),
  f257 := Try.func95.trans (congrArg some (by kernel_rfl)),
  f294 := Try.func105.trans (congrArg some (by kernel_rfl)),
  f295 := Try.func106.trans (congrArg some (by kernel_rfl)),
  f296 := Try.func107.trans (congrArg some (by kernel_rfl)),
  f297 := Try.func108.trans (congrArg some (by kernel_rfl)),
  f298 := Try.func109.trans (congrArg some (by kernel_rfl)),
  f299 := Try.func110.trans (congrArg some (by kernel_rfl)),
  f300 := Try.func112.trans (congrArg some (by kernel_rfl)),
  f301 := Try.func113.trans (congrArg some (by kernel_rfl)),
  f328 := Try.func127.trans (congrArg some (by kernel_rfl)),
  f329 := Try.func128.trans (congrArg some (by kernel_rfl)),
  f330 := Try.func129.trans (congrArg some (by kernel_rfl)),
  f331 := Try.func130.trans (congrArg some (by kernel_rfl)),
  f332 := Try.func131.trans (congrArg some (by kernel_rfl)),
  f343 := Try.func136.trans (congrArg some (by kernel_rfl)),
  t0 := Try.underlying0,
  a0 := Try.isAgg0,
  z0 := Try.sizeOf0,
  v0 := Try.zeroValue0,
  t3 := Try.underlying3,
  a3 := Try.isAgg3,
  z3 := Try.sizeOf3,
  v3 := Try.zeroValue3,
  t4 := Try.underlying4,
  a4 := Try.isAgg4,
  z4 := Try.sizeOf4,
  v4 := Try.zeroValue4,
  t5 := Try.underlying5,
  a5 := Try.isAgg5,
  z5 := Try.sizeOf5,
  v5 := Try.zeroValue5,
  t9 := Try.underlying9,
  a9 := Try.isAgg9,
  z9 := Try.sizeOf9,
  v9 := Try.zeroValue9,
  t28 := Try.underlying22,
  a28 := Try.isAgg22,
  z28 := Try.sizeOf22,
  v28 := Try.zeroValue22,
  t46 := Try.underlying118,
  a46 := Try.isAgg118,
  z46 := Try.sizeOf118,
  v46 := Try.zeroValue118,
  t51 := Try.underlying141,
  a51 := Try.isAgg141,
  z51 := Try.sizeOf141,
  v51 := Try.zeroValue141,
  t53 := Try.underlying143,
  a53 := Try.isAgg143,
  z53 := Try.sizeOf143,
  v53 := Try.zeroValue143,
  t131 := Try.underlying110,
  a131 := Try.isAgg110,
  z131 := Try.sizeOf110,
  v131 := Try.zeroValue110,
  t182 := Try.underlying134,
  a182 := Try.isAgg134,
  z182 := Try.sizeOf134,
  v182 := Try.zeroValue134,
  t183 := Try.underlying135,
  a183 := Try.isAgg135,
  z183 := Try.sizeOf135,
  v183 := Try.zeroValue135,
  t218 := Try.underlying150,
  a218 := Try.isAgg150,
  z218 := Try.sizeOf150,
  v218 := Try.zeroValue150,
  t222 := Try.underlying154,
  a222 := Try.isAgg154,
  z222 := Try.sizeOf154,
  v222 := Try.zeroValue154,
  t228 := Try.underlying158,
  a228 := Try.isAgg158,
  z228 := Try.sizeOf158,
  v228 := Try.zeroValue158,
  t229 := Try.underlying159,
  a229 := Try.isAgg159,
  z229 := Try.sizeOf159,
  v229 := Try.zeroValue159 }

def sortZ (l : List Int) : List Int := l.mergeSort fun x y => decide (x ≤ y)
theorem sortZ_len (l : List Int) : (sortZ l).length = l.length := List.length_mergeSort _

variable {E : Stc} {all rest : List Oper} {o : Oper} {s : List Fr} {env : List (Nat × SV)} {own own2 : List (Nat × SO)} {nx : List Nat}

theorem flat_ints : ∀ l : List Int, flatU (ints l) = l.map (SV.int .i64)
  | [] => rfl
  | x :: l => by
    have := flat_ints l
    unfold flatU at this ⊢
    simp only [List.map_cons, List.flatten_cons, List.map_append, this]
    rfl
theorem dens_ints {g : Nat → Value} {H : Hp} : ∀ {l : List Int} {vs : List Value}, Dens g H (l.map (SV.int .i64)) vs → vs = l.map (Value.int .i64)
  | [], [], _ => rfl
  | [], _ :: _, h => h.elim
  | _ :: _, [], h => h.elim
  | x :: l, v :: vs, h => by
    rw [List.map_cons, ← dens_ints h.2]
    have : v = .int .i64 x := h.1
    rw [this]
theorem dens_ints_mk {g : Nat → Value} {H : Hp} : ∀ (l : List Int), Dens g H (l.map (SV.int .i64)) (l.map (Value.int .i64))
  | [] => trivial
  | _ :: l => ⟨rfl, dens_ints_mk l⟩

/-- Numbers are sorted in place. -/
theorem at_sortI (k : Nat) {l : List Int} {c r : Nat} (hP : E.P = Try.prog) (hc : callK o.op env (fun f l => some (f, l)) none = some (72, [.sl k 0 l.length c])) (hk : ownq own k = some (.buf (ints l) r)) (hl : l.length ≤ 1000000)
    (hso : setOwnK k (.buf (ints (sortZ l)) r) own some = some own2)
    (kk : Sat E (.ops all rest) s (put o.dst (.tup []) env) own2 nx)
    (hg : guardK all o.guard env true false false = true := by rfl) (hd : dstLt o.dst E.n = true := by rfl) : Sat E (.ops all (o :: rest)) s env own nx := by
  rw [setOwnK_eq] at hso
  simp only [Option.some.injEq] at hso
  subst hso
  intro a w hat0
  have hwant := wanted_of (E := E) (own := own) hg a w hat0
  unfold wpList
  rw [if_pos hwant]
  refine .inl ?_
  obtain ⟨hdf, g, H, hdn⟩ := hat0
  have hE : Enter E.P 72 := by rw [hP]; exact enter_of Try.func72 rfl (by decide)
  obtain ⟨vs0, hv0, hr⟩ := run_call (P := E.P) hdn hE hc
  obtain ⟨x, rfl, hx⟩ : ∃ x, vs0 = [x] ∧ Den g H (.sl k 0 l.length c) x := by
    match vs0, hv0 with
    | [x], h => exact ⟨x, rfl, h.1⟩
    | [], h => exact h.elim
    | _ :: _ :: _, h => exact h.2.elim
  unfold Oper.wp
  rw [hr]
  show Calls E.P 72 #[x] w _
  rcases hx with ⟨b, hgk, rfl⟩ | ⟨_, hl0, hc0, hgk, ad, rfl⟩
  rotate_left
  · have hl0 : l = [] := List.length_eq_zero_iff.1 hl0
    subst hl0
    have hx : Dens g H [.lst 1 []] [.slice ad 0 0] := ⟨⟨ad, 0, rfl, Nat.le_refl _, fun _ => ⟨rfl, rfl⟩, fun p _ => ⟨.inl rfl, trivial⟩⟩, trivial⟩
    have hC0 : Gives E.P 72 [.lst 1 []] (.tup []) := by rw [hP]; exact sort_0
    refine (hC0.2 g H w [.slice ad 0 0] hdn.hp (fun k o hk => by simp [ownq] at hk) (fun i j hi => by simp [ownq] at hi) hx).mono fun e w' he => ?_
    cases e with
    | returned v =>
      obtain ⟨g', H', sv, own', ⟨rfl, _, rfl⟩, hv, _, _, _, hbase⟩ := he
      have hv : v = .tuple #[] := by
        obtain ⟨cs, e, hcs⟩ := hv
        cases cs with
        | nil => exact e
        | cons _ _ => exact hcs.elim
      subst hv
      obtain ⟨q, os, rfl⟩ := world_grow hbase.os hbase.tape hbase.output hbase.drawn hbase.size fun c hc => hbase.block c hc (by
        rintro ⟨k, hk, _⟩
        simp [ownq] at hk)
      have hd1 := hdn.grown (w' := grow (w.drewN q) os) rfl rfl rfl (by show _ ≤ (_ ++ os).size; rw [Array.size_append]; exact Nat.le_add_right _ _) (fun c hc => by
        show (w.heap ++ os)[c]? = _
        rw [Array.getElem?_append_left hc]) (Nat.le_add_right _ _)
      have hd1 := hd1.le (env' := env) (own' := setOwn k (.buf (ints (sortZ [])) r) own) (fun t => SVle.refl _) (fun j o' hj => by
        rw [ownq_setOwn] at hj
        split at hj
        · rename_i e
          subst e
          rw [hk] at hj
          simp only [Option.map_some, Option.some.injEq] at hj
          subst hj
          rw [show sortZ [] = [] by simp [sortZ]]
          exact hk
        · exact hj)
      exact kk _ _ (At.put hdf hd1 (⟨[], rfl, trivial⟩ : Den g H (.tup []) (.tuple #[])) fun d e => by rw [e] at hd; exact Nat.blt_eq.mp hd)
    | _ => exact he.elim
  rcases hdn.ok k _ hk with ⟨ty, b', vs, e0, hv, hone, hw, hH, hm⟩ | ⟨e0, _⟩
  rotate_left
  · rw [e0] at hgk; cases hgk
  have hbb : b' = b := by rw [e0] at hgk; simpa using hgk
  subst hbb
  have hv' : Dens g H (flatU (ints l) ++ anys r) vs := hv
  obtain ⟨v1, v2, rfl, hva, hvb⟩ := Dens.append_inv hv'
  rw [flat_ints] at hva
  have e1 := dens_ints hva
  subst e1
  have hcon := Any.slices_Sort_int Try.sortI b' 0 c l w (holds_at (Value.int .i64) w b' ty v2 l.toArray hw) (heap_lt hw) (by omega)
  have hcon2 : Calls E.P 72 #[.slice (some ⟨b', 0, none⟩) l.length c] w fun e w' => e = .returned (.tuple #[]) ∧ ∃ n os, w' = grow (putRow (Value.int .i64) (Sort.ahead w n) b' 0 (sortZ l).toArray) os := by rw [hP]; exact hcon
  refine hcon2.mono ?_
  rintro e w' ⟨rfl, n, os, rfl⟩
  have hd1 : Dn E.cx g H env own E.n a.tmps (Sort.ahead w n) := hdn.grown (w' := Sort.ahead w n) rfl rfl rfl (Nat.le_refl _) (fun _ _ => rfl) (Nat.le_add_right _ _)
  obtain ⟨ty', hd2⟩ := hd1.openB hk e0
  have hk' : ownq (setOwn k (.cells ty' (bufC (ints l) r)) own) k = some (.cells ty' (bufC (ints l) r)) := by rw [ownq_setOwn, if_pos rfl, hk]; rfl
  have hden : Dens g H (bufC (ints (sortZ l)) r) ((sortZ l).map (Value.int .i64) ++ v2) := by
    rw [bufC, flat_ints]
    exact Dens.append (dens_ints_mk _) hvb
  have hone2 : ∀ v ∈ (sortZ l).map (Value.int .i64) ++ v2, v.oneCell' = true := by
    intro v hv
    rcases List.mem_append.1 hv with hv | hv
    · obtain ⟨z, _, rfl⟩ := List.mem_map.1 hv
      rfl
    · exact hone v (by simp [hv])
  have hd3 := hd2.write (new := bufC (ints (sortZ l)) r) hk' e0 hden hone2
  have hd4 := hd3.closeB (k := k) (ty := ty') (rw' := ints (sortZ l)) (nn := r) (by rw [ownq_setOwn, if_pos rfl, hk']; rfl)
  rw [setOwn_setOwn, setOwn_setOwn] at hd4
  have hput : putRow (Value.int .i64) (Sort.ahead w n) b' 0 (sortZ l).toArray = (Sort.ahead w n).setRow b' ((sortZ l).map (Value.int .i64) ++ v2).toArray := by
    have := putRow_at (Value.int .i64) (Sort.ahead w n) b' ty (l.map (Value.int .i64)) v2 (sortZ l).toArray hw (by simp [sortZ_len])
    exact this
  have hd5 : Dn E.cx g H env (setOwn k (.buf (ints (sortZ l)) r) own) E.n a.tmps (grow (putRow (Value.int .i64) (Sort.ahead w n) b' 0 (sortZ l).toArray) os) := by
    rw [hput]
    exact hd4.grown (w' := grow ((Sort.ahead w n).setRow b' ((sortZ l).map (Value.int .i64) ++ v2).toArray) os) rfl rfl rfl (by show _ ≤ (_ ++ os).size; rw [Array.size_append]; omega) (fun c hc => by
      show (_ ++ os)[c]? = _
      rw [Array.getElem?_append_left hc]) (Nat.le_refl _)
  exact kk _ _ (At.put hdf hd5 (⟨[], rfl, trivial⟩ : Den g H (.tup []) (.tuple #[])) fun d e => by rw [e] at hd; exact Nat.blt_eq.mp hd)
end Go.Proofs.Ytmnmhehddbemkaa
namespace Go.Proofs.Ytmnmhehddbemkaa
open Go Go.Eng

/-- A strict order in which of two one is less or they are the same. -/
structure Tot {α : Type} (lt : α → α → Prop) (e : α → α → Bool) : Prop where
  irr : ∀ a, ¬ lt a a
  tr : ∀ a b c, lt a b → lt b c → lt a c
  tri : ∀ a b, lt a b ∨ a = b ∨ lt b a
  eq : ∀ a b, e a b = true ↔ a = b

theorem ss_ext {α : Type} {lt : α → α → Prop} {e : α → α → Bool} (h : Tot lt e) : ∀ {l m : List α}, l.Pairwise lt → m.Pairwise lt → (∀ x, x ∈ l ↔ x ∈ m) → l = m
  | [], [], _, _, _ => rfl
  | [], y :: m, _, _, hx => by have := (hx y).2 (by simp); cases this
  | x :: l, [], _, _, hx => by have := (hx x).1 (by simp); cases this
  | x :: l, y :: m, h1, h2, hx => by
    rw [List.pairwise_cons] at h1 h2
    have hxy : x = y := by
      rcases List.mem_cons.1 ((hx x).1 (by simp)) with q | q
      · exact q
      · rcases List.mem_cons.1 ((hx y).2 (by simp)) with p | p
        · exact p.symm
        · exact absurd (h.tr _ _ _ (h1.1 y p) (h2.1 x q)) (h.irr _)
    subst hxy
    have : l = m := ss_ext h h1.2 h2.2 fun z => by
      constructor
      · intro hz
        rcases List.mem_cons.1 ((hx z).1 (by simp [hz])) with q | q
        · subst q; exact absurd (h1.1 z hz) (h.irr z)
        · exact q
      · intro hz
        rcases List.mem_cons.1 ((hx z).2 (by simp [hz])) with q | q
        · subst q; exact absurd (h2.1 z hz) (h.irr z)
        · exact q
    rw [this]

theorem cpt_ss {α : Type} {lt : α → α → Prop} {e : α → α → Bool} (h : Tot lt e) : ∀ (l : List α) (p : α), (p :: l).Pairwise (fun a b => ¬ lt b a) → (cpt e p l).Pairwise lt ∧ (∀ x ∈ cpt e p l, lt p x) ∧ ∀ x, (x = p ∨ x ∈ cpt e p l) ↔ (x = p ∨ x ∈ l)
  | [], p, _ => ⟨.nil, by simp [cpt], by simp [cpt]⟩
  | y :: l, p, hs => by
    have hs0 := hs
    rw [List.pairwise_cons] at hs
    have hpy := hs.1 y (by simp)
    obtain ⟨a1, a2, a3⟩ := cpt_ss h l y hs.2
    cases hq : e y p with
    | true =>
      have q := (h.eq _ _).1 hq
      subst q
      have e1 : cpt e y (y :: l) = cpt e y l := by rw [cpt, hq]; rfl
      rw [e1]
      refine ⟨a1, a2, fun x => ?_⟩
      rw [a3, List.mem_cons]
      constructor
      · rintro (q | q)
        · exact .inl q
        · exact .inr (.inr q)
      · rintro (q | q | q)
        · exact .inl q
        · exact .inl q
        · exact .inr q
    | false =>
      have hne : ¬ y = p := fun q => by rw [(h.eq _ _).2 q] at hq; cases hq
      have hlt : lt p y := by
        rcases h.tri p y with q | q | q
        · exact q
        · exact absurd q.symm hne
        · exact absurd q hpy
      have e1 : cpt e p (y :: l) = y :: cpt e y l := by rw [cpt, hq]; rfl
      rw [e1]
      refine ⟨List.pairwise_cons.2 ⟨a2, a1⟩, ?_, fun x => ?_⟩
      · intro x hx
        rcases List.mem_cons.1 hx with q | q
        · rw [q]; exact hlt
        · exact h.tr _ _ _ hlt (a2 x q)
      · rw [List.mem_cons, List.mem_cons, a3]

theorem cmpF_ss {α : Type} {lt : α → α → Prop} {e : α → α → Bool} (h : Tot lt e) {l : List α} (hs : l.Pairwise fun a b => ¬ lt b a) : (cmpF e l).Pairwise lt ∧ ∀ x, x ∈ cmpF e l ↔ x ∈ l := by
  cases l with
  | nil => exact ⟨.nil, fun _ => Iff.rfl⟩
  | cons y l =>
    obtain ⟨a1, a2, a3⟩ := cpt_ss h l y hs
    exact ⟨List.pairwise_cons.2 ⟨a2, a1⟩, fun x => by rw [cmpF, List.mem_cons, a3, List.mem_cons]⟩

/-- An insertion, by the order. -/
def insO {α : Type} (lt : α → α → Prop) [DecidableRel lt] (e : α → α → Bool) : List α → α → List α
  | [], t => [t]
  | u :: L, t => if lt u t then u :: insO lt e L t else if e u t then u :: L else t :: u :: L
theorem insO_mem {α : Type} {lt : α → α → Prop} [DecidableRel lt] {e : α → α → Bool} (h : Tot lt e) : ∀ {L : List α} {t x : α}, x ∈ insO lt e L t ↔ x ∈ L ∨ x = t
  | [], t, x => by simp [insO]
  | u :: L, t, x => by
    rw [insO]
    split
    · rw [List.mem_cons, insO_mem h, List.mem_cons, or_assoc]
    · split
      · rename_i q
        have := (h.eq _ _).1 q
        subst this
        simp only [List.mem_cons]
        constructor
        · exact .inl
        · rintro (q | q)
          · exact q
          · exact .inl q
      · simp only [List.mem_cons]
        constructor
        · rintro (q | q)
          · exact .inr q
          · exact .inl q
        · rintro (q | q)
          · exact .inr q
          · exact .inl q
theorem insO_ss {α : Type} {lt : α → α → Prop} [DecidableRel lt] {e : α → α → Bool} (h : Tot lt e) : ∀ {L : List α} {t : α}, L.Pairwise lt → (insO lt e L t).Pairwise lt
  | [], t, _ => List.pairwise_singleton _ _
  | u :: L, t, hs => by
    rw [List.pairwise_cons] at hs
    rw [insO]
    split
    · rename_i q
      refine List.pairwise_cons.2 ⟨fun x hx => ?_, insO_ss h hs.2⟩
      rcases (insO_mem h).1 hx with p | p
      · exact hs.1 x p
      · rw [p]; exact q
    · rename_i q
      split
      · exact List.pairwise_cons.2 hs
      · rename_i p
        have hlt : lt t u := by
          rcases h.tri t u with r | r | r
          · exact r
          · exact absurd ((h.eq _ _).2 r.symm) (by simpa using p)
          · exact absurd r q
        refine List.pairwise_cons.2 ⟨fun x hx => ?_, List.pairwise_cons.2 hs⟩
        rcases List.mem_cons.1 hx with r | r
        · rw [r]; exact hlt
        · exact h.tr _ _ _ hlt (hs.1 x r)
theorem foldO {α : Type} {lt : α → α → Prop} [DecidableRel lt] {e : α → α → Bool} (h : Tot lt e) : ∀ (l acc : List α), acc.Pairwise lt → (l.foldl (insO lt e) acc).Pairwise lt ∧ ∀ x, x ∈ l.foldl (insO lt e) acc ↔ x ∈ acc ∨ x ∈ l
  | [], acc, hs => ⟨hs, by simp⟩
  | t :: l, acc, hs => by
    obtain ⟨a1, a2⟩ := foldO h l (insO lt e acc t) (insO_ss h hs)
    refine ⟨a1, fun x => ?_⟩
    rw [List.foldl_cons, a2, insO_mem h, List.mem_cons, or_assoc]

theorem totT : Tot (fun a b : Tm => ordT a b < 0) same where
  irr a h := by simp only [ord_irr] at h; omega
  tr a b c := ord_trans
  tri a b := by
    rcases Int.lt_trichotomy (ordT a b) 0 with h | h | h
    · exact .inl h
    · exact .inr (.inl (ordT_eq a b h))
    · refine .inr (.inr ?_)
      show ordT b a < 0
      rw [ord_anti]; omega
  eq a b := same_iff
theorem addF_insO : addF = insO (fun a b : Tm => ordT a b < 0) same := by
  funext L t
  induction L with
  | nil => rfl
  | cons u L ih => rw [addF, insO, ih]
theorem rsort_ss (l : List Tm) : (rsortF l).Pairwise (fun a b => ordT a b < 0) ∧ ∀ x, x ∈ rsortF l ↔ x ∈ l := by
  have := foldO totT l [] .nil
  rw [rsortF, addF_insO]
  simpa using this

theorem totI : Tot (fun a b : Int => a < b) (fun u v => u == v) where
  irr a h := by simp at h
  tr a b c h1 h2 := by omega
  tri a b := by omega
  eq a b := by simp
theorem insF_insO : insF = insO (fun a b : Int => a < b) (fun u v => u == v) := by
  funext L t
  induction L with
  | nil => rfl
  | cons u L ih => rw [insF, insO, ih]; simp
mutual
theorem rnonT_ss : ∀ t : Tm, (rnonT t).Pairwise (· < ·) ∧ ∀ x, x ∈ rnonT t ↔ x ∈ nonT t
  | .mk k n s l => by
    have := rnonL_ss l (if k = 2 then [n] else []) (by split <;> simp)
    rw [rnonT, nonT]
    exact ⟨this.1, fun x => by rw [this.2, List.mem_append]⟩
theorem rnonL_ss : ∀ (l : List Tm) (acc : List Int), acc.Pairwise (· < ·) → (rnonL l acc).Pairwise (· < ·) ∧ ∀ x, x ∈ rnonL l acc ↔ x ∈ acc ∨ x ∈ nonL l
  | [], acc, h => ⟨h, by simp [rnonL, nonL]⟩
  | t :: l, acc, h => by
    have h1 := rnonT_ss t
    have h2 := foldO totI (rnonT t) acc h
    rw [← insF_insO] at h2
    have h3 := rnonL_ss l ((rnonT t).foldl insF acc) h2.1
    rw [rnonL, nonL]
    exact ⟨h3.1, fun x => by rw [h3.2, h2.2, h1.2, List.mem_append, or_assoc]⟩
end

theorem cmp_rsort {l l' : List Tm} (hs : l'.Pairwise fun a b => ¬ ordT b a < 0) (hm : ∀ x, x ∈ l' ↔ x ∈ l) : cmpF same l' = rsortF l := by
  have h1 := cmpF_ss totT hs
  have h2 := rsort_ss l
  exact ss_ext totT h1.1 h2.1 fun x => by rw [h1.2, h2.2, hm]
theorem cmp_rnon {t : Tm} {l' : List Int} (hs : l'.Pairwise fun a b => a ≤ b) (hm : ∀ x, x ∈ l' ↔ x ∈ nonT t) : cmpF (fun u v : Int => u == v) l' = rnonT t := by
  have h1 := cmpF_ss totI (l := l') (hs.imp fun h => by omega)
  have h2 := rnonT_ss t
  exact ss_ext totI h1.1 h2.1 fun x => by rw [h1.2, h2.2, hm]
end Go.Proofs.Ytmnmhehddbemkaa
namespace Go.Proofs.Ytmnmhehddbemkaa
open Go Go.Eng
set_option maxRecDepth 100000
theorem sortZ_perm (l : List Int) : (sortZ l).Perm l := List.mergeSort_perm _ _
theorem sortZ_ss (l : List Int) : (sortZ l).Pairwise fun a b => a ≤ b := by
  have := List.pairwise_mergeSort (le := fun x y : Int => decide (x ≤ y)) (fun a b c h1 h2 => by simp at *; omega) (fun a b => by simp; omega) l
  exact this.imp fun h => by simpa using h
theorem nonces_fn (t : Tm) (h : Sm t) (hs : szT t ≤ 1000000) : Gives Try.prog 41 [t.sv] (.tl 1 (ints (rnonT t))) := by
  have hn := nonT_len t
  refine contract_of ty_ok [0, 1, 4, 5, 6, 7, 8, 9] Try.func41 rfl (by decide) Try.ntmps41 rfl fun z => ?_
  refine run 400 rfl ?_
  refine at_nilSI 1 2 0 rfl rfl rfl ?_
  refine at_callG [1, 2, 3] (eachB_fn t [] 0 0 h (by simpa using hs) (by simp) (by simp)) rfl ⟨rfl, rfl, trivial⟩ rfl ?_
  rintro sv post ⟨c, r, h1, h2, rfl, rfl⟩
  rw [List.nil_append] at h1 h2
  refine ⟨rfl, rfl, ?_⟩
  show Sat _ _ _ _ [(1, .cells 22 [.sl 3 0 (nonT t).length c]), (3, .buf (ints (nonT t)) r), (0, .cells 33 [I t.k, I t.n, .str t.s, .lst 4 (rowsT t.kids)])] _
  have hp := sortZ_perm (nonT t)
  have hl := hp.length_eq
  have hlaw := cmp_rnon (t := t) (sortZ_ss (nonT t)) fun x => hp.mem_iff
  refine run 400 rfl ?_
  refine at_sortI 3 rfl rfl rfl (by omega) rfl ?_
  rw [← hl] at h1 ⊢
  generalize sortZ (nonT t) = l at *
  refine run 400 rfl ?_
  refine at_callF [3] (cmpactI_fn l c r (by omega) h1) rfl ⟨rfl, trivial⟩ rfl rfl rfl ?_
  refine run 400 rfl ?_
  have hlen := cmp_len eqI l
  refine at_callF [3] (clipI_fn _ _ _ _ (by omega)) rfl ⟨rfl, trivial⟩ rfl rfl rfl ?_
  refine run 400 rfl ?_
  refine at_pubT 2 3 1 (ints (cmpF eqI l)) [] rfl rfl (List.append_nil _).symm (ints_len _).symm (fun r hr => ints_sz r hr) rfl ?_
  exact at_ret rfl rfl [] ⟨by rw [← hlaw], rfl, rfl⟩ trivial
end Go.Proofs.Ytmnmhehddbemkaa
namespace Go.Proofs.Ytmnmhehddbemkaa
open Go Go.Eng
set_option maxRecDepth 100000
theorem sort_fn (l : List Tm) (hl : l.length ≤ 1000000) (h : ∀ t ∈ l, Sm t) : Gives Try.prog 50 [.lst 4 (rowsT l)] (.tl 4 (rowsT (rsortF l))) :=
  (sortT_fn l hl h).le (fun s hs => by
    obtain ⟨l', hp, hs, rfl⟩ := hs
    rw [cmp_rsort hs fun x => hp.mem_iff]
    exact SVle.refl _)
theorem gives_is {f : Nat} {args : List SV} {b c : Bool} (h : Gives Try.prog f args (.bl b)) (e : b = c) : Gives Try.prog f args (cond c .tt .ff) := by
  subst e
  exact h.le (by cases b <;> exact fun _ _ _ h => h) (by cases b <;> rfl)

abbrev aT : Tm := .mk 1 0 ⟨#[98]⟩ []
abbrev nT : Tm := .mk 2 0 .empty []
abbrev hT : Tm := .mk 3 0 .empty [nT]
abbrev zT : Tm := .mk 0 0 .empty []
theorem may_aT : mayF aT = true := by
  have e : seq aT.s .empty = false := by rw [seq_data]; rfl
  have e2 : rightF aT = true := by unfold rightF; rw [e]; rfl
  unfold mayF
  rw [mayT, e2]
  rfl
theorem may_zT : mayF zT = false := by
  have e2 : rightF zT = false := by unfold rightF; rfl
  unfold mayF
  rw [mayT, e2]
  rfl
theorem ord_an : ordT aT nT = -1 := by
  rw [ordT_lex]
  exact orI_ne (by decide)
theorem ord_na : ordT nT aT = 1 := by rw [ord_anti, ord_an]; rfl
theorem same_an : same aT nT = false := by
  cases h : same aT nT with
  | false => rfl
  | true => have := same_iff.1 h; cases this
theorem has_hn : hasT nT hT = true := by
  rw [hasT, hasL, hasT, same_iff.2 rfl]; simp
theorem rnon_hT : rnonT hT = [0] := by simp [rnonT, rnonL, insF]
theorem rsort_nan : rsortF [nT, aT, nT] = [aT, nT] := by
  have e1 : addF [] nT = [nT] := rfl
  have e2 : addF [nT] aT = [aT, nT] := by
    rw [addF, ord_na, if_neg (by decide)]
    rw [if_neg]
    rw [same_iff]
    intro h; cases h
  have e3 : addF [aT, nT] nT = [aT, nT] := by
    rw [addF, ord_an, if_pos (by decide), addF, ord_irr, if_neg (by decide), if_pos (same_iff.2 rfl)]
  show addF (addF (addF [] nT) aT) nT = _
  rw [e1, e2, e3]
theorem sm_leaf (k n : Int) (s : ByteArray) : Sm (.mk k n s []) := .mk (by simp) (by simp)
theorem sm_hT : Sm hT := .mk (by simp) (fun t ht => by rw [List.mem_singleton] at ht; subst ht; exact sm_leaf _ _ _)

theorem known37_fn : Gives Try.prog 37 [] .tt := by
  have k1 : Gives Try.prog 39 [aT.sv] .tt := gives_is (may_fn aT) may_aT
  have k2 : Gives Try.prog 39 [zT.sv] .ff := gives_is (may_fn zT) may_zT
  have k3 := size_fn hT sm_hT (by simp [szT, szL])
  have e3 : szT hT = 2 := by simp [szT, szL]
  rw [e3] at k3
  have k4 : Gives Try.prog 45 [hT.sv, hT.sv] .tt := gives_is (tsame_fn hT hT sm_hT) (same_iff.2 rfl)
  have k5 : Gives Try.prog 45 [aT.sv, nT.sv] .ff := gives_is (tsame_fn aT nT (sm_leaf _ _ _)) same_an
  have k6 : Gives Try.prog 47 [aT.sv, nT.sv] .tt := gives_is (c := true) (tless_fn aT nT (sm_leaf _ _ _)) (by rw [ord_an]; rfl)
  have k7 : Gives Try.prog 47 [nT.sv, aT.sv] .ff := gives_is (c := false) (tless_fn nT aT (sm_leaf _ _ _)) (by rw [ord_na]; rfl)
  have k8 : Gives Try.prog 49 [hT.sv, nT.sv] .tt := gives_is (has_fn hT nT sm_hT) has_hn
  have k9 := nonces_fn hT sm_hT (by simp [szT, szL])

  rw [rnon_hT] at k9
  have k10 := sort_fn [nT, aT, nT] (by simp) (by intro t ht; simp at ht; rcases ht with rfl | rfl | rfl <;> exact sm_leaf _ _ _)
  rw [rsort_nan] at k10
  have k11 : Gives Try.prog 50 [.tl 4 [tr nT, tr aT, tr nT]] (.tl 4 [tr aT, tr nT]) := by
    have := k10.weak (args' := [.tl 4 [tr nT, tr aT, tr nT]]) ⟨by rw [rowsT_cons, rowsT_cons, rowsT_cons, rowsT_nil]; exact SVle.tl _ _, trivial⟩
    rw [rowsT_cons, rowsT_cons, rowsT_nil] at this
    exact this
  refine contract_of ty_ok [0, 1, 2, 3, 4, 5, 6, 7] Try.func37 rfl (by decide) Try.ntmps37 rfl fun z => ?_
  refine run 400 rfl ?_
  have hnil : SVle (.tl 0 []) (up (.lst 4 (rowsT []))) := fun g H x h => by rw [rowsT_nil]; exact SVle.tl 4 [] g H x (SVle.nil 4 g H x h)
  refine at_gro (.tl 4 [tr nT]) (doesG_build ty_ok _ rfl ⟨⟨rfl, rfl, _, rfl, ⟨SVle.refl _, SVle.refl _, SVle.refl _, hnil, trivial⟩⟩, trivial⟩ rfl rfl (by decide)) ?_
  refine run 400 rfl ?_
  have hnT : SVle (.tl 4 [tr nT]) (.lst 4 (rowsT [nT])) := by rw [rowsT_cons, rowsT_nil]; exact SVle.tl _ _
  refine at_weakO [(2, own33 hT), (1, own33 nT), (0, own33 aT)] ⟨rfl, ⟨rfl, SVle.refl _, SVle.refl _, SVle.refl _, hnT, trivial⟩, rfl, ⟨rfl, SVle.refl _, SVle.refl _, SVle.refl _, hnil, trivial⟩, rfl, ⟨rfl, SVle.refl _, SVle.refl _, SVle.refl _, hnil, trivial⟩, trivial⟩ ?_
  refine at_less [(9, aT.sv), (1, .ptr 0 0), (2, .ptr 1 0), (3, .ptr 2 0)] [(2, own33 hT), (1, own33 nT), (0, own33 aT)] [3, 4, 5, 6, 7] ⟨SVle.agg ⟨SVle.refl _, SVle.refl _, SVle.refl _, hnil, trivial⟩, SVle.refl _, SVle.refl _, SVle.refl _, trivial⟩ ⟨rfl, rfl, rfl, trivial⟩ ?_
  refine at_fn k1 rfl ?_
  refine run 400 rfl ?_
  refine at_less [(11, .tt), (12, zT.sv), (1, .ptr 0 0), (2, .ptr 1 0), (3, .ptr 2 0)] [(2, own33 hT), (1, own33 nT), (0, own33 aT)] [3, 4, 5, 6, 7] ⟨SVle.refl _, SVle.agg ⟨SVle.refl _, SVle.refl _, SVle.refl _, hnil, trivial⟩, SVle.refl _, SVle.refl _, SVle.refl _, trivial⟩ ⟨rfl, rfl, rfl, trivial⟩ ?_
  refine at_fn k2 rfl ?_
  refine run 400 rfl ?_
  refine at_fn k3 rfl ?_
  refine run 400 rfl ?_
  refine at_true 21 rfl (by rfl) ?_
  refine run 400 rfl ?_
  refine at_fn k4 rfl ?_
  refine run 400 rfl ?_
  refine at_fn k5 rfl ?_
  refine run 400 rfl ?_
  refine at_fn k6 rfl ?_
  refine run 400 rfl ?_
  refine at_fn k7 rfl ?_
  refine run 400 rfl ?_
  refine at_fn k8 rfl ?_
  refine run 400 rfl ?_
  refine at_fn k9 rfl ?_
  refine run 400 rfl ?_
  refine at_true 54 rfl (by rfl) ?_
  refine run 400 rfl ?_
  refine at_gro (.tl 4 [tr nT, tr aT, tr nT]) (doesG_build ty_ok _ rfl ⟨⟨rfl, rfl, _, rfl, SVles.refl _⟩, ⟨rfl, rfl, _, rfl, SVles.refl _⟩, ⟨rfl, rfl, _, rfl, SVles.refl _⟩, trivial⟩ rfl rfl (by decide)) ?_
  refine run 400 rfl ?_
  refine at_fn k11 rfl ?_
  refine run 400 rfl ?_
  refine at_true 0 rfl (by rfl) ?_
  exact at_ret rfl rfl [] ⟨rfl, rfl, rfl⟩ trivial
end Go.Proofs.Ytmnmhehddbemkaa
namespace Go.Proofs.Ytmnmhehddbemkaa
open Go Go.Eng

abbrev xs : ByteArray := ⟨#[120]⟩
abbrev mx : Mv := ⟨2, 0, 0, xs⟩
abbrev ax : Tm := .mk 1 0 xs []
theorem right_ax : rightF ax = true := by
  have e : seq ax.s .empty = false := by rw [seq_data]; rfl
  unfold rightF
  rw [e]
  rfl
theorem runG_atoms (tl : List Mv) : ∀ (k : Nat) (acc : List Tm), runG [] (List.replicate k mx ++ tl) acc = runG [] tl (acc ++ List.replicate k ax)
  | 0, acc => by simp
  | k + 1, acc => by
    have d1 : doesF [] acc (.atom xs) = (ax, true) := by
      show (ax, mayF ax) = _
      have : mayF ax = true := by
        unfold mayF
        rw [mayT, right_ax]
        rfl
      rw [this]
    rw [List.replicate_succ, List.cons_append, runG]
    show (match doesF [] acc (.atom xs) with | (t, true) => runG [] (List.replicate k mx ++ tl) (acc ++ [t]) | (_, false) => ([], 3)) = _
    rw [d1]
    show runG [] (List.replicate k mx ++ tl) (acc ++ [ax]) = _
    rw [runG_atoms tl k (acc ++ [ax]), List.replicate_succ]
    simp
theorem run_e (k : Nat) : (runF [] (List.replicate k mx)).2 = if 1024 < k then 7 else 0 := by
  unfold runF
  rw [List.length_replicate]
  split
  · rfl
  · have := runG_atoms [] k []
    rw [List.append_nil] at this
    rw [this]
    rfl
theorem run_g (k : Nat) : (runF [] (List.replicate k mx ++ [Mv.zero])).2 = if 1024 < k + 1 then 7 else 2 := by
  unfold runF
  rw [List.length_append, List.length_replicate, List.length_singleton]
  split
  · rfl
  · rw [runG_atoms]
    rfl

/-- Hashes, so many, of an atom. -/
def tow : Nat → Tm
  | 0 => ax
  | j + 1 => .mk 3 0 .empty [tow j]
def tows (n : Nat) : List Tm := (List.range n).map tow
abbrev hm (i : Nat) : Mv := ⟨6, i, 0, .empty⟩
theorem right_h (t : Tm) : rightF (.mk 3 0 .empty [t]) = true := by
  have e : seq (Tm.mk 3 0 .empty [t]).s .empty = true := seq_self _
  unfold rightF
  rw [e]
  rfl
theorem may_tow : ∀ (j : Nat) (d c : Int), 0 ≤ c → c + j + 1 ≤ 64 → (mayT (tow j) d c).1 = decide (d + j ≤ 16)
  | 0, d, c, h0, h1 => by
    show (mayT ax d c).1 = _
    rw [mayT, right_ax, if_neg (by omega)]
    by_cases h : 16 < d
    · rw [if_pos h]
      exact (decide_eq_false (by omega)).symm
    · rw [if_neg h, if_neg (by simp), mayL]
      exact (decide_eq_true (by omega)).symm
  | j + 1, d, c, h0, h1 => by
    rw [tow, mayT, right_h, if_neg (by omega)]
    by_cases h : 16 < d
    · rw [if_pos h]
      exact (decide_eq_false (by omega)).symm
    · rw [if_neg h, if_neg (by simp)]
      have ih := may_tow j (d + 1) (c + 1) (by omega) (by omega)
      rw [mayL]
      rcases hm : mayT (tow j) (d + 1) (c + 1) with ⟨b, c'⟩
      rw [hm] at ih
      dsimp only at ih
      have e : decide (d + ((j + 1 : Nat) : Int) ≤ 16) = b := by
        rw [ih]
        exact decide_eq_decide.2 (by omega)
      rw [e]
      cases b <;> simp [mayL]
theorem runG_hash : ∀ (r i : Nat), i + 1 ≤ 16 → i + r ≤ 40 → (runG [] ((List.range' i r).map hm) (tows (i + 1))).2 = if i + r + 1 ≤ 16 then 0 else 3
  | 0, i, h, _ => by
    rw [if_pos (by omega)]
    rfl
  | r + 1, i, h, h40 => by
    have hlen : (tows (i + 1)).length = i + 1 := by simp [tows]
    have hget : (tows (i + 1)).getD (i : Int).toNat .zero = tow i := by
      rw [List.getD_eq_getElem?_getD]
      simp [tows]
    have hn : nearF (.one 3 i) (tows (i + 1)).length ([] : List Tm).length = true := by
      rw [hlen]
      simp [nearF, inF]
      omega
    have hd : doesF [] (tows (i + 1)) (.one 3 i) = (tow (i + 1), mayF (tow (i + 1))) := by
      simp only [doesF, stepT, hget]
      rfl
    have hr : readF (hm i) = some (.one 3 i) := rfl
    have hmay : mayF (tow (i + 1)) = decide (i + 2 ≤ 16) := by
      unfold mayF
      rw [may_tow (i + 1) 1 0 (by omega) (by omega)]
      exact decide_eq_decide.2 (by omega)
    rw [List.range'_succ, List.map_cons, runG, hr]
    dsimp only
    rw [if_pos hn, hd, hmay]
    by_cases h2 : i + 2 ≤ 16
    · rw [decide_eq_true h2]
      have e : tows (i + 1) ++ [tow (i + 1)] = tows (i + 1 + 1) := by
        unfold tows
        rw [List.range_succ (n := i + 1), List.map_append]
        rfl
      show (runG [] _ (tows (i + 1) ++ [tow (i + 1)])).2 = _
      rw [e, runG_hash r (i + 1) h2 (by omega)]
      by_cases h3 : i + (r + 1) + 1 ≤ 16
      · rw [if_pos h3, if_pos (by omega)]
      · rw [if_neg h3, if_neg (by omega)]
    · rw [decide_eq_false h2, if_neg (by omega)]
theorem run_f (d : Nat) (hd : d ≤ 40) : (runF [] (mx :: (List.range d).map hm)).2 = if d + 1 ≤ 16 then 0 else 3 := by
  unfold runF
  rw [if_neg (by simp; omega)]
  have := runG_atoms ((List.range d).map hm) 1 []
  have e1 : List.replicate 1 mx ++ (List.range d).map hm = mx :: (List.range d).map hm := rfl
  rw [e1] at this
  rw [this]
  have h2 := runG_hash d 0 (by omega) (by omega)
  have e2 : ([] : List Tm) ++ List.replicate 1 ax = tows (0 + 1) := rfl
  rw [e2, List.range_eq_range', h2, Nat.zero_add]

/-! A list of moves, filled. -/
theorem flatM_len (l : List Mv) : (flatU (rowsM l)).length = l.length * 4 := by
  unfold flatU
  induction l with
  | nil => rfl
  | cons m l ih =>
    show ((mr m ++ (rowsM l).flatten).map up).length = _
    rw [List.map_append, List.length_append, ih, List.length_cons]
    show 4 + _ = _
    omega
abbrev halfM (n i : Nat) : List SV := flatU (rowsM (List.replicate i mx)) ++ List.replicate ((n - i) * 4) .any
theorem halfM_step {n i : Nat} (h : i < n) : splice [I 2, I 0, I 0, .str xs] (i * 4) (halfM n i) = halfM n (i + 1) := by
  have hlen : (flatU (rowsM (List.replicate i mx))).length = i * 4 := by rw [flatM_len, List.length_replicate]
  unfold halfM
  rw [← hlen, show (n - i) * 4 = (n - (i + 1)) * 4 + [I 2, I 0, I 0, SV.str xs].length from by show _ = _ + 4; omega, splice_fill, List.replicate_succ']
  unfold flatU
  simp only [rowsM, List.map_append, List.flatten_append]
  rfl

set_option maxRecDepth 100000 in
theorem proofMany_fn (n : Int) : Gives Try.prog 4 [I n] .tt := by
  refine Gives.le (a := .bl true) ?_ (SVle.tt rfl)
  obtain ⟨k, hk, hk2⟩ : ∃ k : Nat, (k : Int) = 1021 + n % 6 ∧ k ≤ 1026 := ⟨(1021 + n % 6).toNat, by omega, by omega⟩
  obtain ⟨d, hd, hd2⟩ : ∃ d : Nat, (d : Int) = 12 + n % 8 ∧ d ≤ 19 := ⟨(12 + n % 8).toNat, by omega, by omega⟩
  refine contract_of ty_ok [0, 1, 2, 3, 4, 7] Try.func4 rfl (by decide) Try.ntmps4 rfl fun z => ?_
  refine run 400 rfl ?_
  refine at_fn known16_fn rfl ?_
  refine run 400 rfl ?_
  refine at_fn (within21 n 6 (by omega)) rfl ?_
  refine run 400 rfl ?_
  rw [← hk]
  refine at_make 5 4 ty_ok rfl rfl rfl (by omega) (show ((40 : Nat) : Int) * (k : Int) ≤ 281474976710656 by omega) (by omega) ?_
  refine run 400 rfl ?_
  refine at_loop (fun i : Nat => i ≤ k) (fun i => [(0, I n), (3, I k), (4, .arr 5 k), (5, I i)]) (fun i => [(5, .cells 37 (halfM k i))]) (fun i => k - i) [0, 1, 2, 3, 4, 7]
    0 (by omega) ⟨SVle.refl _, SVle.refl _, SVle.refl _, SVle.refl _, trivial⟩ ⟨rfl, trivial⟩ ?_
  intro i hi
  refine run 400 rfl ?_
  refine at_ifd rfl (fun g => ?_) (fun g => ?_)
  · refine run 400 rfl ?_
    refine at_val (.ptr 5 ((i : Int).toNat * 4)) (does_indexArr ty_ok rfl rfl rfl ⟨by omega, by omega⟩ rfl) ?_
    refine at_store ty_ok (halfM k (i + 1)) rfl rfl rfl rfl rfl rfl (by unfold halfM; rw [List.length_append, flatM_len, List.length_replicate, List.length_replicate]; show i * 4 + 4 ≤ _; omega) (halfM_step (by omega)) rfl ?_
    refine run 400 rfl ?_
    exact at_again (i + 1) (by omega) (by omega) ⟨SVle.refl _, SVle.refl _, SVle.refl _, SVle.of_eq (by show I ((i : Int) + 1) = I ((i + 1 : Nat) : Int); rw [Int.natCast_add]; rfl), trivial⟩ ⟨rfl, trivial⟩
  have e : i = k := by omega
  subst e
  have hrl : (rowsM (List.replicate i mx)).length = i := by simp
  refine at_publish 5 4 (rowsM (List.replicate i mx)) (by show some (SO.cells 37 (halfM i i)) = _; unfold halfM; rw [Nat.sub_self, Nat.zero_mul, List.replicate_zero, List.append_nil]) (fun r hr => by obtain ⟨t, _, rfl⟩ := List.mem_map.1 hr; rfl) (own2 := []) (fun j o h => by simp [ownq] at h) (by repeat' (first | exact trivial | refine ⟨show (bif Nat.beq 5 5 then i = _ else True) by rw [hrl]; rfl, ?_⟩ | refine ⟨trivial, ?_⟩)) ?_
  refine run 400 rfl ?_
  have hR1 := run_fn [] (List.replicate i mx) (by simp)
  have he := run_e i
  generalize runF [] (List.replicate i mx) = R1 at hR1 he
  refine at_fn (hR1.weak (args' := [.tl 0 [], .tl 4 (rowsM (List.replicate i mx))]) ⟨SVle.nils, SVle.tl _ _, trivial⟩) rfl ?_
  refine run 400 rfl ?_
  refine at_fn (within21 n 8 (by omega)) rfl ?_
  refine run 400 rfl ?_
  rw [← hd]
  refine at_gro (.tl 4 [mr mx]) (doesG_build ty_ok _ rfl ⟨⟨rfl, rfl, _, rfl, SVles.refl _⟩, trivial⟩ rfl rfl (by decide)) ?_
  refine run 400 rfl ?_
  refine at_name 9 6 4 rfl (.inl rfl) ?_
  refine run 400 rfl ?_
  refine at_loop (fun j : Nat => j ≤ d) (fun j => [(3, I i), (4, .tl 4 (rowsM (List.replicate i mx))), (7, I R1.2), (8, I d), (9, .gl 6 4 (rowsM (mx :: (List.range j).map hm))), (10, I j)]) (fun _ => [(6, .tok 4)]) (fun j => d - j) [0, 1, 2, 3, 4, 5, 7]
    0 (by omega) ⟨SVle.refl _, SVle.refl _, SVle.refl _, SVle.refl _, SVle.refl _, SVle.refl _, trivial⟩ ⟨rfl, trivial⟩ ?_
  intro j hj
  refine run 400 rfl ?_
  refine at_ifd rfl (fun g => ?_) (fun g => ?_)
  · refine run 400 rfl ?_
    refine at_gro (.tl 4 [mr (hm j)]) (doesG_build ty_ok _ rfl ⟨⟨rfl, rfl, _, rfl, SVles.refl _⟩, trivial⟩ rfl rfl (by decide)) ?_
    refine run 400 rfl ?_
    refine at_grow 6 6 4 (rowsM (mx :: (List.range j).map hm) ++ [mr (hm j)]) rfl (doesU_append ty_ok rfl rfl rfl rfl rfl rfl rfl (by simp; omega) (by show _ * 40 ≤ _; simp; omega)) rfl ?_
    refine run 400 rfl ?_
    refine at_again (j + 1) (by omega) (by omega) ⟨SVle.refl _, SVle.refl _, SVle.refl _, SVle.refl _, SVle.of_eq ?_, SVle.of_eq (by show I ((j : Int) + 1) = I ((j + 1 : Nat) : Int); rw [Int.natCast_add]; rfl), trivial⟩ ⟨rfl, trivial⟩
    show SV.gl 6 4 (rowsM (mx :: (List.range j).map hm) ++ [mr (hm j)]) = SV.gl 6 4 (rowsM (mx :: (List.range (j + 1)).map hm))
    rw [List.range_succ]
    simp
  have e : j = d := by omega
  subst e
  refine run 400 rfl ?_
  have hR2 := run_fn [] (mx :: (List.range j).map hm) (by simp)
  have hf := run_f j (by omega)
  generalize runF [] (mx :: (List.range j).map hm) = R2 at hR2 hf
  refine at_deg 6 ?_
  refine run 400 rfl ?_
  refine at_fn (hR2.weak (args' := [.tl 0 [], .lst 4 (rowsM (mx :: (List.range j).map hm))]) ⟨SVle.nils, SVle.refl _, trivial⟩) rfl ?_
  refine run 400 rfl ?_
  refine at_gro (.tl 4 [mr Mv.zero]) (doesG_build ty_ok _ rfl ⟨⟨rfl, rfl, _, rfl, SVles.refl _⟩, trivial⟩ rfl rfl (by decide)) ?_
  refine run 400 rfl ?_
  refine at_new 5 4 (rowsM (List.replicate i mx) ++ [mr Mv.zero]) (doesT_append ty_ok rfl rfl rfl rfl rfl rfl rfl (by simp; omega) (by show _ * 40 ≤ _; simp; omega)) ?_
  refine run 400 rfl ?_
  refine at_deg 5 ?_
  refine run 400 rfl ?_
  have hR3 := run_fn [] (List.replicate i mx ++ [Mv.zero]) (by simp)
  have hg := run_g i
  generalize runF [] (List.replicate i mx ++ [Mv.zero]) = R3 at hR3 hg
  refine at_fn (hR3.weak (args' := [.tl 0 [], .lst 4 (rowsM (List.replicate i mx) ++ [mr Mv.zero])]) ⟨SVle.nils, SVle.of_eq (by simp), trivial⟩) rfl ?_
  refine run 400 rfl ?_
  refine at_true 69 rfl (by rw [he]; by_cases h : 1024 < i <;> simp [h] <;> omega) ?_
  refine run 400 rfl ?_
  by_cases h1 : 1024 < i
  · rw [if_pos h1] at he
    refine at_false 72 rfl (by rw [he]; rfl) ?_
    refine run 400 rfl ?_
    refine at_true 77 rfl (by rw [he]; rfl) ?_
    refine run 400 rfl ?_
    refine at_true 85 rfl (by rw [hf]; by_cases h : j + 1 ≤ 16 <;> simp [h] <;> omega) ?_
    refine run 400 rfl ?_
    by_cases h2 : j + 1 ≤ 16
    · rw [if_pos h2] at hf
      refine at_true 88 rfl (by rw [hf]; rfl) ?_
      refine run 400 rfl ?_
      refine at_ret rfl rfl [] ⟨?_, rfl, rfl⟩ trivial
      show SV.bl (decide (R3.2 = 7) == decide ((i : Int) + 1 > 1024)) = .bl true
      rw [hg]
      by_cases h : 1024 < i + 1 <;> simp [h] <;> omega
    · rw [if_neg h2] at hf
      refine at_false 88 rfl (by rw [hf]; rfl) ?_
      refine run 400 rfl ?_
      refine at_true 93 rfl (by rw [hf]; rfl) ?_
      refine run 400 rfl ?_
      refine at_ret rfl rfl [] ⟨?_, rfl, rfl⟩ trivial
      show SV.bl (decide (R3.2 = 7) == decide ((i : Int) + 1 > 1024)) = .bl true
      rw [hg]
      by_cases h : 1024 < i + 1 <;> simp [h] <;> omega
  · rw [if_neg h1] at he
    refine at_true 72 rfl (by rw [he]; rfl) ?_
    refine run 400 rfl ?_
    refine at_true 85 rfl (by rw [hf]; by_cases h : j + 1 ≤ 16 <;> simp [h] <;> omega) ?_
    refine run 400 rfl ?_
    by_cases h2 : j + 1 ≤ 16
    · rw [if_pos h2] at hf
      refine at_true 88 rfl (by rw [hf]; rfl) ?_
      refine run 400 rfl ?_
      refine at_ret rfl rfl [] ⟨?_, rfl, rfl⟩ trivial
      show SV.bl (decide (R3.2 = 7) == decide ((i : Int) + 1 > 1024)) = .bl true
      rw [hg]
      by_cases h : 1024 < i + 1 <;> simp [h] <;> omega
    · rw [if_neg h2] at hf
      refine at_false 88 rfl (by rw [hf]; rfl) ?_
      refine run 400 rfl ?_
      refine at_true 93 rfl (by rw [hf]; rfl) ?_
      refine run 400 rfl ?_
      refine at_ret rfl rfl [] ⟨?_, rfl, rfl⟩ trivial
      show SV.bl (decide (R3.2 = 7) == decide ((i : Int) + 1 > 1024)) = .bl true
      rw [hg]
      by_cases h : 1024 < i + 1 <;> simp [h] <;> omega
end Go.Proofs.Ytmnmhehddbemkaa
namespace Go.Proofs.Ytmnmhehddbemkaa
open Go Go.Eng

mutual
/-- Each node by itself is right. -/
def allR : Tm → Bool
  | .mk k n s l => rightF (.mk k n s l) && allRL l
def allRL : List Tm → Bool
  | [] => true
  | t :: l => allR t && allRL l
end
mutual
def dpT : Tm → Nat
  | .mk _ _ _ l => dpL l + 1
def dpL : List Tm → Nat
  | [] => 0
  | t :: l => max (dpT t) (dpL l)
end
mutual
theorem may_yes : ∀ (t : Tm) (d c : Int), allR t = true → c + szT t ≤ 64 → d + dpT t ≤ 17 → mayT t d c = (true, c + szT t)
  | .mk k n s l, d, c, h, h1, h2 => by
    rw [allR, Bool.and_eq_true] at h
    rw [szT] at h1 ⊢
    rw [dpT] at h2
    rw [mayT, h.1, if_neg (by omega), if_neg (by omega), if_neg (by decide), may_yesL l (d + 1) (c + 1) h.2 (by omega) (by omega)]
    congr 1
    omega
theorem may_yesL : ∀ (l : List Tm) (d c : Int), allRL l = true → c + szL l ≤ 64 → d + dpL l ≤ 17 → mayL l d c = (true, c + szL l)
  | [], d, c, _, _, _ => by simp [mayL, szL]
  | t :: l, d, c, h, h1, h2 => by
    rw [allRL, Bool.and_eq_true] at h
    rw [szL] at h1 ⊢
    rw [dpL] at h2
    rw [mayL, may_yes t d c h.1 (by omega) (by omega)]
    show mayL l d (c + szT t) = _
    rw [may_yesL l d _ h.2 (by omega) (by omega)]
    congr 1
    omega
end
mutual
theorem may_of : ∀ (t : Tm) (d c : Int), (mayT t d c).1 = true → allR t = true ∧ c + szT t ≤ 64 ∧ d + dpT t ≤ 17 ∧ (mayT t d c).2 = c + szT t
  | .mk k n s l, d, c, h => by
    rw [mayT] at h ⊢
    rw [szT, dpT, allR]
    split at h
    · cases h
    split at h
    · cases h
    split at h
    · cases h
    rename_i q1 q2 q3
    rw [if_neg q1, if_neg q2, if_neg q3]
    obtain ⟨a1, a2, a3, a4⟩ := may_ofL l (d + 1) (c + 1) h (by omega) (by omega)
    have q3 : rightF (.mk k n s l) = true := by simpa using q3
    refine ⟨by rw [q3, a1]; rfl, by omega, by omega, by omega⟩
theorem may_ofL : ∀ (l : List Tm) (d c : Int), (mayL l d c).1 = true → c ≤ 64 → d ≤ 17 → allRL l = true ∧ c + szL l ≤ 64 ∧ d + dpL l ≤ 17 ∧ (mayL l d c).2 = c + szL l
  | [], d, c, h, h1, h2 => by simp [mayL, szL, dpL, allRL]; omega
  | t :: l, d, c, h, h1, h2 => by
    rw [mayL] at h ⊢
    rw [szL, dpL, allRL]
    rcases e : mayT t d c with ⟨b, c'⟩
    rw [e] at h
    cases b with
    | false => cases h
    | true =>
      have h : (mayL l d c').1 = true := h
      obtain ⟨b1, b2, b3, b4⟩ := may_of t d c (by rw [e])
      rw [e] at b4
      have b4 : c' = c + szT t := b4
      subst b4
      obtain ⟨a1, a2, a3, a4⟩ := may_ofL l d _ h (by omega) h2
      refine ⟨by rw [b1, a1]; rfl, by omega, by omega, ?_⟩
      show (mayL l d (c + szT t)).2 = _
      rw [a4]; omega
end
theorem mayF_iff (t : Tm) : mayF t = (allR t && decide (szT t ≤ 64 ∧ dpT t ≤ 16)) := by
  cases h : mayF t with
  | true =>
    obtain ⟨a1, a2, a3, _⟩ := may_of t 1 0 h
    rw [a1, decide_eq_true (by omega)]
    rfl
  | false =>
    cases h2 : allR t with
    | false => rfl
    | true =>
      rw [Bool.true_and]
      symm
      apply decide_eq_false
      intro h3
      have := may_yes t 1 0 h2 (by omega) (by omega)
      rw [mayF, this] at h
      cases h

theorem right_leafA (ns : List Int) (j : Int) : rightF (leafA ns j).1 = true := by
  have hx : ∀ b ∈ words, (b.size : Int) ≤ 1024 := by
    intro b hb
    simp only [words, List.mem_cons, List.not_mem_nil, or_false] at hb
    rcases hb with rfl | rfl | rfl | rfl | rfl | rfl | rfl | rfl | rfl <;> decide
  have hp : ((pickF ns j words).1.size : Int) ≤ 1024 := by
    unfold pickF
    rw [List.getD_eq_getElem?_getD]
    cases h : words[(nextF ns j words.length).1.toNat]? with
    | none => simp
    | some b => exact hx b (List.mem_of_getElem? h)
  unfold leafA rightF
  simp [kidsF, Tm.k, Tm.n, Tm.s, Tm.kids]
  exact .inr hp
theorem right_leafN (ns : List Int) (j : Int) : rightF (leafN ns j).1 = true := by
  have hx : ∀ n ∈ nums, n = 0 ∨ 0 < n ∧ n ≤ 1073741824 := by decide
  have hp : (nums.getD (nextF ns j 8).1.toNat 0) = 0 ∨ 0 < (nums.getD (nextF ns j 8).1.toNat 0) ∧ (nums.getD (nextF ns j 8).1.toNat 0) ≤ 1073741824 := by
    rw [List.getD_eq_getElem?_getD]
    cases h : nums[(nextF ns j 8).1.toNat]? with
    | none => simp
    | some b => exact hx b (List.mem_of_getElem? h)
  have e : seq ByteArray.empty .empty = true := seq_self _
  unfold leafN rightF
  simp [kidsF, Tm.k, Tm.n, Tm.s, Tm.kids, e]
  rcases hp with h | ⟨h1, h2⟩
  · exact .inl h
  · exact .inr ⟨h1, h2⟩
theorem right_k1 (k : Int) (t : Tm) (hk : k = 3 ∨ k = 4) : rightF (.mk k 0 .empty [t]) = true := by
  have e : seq ByteArray.empty .empty = true := seq_self _
  unfold rightF
  rcases hk with rfl | rfl <;> simp [kidsF, Tm.k, Tm.n, Tm.s, Tm.kids, e]
theorem right_k2 (k : Int) (t u : Tm) (hk : k = 5 ∨ k = 6 ∨ k = 7) : rightF (.mk k 0 .empty [t, u]) = true := by
  have e : seq ByteArray.empty .empty = true := seq_self _
  unfold rightF
  rcases hk with rfl | rfl | rfl <;> simp [kidsF, Tm.k, Tm.n, Tm.s, Tm.kids, e]
theorem genT_may (ns : List Int) : ∀ (d : Nat) (j : Int), 0 ≤ j ∧ j ≤ ns.length → allR (genT ns d j).1 = true ∧ dpT (genT ns d j).1 ≤ d + 1 := by
  have hA : ∀ j : Int, allR (leafA ns j).1 = true ∧ dpT (leafA ns j).1 = 1 := fun j => ⟨by
    have := right_leafA ns j
    unfold leafA at this ⊢
    simp only [allR, allRL, this]
    rfl, by simp [leafA, dpT, dpL]⟩
  have hN : ∀ j : Int, allR (leafN ns j).1 = true ∧ dpT (leafN ns j).1 = 1 := fun j => ⟨by
    have := right_leafN ns j
    unfold leafN at this ⊢
    simp only [allR, allRL, this]
    rfl, by simp [leafN, dpT, dpL]⟩
  intro d
  induction d with
  | zero =>
    intro j h
    simp only [genT]
    split
    · exact ⟨(hA _).1, by rw [(hA _).2]; decide⟩
    · exact ⟨(hN _).1, by rw [(hN _).2]; decide⟩
  | succ d ih =>
    intro j h
    have hx := nextF_le (l := ns) (j := j) (n := 10) h
    simp only [genT]
    split
    · exact ⟨(hA _).1, by rw [(hA _).2]; omega⟩
    · split
      · exact ⟨(hN _).1, by rw [(hN _).2]; omega⟩
      · obtain ⟨u1, u2⟩ := ih _ hx.2.2
        have hu3 := genT_le ns d _ hx.2.2
        split
        · refine ⟨?_, by simp only [dpT, dpL]; omega⟩
          simp only [allR, allRL, u1]
          rw [right_k1 _ _ (by omega)]
          rfl
        · obtain ⟨v1, v2⟩ := ih _ hu3
          refine ⟨?_, by simp only [dpT, dpL]; omega⟩
          simp only [allR, allRL, u1, v1]
          rw [right_k2 _ _ _ (by omega)]
          rfl
theorem gen4_may (ns : List Int) : mayF (genT ns 4 0).1 = true := by
  obtain ⟨h1, h2⟩ := genT_may ns 4 0 (by omega)
  have h3 := (genT_gd ns 4 0 (by omega)).2
  rw [mayF_iff, h1, decide_eq_true (by omega)]
  rfl
end Go.Proofs.Ytmnmhehddbemkaa
namespace Go.Proofs.Ytmnmhehddbemkaa
open Go Go.Eng

abbrev rsO (L out : List Tm) (c r : Nat) : List (Nat × SO) := [(0, .cells 73 [.lst 4 (rowsT L), .sl 1 0 out.length c]), (1, .buf (rowsT out) r)]
abbrev zSV : SV := .agg [I 0, I 0, .str .empty, .tl 0 []]
theorem at_no_fn (L out : List Tm) (c r : Nat) (n : Int) (h : inF n out.length = false) : Contract Try.prog 86 2 (rsO L out c r) [.ptr 0 0, I n] fun s post => s = .tup [zSV, .ff] ∧ post = rsO L out c r := by
  refine contract_of ty_ok [3, 4, 5, 6, 7] Try.func86 rfl (by decide) Try.ntmps86 rfl fun z => ?_
  refine run 400 rfl ?_
  refine at_split 8 rfl (fun q => ?_) (fun q => ?_)
  · refine run 400 rfl ?_
    exact at_ret rfl rfl (rsO L out c r) ⟨rfl, rfl⟩ ⟨rfl, rfl, trivial⟩
  · refine run 400 rfl ?_
    refine at_ifd rfl (fun q2 => ?_) (fun q2 => ?_)
    · refine run 400 rfl ?_
      exact at_ret rfl rfl (rsO L out c r) ⟨rfl, rfl⟩ ⟨rfl, rfl, trivial⟩
    · exfalso
      simp [inF] at h q
      omega
theorem at_yes_fn (L out : List Tm) (c r : Nat) (n : Int) (h : inF n out.length = true) : Contract Try.prog 86 2 (rsO L out c r) [.ptr 0 0, I n] fun s post => s = .tup [(out.getD n.toNat .zero).sv, .tt] ∧ post = rsO L out c r := by
  have hn := inF_lt h
  have hget := rowsT_get (l := out) (n := n.toNat) (by omega)
  generalize out.getD n.toNat .zero = u at hget
  refine contract_of ty_ok [3, 4, 5, 6, 7] Try.func86 rfl (by decide) Try.ntmps86 rfl fun z => ?_
  refine run 400 rfl ?_
  refine at_false 8 rfl (by simp; omega) ?_
  refine run 400 rfl ?_
  refine at_ifd rfl (fun q2 => ?_) (fun q2 => ?_)
  · omega
  · refine run 400 rfl ?_
    refine at_val (.ptr 1 (0 + n.toNat * 4)) (does_indexS ty_ok rfl rfl rfl hn rfl) ?_
    refine at_val u.sv (does_loadB ty_ok rfl rfl rfl rfl rfl (Nat.zero_add _) rowsT_sz hget) ?_
    refine run 400 rfl ?_
    exact at_ret rfl rfl (rsO L out c r) ⟨rfl, rfl⟩ ⟨rfl, rfl, trivial⟩

/-- One move, by the document, ahead of the question whether the result may be. -/
def oneF (l res : List Tm) (m : Mv) : Option Tm × Int :=
  match readF m with
  | none => (none, 2)
  | some s => if nearF s res.length l.length then (match stepT l res s with
    | some t => (some t, 0)
    | none => (none, 3)) else (none, 8)
abbrev oneS (r : Option Tm × Int) : SV := match r with
  | (some t, e) => .tup [t.sv, I e]
  | (none, e) => .tup [zSV, I e]
end Go.Proofs.Ytmnmhehddbemkaa
