/- The texts Maps, L3, Swap, SortR, W6b, Ren, W6c, W6d, W6e, W6f, W6g, W7b, W7c, L4, W4y, one behind the other: an executor over the translated code, contracts of functions, and their laws. -/
import Derived.Maps.RangeRun
import Derived.MapKept
import Derived.Shelf.SlSortCmp.WholeK
import Derived.Shelf.Lay
import Derived.Ground.SlsfProg
import Derived.Shelf.Sort.Plain
import Derived.Ground.NamesProg
import Derived.Test.YtmnmhehddbemkaaKnowC7
/- The proof engine: maps of one's own, looked into, written, gone through. -/
namespace Go.Eng
open Go.MapKept
open Go.ChangeMaps (setBlock)

abbrev Ents := List (Value × SV)
def entOk (H : Hp) (e : MapEntry) (p : Value × SV) : Prop := e.key = p.1 ∧ Den (fun _ => undef) H p.2 e.val
def entsOk (H : Hp) : List MapEntry → Ents → Prop
  | [], [] => True
  | e :: l, p :: ps => entOk H e p ∧ entsOk H l ps
  | _, _ => False
structure MapP (d : TypeDesc) (es : Ents) (l : Array MapEntry) (c : Nat) : Prop where
  keys : ∀ p ∈ es, IsKey d p.1
  dist : es.Pairwise fun p q => p.1 ≠ q.1
  names : ∀ p ∈ es, p.2.lt 0 = true
  lt : ∀ e ∈ l.toList, e.born < c
  nodup : (l.toList.map (·.born)).Nodup
/-- A map with these entries. -/
def mapS (d : TypeDesc) (es : Ents) : Nat → Hp → Obj → Prop := fun _ H o => ∃ l c, o = .map l c ∧ entsOk H l.toList es ∧ MapP d es l c
/-- The same, where all is told. -/
def mapP (rm : Nat) (l : Array MapEntry) (c : Nat) (es : Ents) : Nat → Hp → Obj → Prop := fun r H o => r = rm ∧ o = .map l c ∧ entsOk H l.toList es
/-- One that goes through a map. -/
def itP (ri rm c : Nat) (seen : Array Nat) : Nat → Hp → Obj → Prop := fun r _ o => r = ri ∧ o = .mapIter (some rm) c seen c

theorem entsOk.mono {H H' : Hp} (hl : H.le H') : ∀ {l : List MapEntry} {es : Ents}, entsOk H l es → entsOk H' l es
  | [], [], _ => trivial
  | _ :: _, _ :: _, h => ⟨⟨h.1.1, Den.mono hl _ _ h.1.2⟩, entsOk.mono hl h.2⟩
  | [], _ :: _, h => h.elim
  | _ :: _, [], h => h.elim
theorem entsOk.len {H : Hp} : ∀ {l : List MapEntry} {es : Ents}, entsOk H l es → l.length = es.length
  | [], [], _ => rfl
  | _ :: _, _ :: _, h => by rw [List.length_cons, List.length_cons, entsOk.len h.2]
  | [], _ :: _, h => h.elim
  | _ :: _, [], h => h.elim
theorem entsOk.get {H : Hp} : ∀ {l : List MapEntry} {es : Ents}, entsOk H l es → ∀ {i : Nat} {e : MapEntry}, l[i]? = some e → ∃ p, es[i]? = some p ∧ entOk H e p
  | [], [], _, i, e, h => by simp at h
  | x :: l, p :: ps, hh, 0, e, h => by
    simp only [List.getElem?_cons_zero, Option.some.injEq] at h
    subst h
    exact ⟨p, rfl, hh.1⟩
  | x :: l, p :: ps, hh, i + 1, e, h => by
    rw [List.getElem?_cons_succ] at h
    obtain ⟨q, h1, h2⟩ := entsOk.get hh.2 h
    exact ⟨q, by rw [List.getElem?_cons_succ]; exact h1, h2⟩
  | [], _ :: _, h, _, _, _ => h.elim
  | _ :: _, [], h, _, _, _ => h.elim
theorem entsOk.get' {H : Hp} {l : List MapEntry} {es : Ents} (h : entsOk H l es) {i : Nat} {p : Value × SV} (hp : es[i]? = some p) : ∃ e, l[i]? = some e ∧ entOk H e p := by
  have hlt : i < l.length := by rw [h.len]; exact (List.getElem?_eq_some_iff.1 hp).1
  obtain ⟨q, h1, h2⟩ := h.get (List.getElem?_eq_getElem hlt)
  rw [hp] at h1
  cases h1
  exact ⟨_, List.getElem?_eq_getElem hlt, h2⟩
theorem entsOk.push {H : Hp} {e : MapEntry} {p : Value × SV} (he : entOk H e p) : ∀ {l : List MapEntry} {es : Ents}, entsOk H l es → entsOk H (l ++ [e]) (es ++ [p])
  | [], [], _ => ⟨he, trivial⟩
  | _ :: _, _ :: _, h => ⟨h.1, entsOk.push he h.2⟩
  | [], _ :: _, h => h.elim
  | _ :: _, [], h => h.elim
theorem entsOk.keys {H : Hp} {d : TypeDesc} {l : List MapEntry} {es : Ents} (h : entsOk H l es) (hk : ∀ p ∈ es, IsKey d p.1) : ∀ x ∈ l, IsKey d x.key := by
  intro x hx
  obtain ⟨i, hi⟩ := List.mem_iff_getElem?.1 hx
  obtain ⟨p, h1, h2⟩ := h.get hi
  rw [h2.1]
  exact hk p (List.mem_of_getElem? h1)
theorem mapS_mono {d : TypeDesc} {es : Ents} {r : Nat} {H H' : Hp} {o : Obj} (hl : H.le H') (h : mapS d es r H o) : mapS d es r H' o := by
  obtain ⟨l, c, e, h1, h2⟩ := h
  exact ⟨l, c, e, h1.mono hl, h2⟩

def keyV : SV → Option Value
  | .str b => some (.string b)
  | .int k n => some (.int k n)
  | _ => none
theorem keyV_den {g : Nat → Value} {H : Hp} {s : SV} {kv x : Value} (h : keyV s = some kv) (hd : Den g H s x) : x = kv := by
  cases s <;> simp only [keyV, Option.some.injEq, reduceCtorEq] at h
  · subst h; exact hd
  · subst h; exact hd
theorem Den.noname {g g' : Nat → Value} {H : Hp} {s : SV} {x : Value} (h : s.lt 0 = true) (hd : Den g H s x) : Den g' H s x := by
  have := Den.ren (g := g) (g' := g') (r := fun k => k) (m := 0) (fun k hk => absurd hk (Nat.not_lt_zero k)) s x h hd
  rw [ren_id] at this
  exact this

section
variable {P : Program} {T : Nat → TI} {env : List (Nat × SV)} {own : List (Nat × SO)}

/-- What a map has is found. -/
theorem does_lookY {o : Oper} {t k e q : Nat} {d : TypeDesc} {x y : Operand} {kv : Value} {es : Ents} (s : SV) (ht : P.underlying t = some (.map k e)) (hks : P.underlying k = some d) (ho : o.op = .lookup t x y true) (hx : ev env x = .mp q) (hy : keyV (ev env y) = some kv) (hq : ownq own q = some (.obj (mapS d es))) (hkv : IsKey d kv) (hs : (kv, s) ∈ es) :
    DoesV P o env own (.tup [s, .tt]) := by
  refine does_val fun cx g H n a w hd => ?_
  obtain ⟨r, ob, e1, h1, h2, _⟩ := hd.ok q _ hq
  obtain ⟨l, c, rfl, he, hM⟩ := h2 H (Hp.le_refl H)
  have ex := hd.ev x
  rw [hx] at ex
  obtain ⟨r', e2, e3⟩ := ex
  rw [e1] at e2
  simp only [Value.map.injEq, Option.some.injEq] at e2
  subst e2
  have ey := keyV_den hy (hd.ev y)
  have hget := MapKept.run_getObj_map (P := P) h1
  have hck := MapKept.run_checkKey (P := P) (w := w) hks hkv l.isEmpty 9999
  rcases MapKept.findNow_spec hkv l.toList 0 (he.keys hM.keys) with ⟨h3, h4⟩ | ⟨j, en, h3, h4, h5⟩
  · obtain ⟨i, hi⟩ := List.mem_iff_getElem?.1 hs
    obtain ⟨en, hen, hok⟩ := he.get' hi
    exact absurd hok.1 (h4 en (List.mem_of_getElem? hen))
  obtain ⟨p, hp, hok⟩ := he.get h4
  have hps : p = (kv, s) := by
    obtain ⟨i, hi⟩ := List.mem_iff_getElem?.1 hs
    have hpk : p.1 = kv := by rw [← hok.1, h5]
    have hij : i = j := by
      rcases Nat.lt_trichotomy i j with h | h | h
      · have := List.pairwise_iff_getElem.1 hM.dist i j (List.getElem?_eq_some_iff.1 hi).1 (List.getElem?_eq_some_iff.1 hp).1 h
        rw [(List.getElem?_eq_some_iff.1 hi).2, (List.getElem?_eq_some_iff.1 hp).2] at this
        exact absurd hpk.symm this
      · exact h
      · have := List.pairwise_iff_getElem.1 hM.dist j i (List.getElem?_eq_some_iff.1 hp).1 (List.getElem?_eq_some_iff.1 hi).1 h
        rw [(List.getElem?_eq_some_iff.1 hi).2, (List.getElem?_eq_some_iff.1 hp).2] at this
        exact absurd hpk this
    subst hij
    rw [hi] at hp
    exact (Option.some.inj hp).symm
  subst hps
  have hfind := MapKept.run_findKey (P := P) (w := w) hks h3
  refine ⟨.tuple #[en.val, .bool true], ?_, [en.val, .bool true], rfl, Den.noname (hM.names _ hs) hok.2, rfl, trivial⟩
  have hl : (Instr.lookup t (.map (some r)) kv true).run P w = .ok (.tuple #[en.val, .bool true]) w := by
    unfold Instr.lookup
    simp [run_underlying ht, hget, hck, hfind]
  simp only [execOp, ho, e3, ey]
  simp [hl]

/-- What it has not is not. -/
theorem does_lookN {o : Oper} {t k e q : Nat} {d : TypeDesc} {x y : Operand} {kv z : Value} {es : Ents} (s : SV) (ht : P.underlying t = some (.map k e)) (hks : P.underlying k = some d) (hz : (P.info? e).bind (·.zero) = some z) (ho : o.op = .lookup t x y true) (hx : ev env x = .mp q) (hy : keyV (ev env y) = some kv) (hq : ownq own q = some (.obj (mapS d es))) (hkv : IsKey d kv) (hn : ∀ p ∈ es, p.1 ≠ kv) (hs : ∀ g H, Den g H s z) :
    DoesV P o env own (.tup [s, .ff]) := by
  obtain ⟨i2, hi2, hz2⟩ := Option.bind_eq_some_iff.1 hz
  refine does_val fun cx g H n a w hd => ⟨.tuple #[z, .bool false], ?_, [z, .bool false], rfl, hs g H, rfl, trivial⟩
  obtain ⟨r, ob, e1, h1, h2, _⟩ := hd.ok q _ hq
  obtain ⟨l, c, rfl, he, hM⟩ := h2 H (Hp.le_refl H)
  have ex := hd.ev x
  rw [hx] at ex
  obtain ⟨r', e2, e3⟩ := ex
  rw [e1] at e2
  simp only [Value.map.injEq, Option.some.injEq] at e2
  subst e2
  have ey := keyV_den hy (hd.ev y)
  have hget := MapKept.run_getObj_map (P := P) h1
  have hck := MapKept.run_checkKey (P := P) (w := w) hks hkv l.isEmpty 9999
  rcases MapKept.findNow_spec hkv l.toList 0 (he.keys hM.keys) with ⟨h3, h4⟩ | ⟨j, en, h3, h4, h5⟩
  rotate_left
  · obtain ⟨p, hp, hok⟩ := he.get h4
    exact absurd (by rw [← hok.1, h5]) (hn p (List.mem_of_getElem? hp))
  have hfind := MapKept.run_findKey (P := P) (w := w) hks h3
  have hl : (Instr.lookup t (.map (some r)) kv true).run P w = .ok (.tuple #[z, .bool false]) w := by
    unfold Instr.lookup
    simp [run_underlying ht, hget, hck, hfind, run_zero' hi2 hz2]
  simp only [execOp, ho, e3, ey]
  simp [hl]
end

/-- An own object is written. -/
theorem Dn.writeObj {cx : Cx} {g : Nat → Value} {H : Hp} {env : List (Nat × SV)} {own : List (Nat × SO)} {n : Nat} {tmps : Array Value} {w : World} {k r : Nat} {f f' : Nat → Hp → Obj → Prop} {o' : Obj}
    (h : Dn cx g H env own n tmps w) (hk : ownq own k = some (.obj f)) (hb : g k = .map (some r)) (hn : ∀ H', H.le H' → f' r H' o') :
    Dn cx g H env (setOwn k (.obj f') own) n tmps (setBlock w r o') := by
  obtain ⟨r', ob, e0, h1, h2, hH0, hm0⟩ := h.ok k _ hk
  have hbb : r' = r := by rw [e0] at hb; simpa using hb
  subst hbb
  have hset := MapKept.heap_set (o' := o') h1
  have ho : ∀ i, i ≠ r' → (setBlock w r' o').heap[i]? = w.heap[i]? := fun i hi => hset.2 i hi
  have hs : ∀ j, (ownq (setOwn k (.obj f') own) j).isSome = (ownq own j).isSome := by
    intro j
    rw [ownq_setOwn]
    split
    · rename_i e; subst e; simp [hk]
    · rfl
  refine { size := h.size, den := h.den, ok := fun j o hj => ?_, inj := fun i j hi hj => h.inj i j (by rw [← hs i]; exact hi) (by rw [← hs j]; exact hj), hp := fun c o v hv => ?_, base := ?_ }
  · rw [ownq_setOwn] at hj
    by_cases hjk : j = k
    · subst hjk
      rw [if_pos rfl, hk] at hj
      simp only [Option.map_some, Option.some.injEq] at hj
      subst hj
      exact ⟨r', o', e0, hset.1, hn, hH0, hm0⟩
    · rw [if_neg hjk] at hj
      refine (h.ok j o hj).at fun c hc => ho c fun e => hjk ?_
      subst e
      exact h.inj j k (by rw [hj]; rfl) (by rw [hk]; rfl) c hc (by rw [e0]; rfl)
  · have hc : c ≠ r' := fun e => by subst e; rw [hH0] at hv; cases hv
    rw [World.cell?_same (w := w) (ho c hc)]
    exact h.hp c o v hv
  · refine { os := h.base.os, tape := h.base.tape, output := h.base.output, size := by show _ ≤ (w.heap.setIfInBounds r' o').size; rw [Array.size_setIfInBounds]; exact h.base.size, block := fun c hc hx => ?_, hold := h.base.hold, le := h.base.le, fix := h.base.fix, drawn := h.base.drawn }
    have hne : c ≠ r' := by
      intro e
      subst e
      rcases hm0 with h0 | h0
      · omega
      · exact hx h0
    rw [ho c hne]
    exact h.base.block c hc hx

section
variable {E : Stc} {all rest : List Oper} {o : Oper} {s : List Fr} {env : List (Nat × SV)} {own own2 : List (Nat × SO)} {nx : List Nat}

/-- A new entry. -/
theorem at_mput {t k e q : Nat} {d : TypeDesc} {x y v : Operand} {kv : Value} {es : Ents} (sv : SV) (ht : E.P.underlying t = some (.map k e)) (hks : E.P.underlying k = some d) (ho : o.op = .mapUpdate t x y v) (hdst : o.dst = none) (hx : ev env x = .mp q) (hy : keyV (ev env y) = some kv) (hv : ev env v = sv) (hlt : sv.lt 0 = true)
    (hq : ownq own q = some (.obj (mapS d es))) (hkv : IsKey d kv) (hn : ∀ p ∈ es, p.1 ≠ kv) (hso : setOwnK q (.obj (mapS d (es ++ [(kv, sv)]))) own some = some own2)
    (kk : Sat E (.ops all rest) s env own2 nx) (hg : guardK all o.guard env true false false = true := by rfl) : Sat E (.ops all (o :: rest)) s env own nx := by
  rw [setOwnK_eq] at hso
  simp only [Option.some.injEq] at hso
  subst hso
  intro a w hat0
  have hwant := wanted_of (E := E) (own := own) hg a w hat0
  unfold wpList
  rw [if_pos hwant]
  refine .inl ?_
  obtain ⟨hdf, g, H, hdn⟩ := hat0
  obtain ⟨r, ob, e1, h1, h2, h2b⟩ := hdn.ok q _ hq
  obtain ⟨l, c, rfl, he, hM⟩ := h2 H (Hp.le_refl H)
  have ex := hdn.ev x
  rw [hx] at ex
  obtain ⟨r', e2, e3⟩ := ex
  rw [e1] at e2
  simp only [Value.map.injEq, Option.some.injEq] at e2
  subst e2
  have ey := keyV_den hy (hdn.ev y)
  have ev' := hdn.ev v
  rw [hv] at ev'
  generalize hvv : a.eval v = vv at ev'
  have hget := MapKept.run_getObj_map (P := E.P) h1
  have hck := MapKept.run_checkKey (P := E.P) (w := w) hks hkv false 9999
  rcases MapKept.findNow_spec hkv l.toList 0 (he.keys hM.keys) with ⟨h3, h4⟩ | ⟨j, en, h3, h4, h5⟩
  rotate_left
  · obtain ⟨p, hp, hok⟩ := he.get h4
    exact absurd (by rw [← hok.1, h5]) (hn p (List.mem_of_getElem? hp))
  have hfind := MapKept.run_findKey (P := E.P) (w := w) hks h3
  have hset := MapKept.run_setObj_map (P := E.P) (.map (l.push { key := kv, val := vv, born := c }) (c + 1)) h1
  have hval : ∀ H', H.le H' → mapS d (es ++ [(kv, sv)]) r H' (.map (l.push { key := kv, val := vv, born := c }) (c + 1)) := by
    intro H' hH
    refine ⟨_, _, rfl, ?_, ?_⟩
    · rw [Array.toList_push]
      exact (he.mono hH).push ⟨rfl, Den.noname hlt (Den.mono hH _ _ ev')⟩
    · refine ⟨?_, ?_, ?_, ?_, ?_⟩
      · intro p hp
        rcases List.mem_append.1 hp with hp | hp
        · exact hM.keys p hp
        · rw [List.mem_singleton] at hp; subst hp; exact hkv
      · rw [List.pairwise_append]
        exact ⟨hM.dist, List.pairwise_singleton _ _, fun p hp q' hq' => by rw [List.mem_singleton] at hq'; subst hq'; exact hn p hp⟩
      · intro p hp
        rcases List.mem_append.1 hp with hp | hp
        · exact hM.names p hp
        · rw [List.mem_singleton] at hp; subst hp; exact hlt
      · intro x hx
        rw [Array.toList_push] at hx
        rcases List.mem_append.1 hx with hx | hx
        · have := hM.lt x hx; omega
        · rw [List.mem_singleton] at hx; subst hx; exact Nat.lt_succ_self _
      · rw [Array.toList_push, List.map_append, List.nodup_append]
        refine ⟨hM.nodup, by simp, ?_⟩
        intro x hx y' hy'
        obtain ⟨z, hz, rfl⟩ := List.mem_map.1 hx
        simp only [List.map_cons, List.map_nil, List.mem_singleton] at hy'
        have := hM.lt z hz
        omega
  have hd2 := hdn.writeObj hq e1 hval
  unfold Oper.wp
  have hrun : (execOp a.eval o).run E.P w = .ok .skip (setBlock w r (.map (l.push { key := kv, val := vv, born := c }) (c + 1))) := by
    have : (Instr.mapUpdate t (.map (some r)) kv vv).run E.P w = .ok () (setBlock w r (.map (l.push { key := kv, val := vv, born := c }) (c + 1))) := by
      unfold Instr.mapUpdate
      simp [run_underlying ht, hget, hck, hfind, hset, setBlock]
    simp only [execOp, ho, e3, ey]
    rw [hvv]
    simp [this]
  rw [hrun]
  show wpList E.P all.toArray (KK E s) rest (a.put o.dst undef) _
  rw [hdst]
  exact kk _ _ ⟨hdf, g, H, hd2⟩

/-- Going through a map begins. -/
theorem at_range {t k e q : Nat} {d : TypeDesc} {x : Operand} {es : Ents} (ki : Nat) (ht : E.P.underlying t = some (.map k e)) (ho : o.op = .range t x) (hx : ev env x = .mp q) (hq : ownq own q = some (.obj (mapS d es)))
    (kk : ∀ (rm ri c : Nat) (l : Array MapEntry), l.size = es.length → MapP d es l c → Sat E (.ops all rest) s (put o.dst (.val (.pointer (some ⟨ri, 0, none⟩))) env) ((ki, .obj (itP ri rm c #[])) :: setOwn q (.obj (mapP rm l c es)) own) nx)
    (hm : Nat.ble E.cx.m0 ki = true := by rfl) (hE : freshE ki env = true := by rfl) (hO : freshO ki (setOwn q (.obj (mapP 0 #[] 0 es)) own) = true := by rfl) (hq0 : Nat.beq q ki = false := by rfl)
    (hg : guardK all o.guard env true false false = true := by rfl) (hd : dstLt o.dst E.n = true := by rfl) : Sat E (.ops all (o :: rest)) s env own nx := by
  intro a w hat0
  have hwant := wanted_of (E := E) (own := own) hg a w hat0
  unfold wpList
  rw [if_pos hwant]
  refine .inl ?_
  obtain ⟨hdf, g, H, hdn⟩ := hat0
  obtain ⟨r, ob, e1, h1, h2, h2b⟩ := hdn.ok q _ hq
  obtain ⟨l, c, rfl, he, hM⟩ := h2 H (Hp.le_refl H)
  have ex := hdn.ev x
  rw [hx] at ex
  obtain ⟨r', e2, e3⟩ := ex
  rw [e1] at e2
  simp only [Value.map.injEq, Option.some.injEq] at e2
  subst e2
  have hrun : (execOp a.eval o).run E.P w = .ok (.value (.pointer (some ⟨w.heap.size, 0, none⟩))) (w.alloc (.mapIter (some r) c #[] c)) := by
    have := run_range_map (P := E.P) w t k e r l c ht h1
    simp only [execOp, ho, e3]
    simp [this]
  -- the map is told
  have hd1 : Dn E.cx g H env (setOwn q (.obj (mapP r l c es)) own) E.n a.tmps w := by
    refine { hdn with ok := fun j o' hj => ?_, inj := fun i j hi hj => hdn.inj i j ?_ ?_ }
    · rw [ownq_setOwn] at hj
      split at hj
      · rename_i e
        subst e
        rw [hq] at hj
        simp only [Option.map_some, Option.some.injEq] at hj
        subst hj
        exact ⟨r, _, e1, h1, fun H' hH => ⟨rfl, rfl, he.mono hH⟩, h2b⟩
      · exact hdn.ok j o' hj
    · rw [ownq_setOwn] at hi
      split at hi
      · rename_i e; subst e; rw [hq]; rfl
      · exact hi
    · rw [ownq_setOwn] at hj
      split at hj
      · rename_i e; subst e; rw [hq]; rfl
      · exact hj
  have hd2 := hd1.grown (w' := w.alloc (.mapIter (some r) c #[] c)) rfl rfl rfl (by simp) (fun b hb => heap_alloc_lt w _ hb)
  have hnew := hd1.new_ok (Nat.le_refl w.heap.size)
  have hfr : ∀ (f f' : Nat → Hp → Obj → Prop) (own : List (Nat × SO)), freshO ki (setOwn q (.obj f) own) = freshO ki (setOwn q (.obj f') own) := by
    intro f f' own
    induction own with
    | nil => rfl
    | cons y own ih =>
      obtain ⟨i, so⟩ := y
      simp only [setOwn]
      cases hb : Nat.beq i q with
      | true => simp only [cond_true, freshO]
      | false =>
        simp only [cond_false]
        cases so <;> simp only [freshO, ih]
  have hO' : freshO ki (setOwn q (.obj (mapP r l c es)) own) = true := by rw [hfr _ (mapP 0 #[] 0 es)]; exact hO
  have hd3 := hd2.bind (k := ki) (x := .map (some w.heap.size)) (so := .obj (itP w.heap.size r c #[])) (Nat.le_of_ble_eq_true hm) hE hO' ⟨w.heap.size, _, upd_same _ _ _, heap_alloc_new w _, fun _ _ => ⟨rfl, rfl⟩, fun j => Hp.on_new hdn.hp j, hnew.1⟩ (fun b hbx j o hj => by
    simp only [blkOf, Option.some.injEq] at hbx
    subst hbx
    exact hnew.2 j o hj)
  unfold Oper.wp
  rw [hrun]
  exact kk r w.heap.size c l (by have := he.len; simpa using this) hM _ _ (At.put hdf hd3 ⟨rfl, rfl⟩ fun d e => by rw [e] at hd; exact Nat.blt_eq.mp hd)

/-- The next entry, whichever it be. -/
theorem at_next {q ki ri rm c : Nat} {d : TypeDesc} {x : Operand} {es : Ents} {l : Array MapEntry} {seen : Array Nat} {own1 : MapEntry → List (Nat × SO)} (hM : MapP d es l c) (ho : o.op = .next x false) (hx : ev env x = .val (.pointer (some ⟨ri, 0, none⟩))) (hi : ownq own ki = some (.obj (itP ri rm c seen))) (hq : ownq own q = some (.obj (mapP rm l c es)))
    (hso : ∀ e : MapEntry, setOwnK ki (.obj (itP ri rm c (seen.push e.born))) own some = some (own1 e))
    (k0 : (leftOf l seen).size = 0 → Sat E (.ops all rest) s (put o.dst (.tup [.ff]) env) own nx)
    (k1 : ∀ e ∈ (leftOf l seen).toList, Sat E (.ops all rest) s (put o.dst (.tup [.tt, .any, .any]) env) (own1 e) nx)
    (hg : guardK all o.guard env true false false = true := by rfl) (hd : dstLt o.dst E.n = true := by rfl) : Sat E (.ops all (o :: rest)) s env own nx := by
  intro a w hat0
  have hwant := wanted_of (E := E) (own := own) hg a w hat0
  have hat1 := hat0
  unfold wpList
  rw [if_pos hwant]
  refine .inl ?_
  obtain ⟨hdf, g, H, hdn⟩ := hat0
  obtain ⟨r1, ob1, e1, h1, h2, h2b⟩ := hdn.ok q _ hq
  obtain ⟨rfl, rfl, he⟩ := h2 H (Hp.le_refl H)
  obtain ⟨r2, ob2, f1, g1, g2, g2b⟩ := hdn.ok ki _ hi
  obtain ⟨rfl, rfl⟩ := g2 H (Hp.le_refl H)
  have ex := hdn.ev x
  rw [hx] at ex
  have ex : a.eval x = .pointer (some ⟨r2, 0, none⟩) := ex.1
  have hstep := fun ty => run_next_at (P := E.P) w ty r2 r1 c c seen l c g1 h1 (fun x hx => hM.lt x hx) (Nat.le_refl _)
  unfold Oper.wp
  have hop : ∀ v w', (Instr.next (.pointer (some ⟨r2, 0, none⟩)) false o.type).run E.P w = .ok v w' → (execOp a.eval o).run E.P w = .ok (.value v) w' := by
    intro v w' h
    simp only [execOp, ho, ex]
    simp [h]
  rcases hstep o.type with ⟨h0, hr⟩ | ⟨en, hen, w1, hw1, hr⟩
  · rw [hop _ _ hr]
    exact k0 h0 _ _ (At.put hdf hdn (⟨[.bool false], rfl, rfl, trivial⟩ : Den g H (.tup [.ff]) (.tuple #[.bool false])) fun d e => by rw [e] at hd; exact Nat.blt_eq.mp hd)
  · rw [hop _ _ hr]
    have hs := hso en
    rw [setOwnK_eq] at hs
    simp only [Option.some.injEq] at hs
    have hd1 : Dn E.cx g H env own E.n a.tmps w1 := by
      rcases hw1 with rfl | rfl
      · exact hdn
      · exact hdn.grown (w' := w.drew) rfl rfl rfl (Nat.le_refl _) (fun _ _ => rfl) (Nat.le_succ _)
    have hd2 := hd1.writeObj (f' := itP r2 r1 c (seen.push en.born)) (o' := .mapIter (some r1) c (seen.push en.born) c) hi f1 fun H' _ => ⟨rfl, rfl⟩
    rw [hs] at hd2
    exact k1 en hen _ _ (At.put hdf hd2 (⟨[.bool true, en.key, en.val], rfl, rfl, trivial, trivial, trivial⟩ : Den g H (.tup [.tt, .any, .any]) (.tuple #[.bool true, en.key, en.val])) fun d e => by rw [e] at hd; exact Nat.blt_eq.mp hd)

def keyS : Value → SV
  | .string b => .str b
  | .int k n => .int k n
  | _ => .any
theorem keyS_den {g : Nat → Value} {H : Hp} (v : Value) : Den g H (keyS v) v := by
  cases v <;> first | rfl | trivial

/-- The entry that came. -/
theorem does_entry {P : Program} {q ki ri rm c i : Nat} {d : TypeDesc} {x : Operand} {es : Ents} {l : Array MapEntry} {seen : Array Nat} {e : MapEntry} {p : Value × SV} (hM : MapP d es l c) (ho : o.op = .entry x) (hx : ev env x = .val (.pointer (some ⟨ri, 0, none⟩))) (hi : ownq own ki = some (.obj (itP ri rm c (seen.push e.born)))) (hq : ownq own q = some (.obj (mapP rm l c es)))
    (he : l[i]? = some e) (hp : es[i]? = some p) : DoesV P o env own (.tup [keyS p.1, p.2]) := by
  refine does_val fun cx g H n a w hdn => ?_
  obtain ⟨r1, ob1, e1, h1, h2, h2b⟩ := hdn.ok q _ hq
  obtain ⟨rfl, rfl, hents⟩ := h2 H (Hp.le_refl H)
  obtain ⟨r2, ob2, f1, g1, g2, g2b⟩ := hdn.ok ki _ hi
  obtain ⟨rfl, rfl⟩ := g2 H (Hp.le_refl H)
  have ex := hdn.ev x
  rw [hx] at ex
  have ex : a.eval x = .pointer (some ⟨r2, 0, none⟩) := ex.1
  have hel : l.toList[i]? = some e := by rw [Array.getElem?_toList]; exact he
  obtain ⟨p', hp', hok⟩ := hents.get hel
  rw [hp] at hp'
  cases hp'
  have hr := run_entry_at (P := P) w r2 r1 c seen l c e g1 h1 (List.mem_of_getElem? hel) hM.nodup
  refine ⟨.tuple #[e.key, e.val], ?_, [e.key, e.val], rfl, ?_, Den.noname (hM.names p (List.mem_of_getElem? hp)) hok.2, trivial⟩
  · simp only [execOp, ho, ex]
    simp [hr]
  · rw [hok.1]
    exact keyS_den _
end
end Go.Eng
namespace Go.Proofs.Ytmnmhehddbemkaa
open Go Go.Eng

theorem parts_sub {t x : Tm} (h : x ∈ parts t) : x ∈ t.kids := by
  obtain ⟨k, n, s, l⟩ := t
  rw [parts] at h
  split at h
  · exact h
  · split at h
    · exact List.mem_of_mem_drop h
    · cases h
theorem may_part {t x : Tm} (h : mayF t = true) (hx : x ∈ parts t) : mayF x = true := by
  have := parts_sub hx
  obtain ⟨k, n, s, l⟩ := t
  exact may_kid h this
theorem sz_part {t x : Tm} (h : x ∈ parts t) : szT x < szT t := by
  have := sz_parts t
  have := szL_mem h
  omega

/-- Terms are put where they are not yet, with what comes out of them. -/
def putN : Nat → Tm → List Tm → List Tm
  | 0, _, O => O
  | n + 1, t, O => if amongF O t then O else (parts t).foldl (fun O u => putN n u O) (O ++ [t])
def putM (t : Tm) (O : List Tm) : List Tm := putN (szT t) t O
theorem foldl_congr' {α β : Type} {f g : β → α → β} : ∀ (l : List α) (b : β), (∀ x ∈ l, ∀ b, f b x = g b x) → l.foldl f b = l.foldl g b
  | [], _, _ => rfl
  | x :: l, b, h => by
    rw [List.foldl_cons, List.foldl_cons, h x (by simp), foldl_congr' l _ fun y hy => h y (by simp [hy])]
theorem putN_irr : ∀ (n m : Nat) (t : Tm) (O : List Tm), szT t ≤ n → szT t ≤ m → putN n t O = putN m t O
  | 0, _, t, O, h, _ => by have := szT_pos t; omega
  | _ + 1, 0, t, O, _, h => by have := szT_pos t; omega
  | n + 1, m + 1, t, O, h1, h2 => by
    rw [putN, putN]
    split
    · rfl
    · refine foldl_congr' _ _ fun u hu b => ?_
      have := sz_part hu
      exact putN_irr n m u b (by omega) (by omega)
theorem putM_eq (t : Tm) (O : List Tm) : putM t O = if amongF O t then O else (parts t).foldl (fun O u => putM u O) (O ++ [t]) := by
  have hp := szT_pos t
  obtain ⟨n, hn⟩ : ∃ n, szT t = n + 1 := ⟨szT t - 1, by omega⟩
  rw [putM, hn, putN]
  split
  · rfl
  · refine foldl_congr' _ _ fun u hu b => ?_
    have := sz_part hu
    exact putN_irr n _ u b (by omega) (Nat.le_refl _)

structure PutP (l : List Tm) (O R : List Tm) : Prop where
  sub : ∀ x ∈ O, x ∈ R
  has : ∀ t ∈ l, t ∈ R
  cl : ∀ x ∈ R, x ∉ O → ∀ p ∈ parts x, p ∈ R
  least : ∀ C : Tm → Prop, (∀ t ∈ l, C t) → (∀ x, C x → ∀ p ∈ parts x, C p) → ∀ x ∈ R, x ∈ O ∨ C x
  len : R.length ≤ O.length + szL l
theorem putL_P (hM : ∀ t O, PutP [t] O (putM t O)) : ∀ (l O : List Tm), PutP l O (l.foldl (fun O u => putM u O) O)
  | [], O => ⟨fun x h => h, by simp, fun x h h' => absurd h h', fun C _ _ x h => .inl h, by simp⟩
  | t :: l, O => by
    have h1 := hM t O
    have h2 := putL_P hM l (putM t O)
    rw [List.foldl_cons]
    refine ⟨fun x h => h2.sub x (h1.sub x h), fun x hx => ?_, fun x hx hn p hp => ?_, fun C c1 c2 x hx => ?_, ?_⟩
    · rcases List.mem_cons.1 hx with h | h
      · subst h; exact h2.sub x (h1.has x (by simp))
      · exact h2.has x h
    · by_cases hx2 : x ∈ putM t O
      · exact h2.sub p (h1.cl x hx2 hn p hp)
      · exact h2.cl x hx hx2 p hp
    · rcases h2.least C (fun y hy => c1 y (by simp [hy])) c2 x hx with h | h
      · exact h1.least C (fun y hy => by rw [List.mem_singleton] at hy; subst hy; exact c1 y (by simp)) c2 x h
      · exact .inr h
    · have e1 := h1.len
      have e2 := h2.len
      simp only [szL] at e1 ⊢
      omega
theorem putN_P : ∀ (n : Nat) (t : Tm) (O : List Tm), szT t ≤ n → PutP [t] O (putM t O)
  | 0, t, O, h => by have := szT_pos t; omega
  | n + 1, t, O, h => by
    rw [putM_eq]
    split
    · rename_i ha
      have ha := among_iff.1 ha
      exact ⟨fun x h => h, fun x hx => by rw [List.mem_singleton] at hx; subst hx; exact ha, fun x h h' => absurd h h', fun C _ _ x h => .inl h, by simp⟩
    · have hp := sz_parts t
      have key : ∀ (l O : List Tm), (∀ u ∈ l, szT u ≤ n) → PutP l O (l.foldl (fun O u => putM u O) O) := by
        intro l
        induction l with
        | nil => intro O _; exact ⟨fun x h => h, by simp, fun x h h' => absurd h h', fun C _ _ x h => .inl h, by simp⟩
        | cons t l ih =>
          intro O hl
          have h1 := putN_P n t O (hl t (by simp))
          have h2 := ih (putM t O) fun u hu => hl u (by simp [hu])
          rw [List.foldl_cons]
          refine ⟨fun x h => h2.sub x (h1.sub x h), fun x hx => ?_, fun x hx hn p hp => ?_, fun C c1 c2 x hx => ?_, ?_⟩
          · rcases List.mem_cons.1 hx with h | h
            · subst h; exact h2.sub x (h1.has x (by simp))
            · exact h2.has x h
          · by_cases hx2 : x ∈ putM t O
            · exact h2.sub p (h1.cl x hx2 hn p hp)
            · exact h2.cl x hx hx2 p hp
          · rcases h2.least C (fun y hy => c1 y (by simp [hy])) c2 x hx with h | h
            · exact h1.least C (fun y hy => by rw [List.mem_singleton] at hy; subst hy; exact c1 y (by simp)) c2 x h
            · exact .inr h
          · have e1 := h1.len
            have e2 := h2.len
            simp only [szL] at e1 ⊢
            omega
      have hK := key (parts t) (O ++ [t]) fun u hu => by have := sz_part hu; omega
      refine ⟨fun x hx => hK.sub x (by simp [hx]), fun x hx => ?_, fun x hx hn p hp' => ?_, fun C c1 c2 x hx => ?_, ?_⟩
      · rw [List.mem_singleton] at hx; subst hx; exact hK.sub x (by simp)
      · by_cases e : x = t
        · subst e; exact hK.has p hp'
        · exact hK.cl x hx (by simp [hn, e]) p hp'
      · have ct := c1 t (by simp)
        rcases hK.least C (fun y hy => c2 t ct y hy) c2 x hx with h | h
        · rcases List.mem_append.1 h with h | h
          · exact .inl h
          · rw [List.mem_singleton] at h; subst h; exact .inr ct
        · exact .inr h
      · have e1 := hK.len
        simp only [List.length_append, List.length_singleton, szL] at e1 ⊢
        omega
theorem putM_P (t : Tm) (O : List Tm) : PutP [t] O (putM t O) := putN_P _ t O (Nat.le_refl _)
theorem putM_may {t : Tm} {O : List Tm} (ht : mayF t = true) (hO : ∀ u ∈ O, mayF u = true) : ∀ u ∈ putM t O, mayF u = true := fun u hu =>
  ((putM_P t O).least (fun x => mayF x = true) (fun y hy => by rw [List.mem_singleton] at hy; subst hy; exact ht) (fun x hx p hp => may_part hx hp) u hu).elim (hO u) id

/-- What is open, by the map. -/
def openM (l : List Tm) : List Tm := l.foldl (fun O u => putM u O) []
theorem openM_P (l : List Tm) : PutP l [] (openM l) := putL_P putM_P l []
theorem openM_may {l : List Tm} (hl : ∀ u ∈ l, mayF u = true) : ∀ u ∈ openM l, mayF u = true := fun u hu =>
  ((openM_P l).least (fun x => mayF x = true) hl (fun x hx p hp => may_part hx hp) u hu).elim (by simp) id
theorem openM_mem {l : List Tm} (hg : ∀ t ∈ l, Gd t) (x : Tm) : x ∈ openM l ↔ x ∈ openF l := by
  have h1 := openM_P l
  have h2 := openF_P hg
  constructor
  · intro hx
    exact (h1.least (· ∈ openF l) h2.has (fun y hy p hp => h2.closed y hy p hp) x hx).elim (by simp) id
  · intro hx
    exact h2.least (· ∈ openM l) h1.has (fun y hy p hp => h1.cl y hy (by simp) p hp) x hx
theorem openG_ss : ∀ (n : Nat) (T L : List Tm), L.Pairwise (fun a b => ordT a b < 0) → (openG n T L).Pairwise (fun a b => ordT a b < 0)
  | 0, T, L, h => by cases T <;> exact h
  | n + 1, [], L, h => h
  | n + 1, t :: T, L, h => by
    have hA : (addF L t).Pairwise (fun a b => ordT a b < 0) := by rw [addF_insO]; exact insO_ss totT h
    rw [openG]
    split
    · exact openG_ss n _ _ hA
    · exact openG_ss n _ _ hA
theorem openF_ss (l : List Tm) : (openF l).Pairwise (fun a b => ordT a b < 0) := openG_ss _ _ _ .nil
theorem sort_open {l acc : List Tm} (hg : ∀ t ∈ l, Gd t) (h : ∀ x, x ∈ acc ↔ x ∈ openM l) : rsortF acc = openF l := by
  obtain ⟨h1, h2⟩ := rsort_ss acc
  exact ss_ext totT h1 (openF_ss l) fun x => by rw [h2, h, openM_mem hg]

/-- The entries of terms. -/
def entsT (O : List Tm) : Ents := O.map fun t => (.string (keyT t), t.sv)
theorem entsT_app (O : List Tm) (t : Tm) : entsT (O ++ [t]) = entsT O ++ [(.string (keyT t), t.sv)] := by simp [entsT]
theorem entsT_no {O : List Tm} {t : Tm} (hO : ∀ u ∈ O, mayF u = true) (ht : mayF t = true) (hn : amongF O t = false) : ∀ p ∈ entsT O, p.1 ≠ .string (keyT t) := by
  intro p hp e
  obtain ⟨u, hu, rfl⟩ := List.mem_map.1 hp
  have e : keyT u = keyT t := by simpa using e
  have := keyT_inj (may_allR (hO u hu)) (may_allR ht) e
  subst this
  rw [among_iff.2 hu] at hn
  cases hn
theorem entsT_yes {O : List Tm} {t : Tm} (h : amongF O t = true) : (Value.string (keyT t), t.sv) ∈ entsT O := List.mem_map.2 ⟨t, among_iff.1 h, rfl⟩
end Go.Proofs.Ytmnmhehddbemkaa
/- The proof engine: two names change places. -/
namespace Go.Eng

def swpN (a b : Nat) : Nat → Nat := fun k => bif Nat.beq k a then b else bif Nat.beq k b then a else k
theorem swpN_swpN (a b k : Nat) : swpN a b (swpN a b k) = k := by
  unfold swpN
  cases h1 : Nat.beq k a with
  | true =>
    have e := beq_true h1
    subst e
    simp only [cond_true]
    cases h2 : Nat.beq b k with
    | true => simpa using beq_true h2
    | false => simp
  | false =>
    simp only [cond_false]
    cases h2 : Nat.beq k b with
    | true =>
      have e := beq_true h2
      subst e
      simp only [cond_true]
      simp
    | false => simp [h1, h2]

mutual
theorem ren_ren {r : Nat → Nat} (hr : ∀ k, r (r k) = k) : ∀ s : SV, ren r (ren r s) = s
  | .int _ _ => rfl
  | .bl _ => rfl
  | .tt => rfl
  | .ff => rfl
  | .str _ => rfl
  | .val _ => rfl
  | .lst _ _ => rfl
  | .gl k _ _ => by simp only [ren, hr]
  | .tl _ _ => rfl
  | .arr k _ => by simp only [ren, hr]
  | .sl k _ _ _ => by simp only [ren, hr]
  | .mp k => by simp only [ren, hr]
  | .ptr k _ => by simp only [ren, hr]
  | .rp _ _ => rfl
  | .agg l => by simp only [ren, rens_rens hr l]
  | .tup l => by simp only [ren, rens_rens hr l]
  | .clo _ l => by simp only [ren, rens_rens hr l]
  | .any => rfl
theorem rens_rens {r : Nat → Nat} (hr : ∀ k, r (r k) = k) : ∀ l : List SV, rens r (rens r l) = l
  | [] => rfl
  | s :: l => by simp only [rens, ren_ren hr s, rens_rens hr l]
end

def renE (r : Nat → Nat) : List (Nat × SV) → List (Nat × SV)
  | [] => []
  | (t, s) :: l => (t, ren r s) :: renE r l
theorem nth_renE (r : Nat → Nat) : ∀ (env : List (Nat × SV)) (t : Nat), nth (renE r env) t = ren r (nth env t)
  | [], _ => rfl
  | (i, s) :: l, t => by
    simp only [renE, nth]
    cases Nat.beq i t with
    | true => rfl
    | false => exact nth_renE r l t

theorem ownq_mapO' {r : Nat → Nat} (hr : ∀ k, r (r k) = k) : ∀ (l : List (Nat × SO)) (j : Nat), ownq (mapO r l) j = (ownq l (r j)).map (renO r)
  | [], _ => rfl
  | (k, o) :: l, j => by
    simp only [mapO, ownq]
    have e : Nat.beq (r k) j = Nat.beq k (r j) := by
      cases h1 : Nat.beq (r k) j with
      | true =>
        have := beq_true h1
        subst this
        rw [hr]; simp
      | false =>
        cases h2 : Nat.beq k (r j) with
        | false => rfl
        | true =>
          have := beq_true h2
          subst this
          rw [hr] at h1
          simp at h1
    rw [e]
    cases Nat.beq k (r j) with
    | true => rfl
    | false => exact ownq_mapO' hr l j

theorem at_swap {E : Stc} {m : Md} {s : List Fr} {env : List (Nat × SV)} {own : List (Nat × SO)} {nx : List Nat} (a b : Nat) (kk : Sat E m s (renE (swpN a b) env) (mapO (swpN a b) own) nx) (ha : Nat.ble E.cx.m0 a = true := by rfl) (hb : Nat.ble E.cx.m0 b = true := by rfl) : Sat E m s env own nx := by
  refine sat_mono (fun ac w h => ?_) kk
  obtain ⟨hdf, g, H, hd⟩ := h
  have hr := swpN_swpN a b
  have ha := Nat.le_of_ble_eq_true ha
  have hb := Nat.le_of_ble_eq_true hb
  have den : ∀ s x, Den g H s x → Den (fun k => g (swpN a b k)) H (ren (swpN a b) s) x := fun s x h =>
    Den.unren (g := fun k => g (swpN a b k)) (g' := g) (r := swpN a b) (fun _ => rfl) (ren (swpN a b) s) x (by rw [ren_ren hr]; exact h)
  have dens : ∀ l xs, Dens g H l xs → Dens (fun k => g (swpN a b k)) H (rens (swpN a b) l) xs := fun l xs h =>
    Dens.unren (g := fun k => g (swpN a b k)) (g' := g) (r := swpN a b) (fun _ => rfl) (rens (swpN a b) l) xs (by rw [rens_rens hr]; exact h)
  have hfix : ∀ k, k < E.cx.m0 → swpN a b k = k := fun k hk => by
    unfold swpN
    have h1 : Nat.beq k a = false := by
      cases h : Nat.beq k a with
      | false => rfl
      | true => have := beq_true h; omega
    have h2 : Nat.beq k b = false := by
      cases h : Nat.beq k b with
      | false => rfl
      | true => have := beq_true h; omega
    simp [h1, h2]
  refine ⟨hdf, fun k => g (swpN a b k), H, { size := hd.size, den := fun t => by rw [nth_renE]; exact den _ _ (hd.den t), ok := fun k o hk => ?_, inj := fun i j hi hj c hci hcj => ?_, hp := hd.hp, base := { hd.base with fix := fun k hk => by show g (swpN a b k) = _; rw [hfix k hk]; exact hd.base.fix k hk } }⟩
  · rw [ownq_mapO' hr] at hk
    cases ho : ownq own (swpN a b k) with
    | none => rw [ho] at hk; cases hk
    | some so =>
      rw [ho] at hk
      simp only [Option.map_some, Option.some.injEq] at hk
      subst hk
      have := hd.ok _ _ ho
      cases so with
      | cells ty cs =>
        obtain ⟨b, vs, e, h1, h2⟩ := this
        exact ⟨b, vs, e, dens cs vs h1, h2⟩
      | tok sz => exact this
      | obj f => exact this
      | buf rw nn =>
        rcases this with ⟨ty, b, ws, e, h1, h2⟩ | h
        · exact .inl ⟨ty, b, ws, e, Dens.plain g _ H rw nn ws h1, h2⟩
        · exact .inr h
  · have key : ∀ i, (ownq (mapO (swpN a b) own) i).isSome = true → (ownq own (swpN a b i)).isSome = true := fun i hi => by
      rw [ownq_mapO' hr] at hi
      simpa using hi
    have e := hd.inj _ _ (key i hi) (key j hj) c hci hcj
    have := congrArg (swpN a b) e
    rw [hr, hr] at this
    exact this
end Go.Eng
namespace Go.Eng
open Go.Sort

theorem putRow_at {α : Type} [Inhabited α] (enc : α → Value) (w : World) (b ty : Nat) (v1 v2 : List Value) (d : Array α) (h : w.heap[b]? = some (.cells (v1 ++ v2).toArray ty (0, 0))) (hs : d.size = v1.length) :
    putRow enc w b 0 d = w.setRow b (d.toList.map enc ++ v2).toArray := by
  show mapBlock w b (putCells enc 0 d) = mapBlock w b (fun _ => (d.toList.map enc ++ v2).toArray)
  refine mapBlock_congr w b _ _ fun c e fr hc => ?_
  rw [h] at hc
  cases hc
  unfold putCells
  apply Array.ext
  · simp [hs]
  · intro i h1 h2
    simp only [Array.size_mapIdx, List.size_toArray, List.length_append] at h1
    simp only [Array.getElem_mapIdx, List.getElem_toArray]
    by_cases hi : i < d.size
    · rw [if_pos ⟨Nat.zero_le _, by omega⟩, List.getElem_append_left (by simpa using hi), List.getElem_map, Nat.sub_zero, getElem!_pos d i hi]
      rfl
    · rw [if_neg (by omega), List.getElem_append_right (by omega), List.getElem_append_right (by simpa using hi)]
      simp only [List.length_map, Array.length_toList, hs]

theorem holds_at {α : Type} [Inhabited α] (enc : α → Value) (w : World) (b ty : Nat) (v2 : List Value) (d : Array α) (h : w.heap[b]? = some (.cells (d.toList.map enc ++ v2).toArray ty (0, 0))) : Holds enc w b 0 d := by
  intro j hj
  refine ⟨?_, by simp [World.frozen?, h]⟩
  rw [Nat.zero_add, ok_cell h, List.getElem?_append_left (by simpa using hj), List.getElem?_map, Array.getElem?_toList, Array.getElem?_eq_getElem hj, getElem!_pos d j hj]
  rfl

theorem flatten_get {β : Type} {k : Nat} : ∀ (L : List (List β)), (∀ x ∈ L, x.length = k) → ∀ i j, j < k → L.flatten[i * k + j]? = (L[i]?).bind (·[j]?)
  | [], _, i, j, _ => by simp
  | x :: L, h, 0, j, hj => by
    have := h x (by simp)
    simp only [List.flatten_cons, Nat.zero_mul, Nat.zero_add, List.getElem?_cons_zero, Option.bind_some]
    rw [List.getElem?_append_left (by omega)]
  | x :: L, h, i + 1, j, hj => by
    have h1 := h x (by simp)
    have ih := flatten_get L (fun y hy => h y (by simp [hy])) i j hj
    simp only [List.flatten_cons, List.getElem?_cons_succ]
    rw [← ih, List.getElem?_append_right (by rw [h1, Nat.add_mul]; omega), h1]
    congr 1
    rw [Nat.add_mul]
    omega
theorem flatK_eq {α : Type} [Inhabited α] (enc : α → List Value) (k : Nat) (hk : ∀ x, (enc x).length = k) (es : List α) : (flatK enc k es.toArray).toList = (es.map enc).flatten := by
  have hlen : (es.map enc).flatten.length = es.length * k := by
    induction es with
    | nil => simp
    | cons x l ih => simp only [List.map_cons, List.flatten_cons, List.length_append, hk, ih, List.length_cons, Nat.add_mul]; omega
  apply List.ext_getElem?
  intro t
  by_cases ht : t < es.length * k
  · have k0 : 0 < k := by
      rcases Nat.eq_zero_or_pos k with h | h
      · subst h; simp at ht
      · exact h
    have hi : t / k < es.length := (Nat.div_lt_iff_lt_mul k0).2 ht
    have hj : t % k < k := Nat.mod_lt _ k0
    have e : t / k * k + t % k = t := Nat.div_add_mod' t k
    have h1 := flatten_get (es.map enc) (fun x hx => by obtain ⟨y, _, rfl⟩ := List.mem_map.1 hx; exact hk y) (t / k) (t % k) hj
    rw [e] at h1
    rw [h1, List.getElem?_map, List.getElem?_eq_getElem hi]
    have h2 : t < (flatK enc k es.toArray).size := by simpa using ht
    rw [Array.getElem?_toList, Array.getElem?_eq_getElem h2]
    have h3 := get_flatK enc k es.toArray t (by simpa using ht)
    rw [getElem!_pos _ t h2] at h3
    rw [h3, getElem!_pos es.toArray (t / k) (by simpa using hi), getElem!_pos _ _ (by rw [hk]; exact hj)]
    simp [hk, hj]
  · rw [List.getElem?_eq_none (by simpa using Nat.not_lt.1 ht), List.getElem?_eq_none (by omega)]

/-- A world that differs by what was drawn and what was laid. -/
theorem world_grow {w w' : World} (hos : w'.os = w.os) (ht : w'.tape = w.tape) (ho : w'.output = w.output) (hd : w.drawn ≤ w'.drawn) (hz : w.heap.size ≤ w'.heap.size) (hb : ∀ b, b < w.heap.size → w'.heap[b]? = w.heap[b]?) :
    ∃ q os', w' = grow (w.drewN q) os' := by
  refine ⟨w'.drawn - w.drawn, w'.heap.extract w.heap.size w'.heap.size, ?_⟩
  obtain ⟨h', t', d', o', p'⟩ := w'
  obtain ⟨h, t, d, o, p⟩ := w
  simp only at hos ht ho hd hz hb
  subst hos; subst ht; subst ho
  simp only [grow, World.drewN, World.mk.injEq, and_true, true_and]
  refine ⟨?_, by omega⟩
  apply Array.ext_getElem?
  intro i
  by_cases hi : i < h.size
  · rw [Array.getElem?_append_left hi]
    exact hb i hi
  · rw [Array.getElem?_append_right (by omega), Array.getElem?_extract]
    by_cases hi2 : i < h'.size
    · rw [if_pos (by omega)]
      congr 1
      omega
    · rw [if_neg (by omega), Array.getElem?_eq_none (by omega)]
end Go.Eng

namespace Go.Proofs.Ytmnmhehddbemkaa
open Go Go.Eng Go.Shelf Go.RowKit Go.Lib Go.Sort
set_option maxRecDepth 100000
shelf_lay_g SlLaysF0.n6 Slsf 6 at Try 81 as Try.sortTm

/-- Elements: terms, as they stand in memory. -/
structure SE (H : Hp) where
  t : Tm
  vs : List Value
  sm : Sm t
  den : DenDs H (tr t) vs
abbrev zE : Tm := .mk 0 0 .empty []
theorem z0_den (H : Hp) : DenDs H (tr zE) [.int .i64 0, .int .i64 0, .string .empty, .slice none 0 0] := by
  refine ⟨rfl, rfl, rfl, ?_, trivial⟩
  show DenD H (.lst 4 (rowsT [])) _
  rw [rowsT_nil]
  exact ⟨none, 0, rfl, Nat.le_refl _, fun _ => ⟨rfl, rfl⟩, fun p hp => by cases hp⟩
instance (H : Hp) : Inhabited (SE H) := ⟨⟨zE, [.int .i64 0, .int .i64 0, .string .empty, .slice none 0 0], .mk (by simp) (by simp), z0_den H⟩⟩
def encE {H : Hp} (x : SE H) : List Value := x.vs
def cfE {H : Hp} (x y : SE H) : Int := ordT x.t y.t
theorem encE_len {H : Hp} (x : SE H) : (encE x).length = 4 := by
  obtain ⟨t, vs, h1, h2⟩ := x
  match vs, h2 with
  | [_, _, _, _], _ => rfl
  | [], h => exact h.elim
  | [_], h => exact h.2.elim
  | [_, _], h => exact h.2.2.elim
  | [_, _, _], h => exact h.2.2.2.elim
  | _ :: _ :: _ :: _ :: _ :: _, h => exact h.2.2.2.2.elim
theorem encE_one {H : Hp} (x : SE H) : ∀ v ∈ encE x, v.oneCell' = true := x.den.one
theorem swoE (H : Hp) : SWO (ltOf (cfE (H := H))) where
  irrefl x := by unfold ltOf cfE; rw [ord_irr]; rfl
  trans x y z h1 h2 := by
    unfold ltOf cfE at *
    simp only [decide_eq_true_eq] at *
    exact ord_trans h1 h2
  ntrans x y z h1 h2 := by
    unfold ltOf cfE at *
    simp only [decide_eq_false_iff_not] at *
    have e1 := ord_anti x.t y.t
    have e2 := ord_anti y.t z.t
    have e3 := ord_anti x.t z.t
    have := (tr_ord z.t y.t x.t (by omega) (by omega)).1
    omega

theorem elems {H : Hp} : ∀ (l : List Tm) (vs : List Value), (∀ t ∈ l, Sm t) → DenF H 4 (rowsT l) vs → ∃ es : List (SE H), es.map (·.t) = l ∧ (es.map encE).flatten = vs
  | [], vs, _, h => by rw [rowsT_nil] at h; exact ⟨[], rfl, (show vs = [] from h).symm⟩
  | t :: l, vs, hs, h => by
    rw [rowsT_cons] at h
    obtain ⟨v1, v2, rfl, h1, h2, h3⟩ := h
    obtain ⟨es, e1, e2⟩ := elems l v2 (fun x hx => hs x (by simp [hx])) h3
    exact ⟨⟨t, v1, hs t (by simp), h1⟩ :: es, by simp [e1], by simp [e2, encE]⟩
theorem elems_den {H : Hp} : ∀ (es : List (SE H)), DenF H 4 (rowsT (es.map (·.t))) (es.map encE).flatten
  | [] => by rw [List.map_nil, rowsT_nil]; rfl
  | x :: es => by
    rw [List.map_cons, rowsT_cons, List.map_cons, List.flatten_cons]
    exact ⟨_, _, rfl, x.den, encE_len x, elems_den es⟩

theorem cmpLaysE {H : Hp} {w : World} {b n : Nat} (hH : H.on w) (hb : ∀ o, H b o = none) : CmpLays Try.prog 77 #[] (encE (H := H)) 4 cfE b 0 n w := by
  intro m os dk hdk x y
  have hW : H.on (sortWorldK encE 4 w b 0 m dk os) := by
    intro b' o v hv
    have hne : b' ≠ b := fun e => by rw [e, hb] at hv; cases hv
    have hlt := Hp.on_lt hH hv
    rw [World.cell?_same (w := w)]
    · exact hH b' o v hv
    · show (grow (putRowK encE 4 (Sort.ahead w m) b 0 dk) os).heap[b']? = _
      have e1 : (putRowK encE 4 (Sort.ahead w m) b 0 dk).heap[b']? = w.heap[b']? := by
        show ((Sort.ahead w m).heap.modify b _)[b']? = _
        rw [Array.getElem?_modify, if_neg (Ne.symm hne)]
        rfl
      have e2 : (putRowK encE 4 (Sort.ahead w m) b 0 dk).heap.size = w.heap.size := by
        show ((Sort.ahead w m).heap.modify b _).size = _
        rw [Array.size_modify]
        rfl
      show ((putRowK encE 4 (Sort.ahead w m) b 0 dk).heap ++ os)[b']? = _
      rw [Array.getElem?_append_left (by rw [e2]; exact hlt), e1]
  have hc := tcmp_fn x.t y.t x.sm
  have hd : Dens (fun _ => undef) H [x.t.sv, y.t.sv] [.agg (encE x).toArray, .agg (encE y).toArray] := ⟨⟨_, rfl, ups_den x.den⟩, ⟨_, rfl, ups_den y.den⟩, trivial⟩
  refine (hc.2 (fun _ => undef) H _ _ hW (fun k o hk => by simp [ownq] at hk) (fun i j hi => by simp [ownq] at hi) hd).mono fun e w' he => ?_
  cases e with
  | returned v =>
    obtain ⟨g', H', sv, own, ⟨rfl, _, rfl⟩, hv, _, _, _, hbase⟩ := he
    have e : v = .int .i64 (cfE x y) := hv
    subst e
    refine ⟨rfl, world_grow hbase.os hbase.tape hbase.output hbase.drawn hbase.size fun c hc => hbase.block c hc ?_⟩
    rintro ⟨k, hk, _⟩
    simp [ownq] at hk
  | _ => exact he.elim

theorem perm_full {α : Type} [Inhabited α] {d d' : Array α} (h : PermIn 0 d.size d d') : d'.toList.Perm d.toList := by
  have h1 := h.2.2
  have e1 : d'.extract 0 d.size = d' := by rw [← h.1]; simp
  rw [e1] at h1
  simpa using h1

/-- Nothing that stands behind is less. -/
def Srt (l : List Tm) : Prop := l.Pairwise fun a b => ¬ ordT b a < 0

variable {E : Stc} {all rest : List Oper} {o : Oper} {s : List Fr} {env : List (Nat × SV)} {own : List (Nat × SO)} {nx : List Nat}

/-- Terms are sorted in place. -/
theorem at_sortT (k : Nat) {l : List Tm} (hP : E.P = Try.prog) (hc : callK o.op env (fun f l => some (f, l)) none = some (81, [.arr k l.length, .clo 77 []])) (hk : ownq own k = some (.buf (rowsT l) 0)) (hsm : ∀ t ∈ l, Sm t) (hl : l.length ≤ 1000000)
    (kk : ∀ l' : List Tm, l'.Perm l → Srt l' → Sat E (.ops all rest) s (put o.dst (.tup []) env) (setOwn k (.buf (rowsT l') 0) own) nx)
    (hg : guardK all o.guard env true false false = true := by rfl) (hd : dstLt o.dst E.n = true := by rfl) : Sat E (.ops all (o :: rest)) s env own nx := by
  intro a w hat0
  have hwant := wanted_of (E := E) (own := own) hg a w hat0
  unfold wpList
  rw [if_pos hwant]
  refine .inl ?_
  obtain ⟨hdf, g, H, hdn⟩ := hat0
  have hE : Enter E.P 81 := by rw [hP]; exact enter_of Try.func81 rfl (by decide)
  obtain ⟨vs0, hv0, hr⟩ := run_call (P := E.P) hdn hE hc
  obtain ⟨x, f, rfl, hx, hf⟩ : ∃ x f, vs0 = [x, f] ∧ Den g H (.arr k l.length) x ∧ Den g H (.clo 77 []) f := by
    match vs0, hv0 with
    | [x, f], h => exact ⟨x, f, rfl, h.1, h.2.1⟩
    | [], h => exact h.elim
    | [_], h => exact h.2.elim
    | _ :: _ :: _ :: _, h => exact h.2.2.elim
  obtain ⟨b0, hg0, rfl⟩ := hx
  obtain ⟨cs, rfl, hcs⟩ := hf
  obtain rfl : cs = [] := by
    cases cs with
    | nil => rfl
    | cons _ _ => exact hcs.elim
  rcases hdn.ok k _ hk with ⟨ty, b, vs, hgk, hv, hone, hw, hH, hm⟩ | ⟨hgk, _⟩
  rotate_left
  · rw [hgk] at hg0; cases hg0
  have hbb : b0 = b := by rw [hgk] at hg0; simpa using hg0.symm
  subst hbb
  have hv' : Dens g H (flatU (rowsT l)) vs := by have := hv; rw [bufC] at this; simpa [anys] using this
  have hF := DenF.of_flatU rowsT_sz hv'
  obtain ⟨es, e1, e2⟩ := elems l vs hsm hF
  have hlen : es.toArray.size = l.length := by rw [← e1]; simp
  have hwf : w.heap[b0]? = some (.cells (((flatK encE 4 es.toArray).toList.map id) ++ []).toArray ty (0, 0)) := by
    rw [List.map_id, List.append_nil, flatK_eq encE 4 encE_len, e2]
    exact hw
  have hHK : HoldsK encE 4 w b0 0 es.toArray := holds_at id w b0 ty [] _ hwf
  have hcon := AnyQ.slices_SortFunc Try.sortTm 4 (Try.isAgg33) (Try.sizeOf33) encE encE_len encE_one cfE (swoE H) 77 #[] b0 0 l.length es.toArray w
    (enter_of Try.func77 rfl (by decide)) (cmpLaysE hdn.hp hH) hHK (heap_lt hw) (by rw [hlen]; omega)
  have hcon2 : Calls Try.prog 81 #[.slice (some ⟨b0, 0, none⟩) l.length l.length, .func (.func 77) #[] #[]] w fun e w' => e = .returned (.tuple #[]) ∧ ∃ d' n os, PermIn 0 es.toArray.size es.toArray d' ∧ SortedIn (ltOf cfE) 0 es.toArray.size d' ∧ w' = sortWorldK encE 4 w b0 0 n d' os := by
    rw [← hlen] at hcon ⊢
    exact hcon
  unfold Oper.wp
  rw [hr]
  show Calls E.P 81 #[.slice (some ⟨b0, 0, none⟩) l.length l.length, .func (.func 77) #[] #[]] w _
  have hcon3 : Calls E.P 81 #[.slice (some ⟨b0, 0, none⟩) l.length l.length, .func (.func 77) #[] #[]] w fun e w' => e = .returned (.tuple #[]) ∧ ∃ d' n os, PermIn 0 es.toArray.size es.toArray d' ∧ SortedIn (ltOf cfE) 0 es.toArray.size d' ∧ w' = sortWorldK encE 4 w b0 0 n d' os := by rw [hP]; exact hcon2
  refine hcon3.mono ?_
  rintro e w' ⟨rfl, d', n, os, hp, hs, rfl⟩
  have hperm := perm_full hp
  have hp2 : (d'.toList.map (·.t)).Perm l := by rw [← e1]; exact hperm.map _
  refine kk (d'.toList.map (·.t)) hp2 ?_ _ _ ?_
  · unfold Srt
    rw [List.pairwise_map, List.pairwise_iff_getElem]
    intro i j hi hj hij
    simp only [Array.length_toList] at hi hj
    have h2 := hs i j (Nat.zero_le _) hij (by rw [← hp.1]; exact hj)
    rw [getElem!_pos d' j hj, getElem!_pos d' i hi] at h2
    unfold ltOf cfE at h2
    simpa using h2
  · -- the world behind
    have hd1 : Dn E.cx g H env own E.n a.tmps (Sort.ahead w n) := hdn.grown (w' := Sort.ahead w n) rfl rfl rfl (Nat.le_refl _) (fun _ _ => rfl) (Nat.le_add_right _ _)
    obtain ⟨ty', hd2⟩ := hd1.openB hk hgk
    have hk' : ownq (setOwn k (.cells ty' (bufC (rowsT l) 0)) own) k = some (.cells ty' (bufC (rowsT l) 0)) := by rw [ownq_setOwn, if_pos rfl, hk]; rfl
    have hl2 : (flatK encE 4 d').toList = (d'.toList.map encE).flatten := by
      have := flatK_eq encE 4 encE_len d'.toList
      simpa using this
    have hden : Dens g H (bufC (rowsT (d'.toList.map (·.t))) 0) (flatK encE 4 d').toList := by
      rw [hl2, bufC]
      have := (elems_den d'.toList).toFlat (g := g)
      simpa [anys] using this
    have hone2 : ∀ v ∈ (flatK encE 4 d').toList, v.oneCell' = true := by
      rw [hl2]
      intro v hv
      obtain ⟨q, hq, hvq⟩ := List.mem_flatten.1 hv
      obtain ⟨y, _, rfl⟩ := List.mem_map.1 hq
      exact encE_one y v hvq
    have hd3 := hd2.write (new := bufC (rowsT (d'.toList.map (·.t))) 0) hk' hgk hden hone2
    have hd4 := hd3.closeB (k := k) (ty := ty') (rw' := rowsT (d'.toList.map (·.t))) (nn := 0) (by rw [ownq_setOwn, if_pos rfl, hk']; rfl)
    rw [setOwn_setOwn, setOwn_setOwn] at hd4
    have hput : putRowK encE 4 (Sort.ahead w n) b0 0 d' = (Sort.ahead w n).setRow b0 (flatK encE 4 d').toList.toArray := by
      have := putRow_at id (Sort.ahead w n) b0 ty (flatK encE 4 es.toArray).toList [] (flatK encE 4 d') (by
        have := hwf
        rw [List.map_id] at this
        exact this) (by rw [Array.length_toList, size_flatK, size_flatK, hp.1])
      rw [List.map_id, List.append_nil] at this
      exact this
    have hd5 : Dn E.cx g H env (setOwn k (.buf (rowsT (d'.toList.map (·.t))) 0) own) E.n a.tmps (sortWorldK encE 4 w b0 0 n d' os) := by
      unfold sortWorldK
      rw [hput]
      exact hd4.grown (w' := grow ((Sort.ahead w n).setRow b0 (flatK encE 4 d').toList.toArray) os) rfl rfl rfl (by show _ ≤ (_ ++ os).size; rw [Array.size_append]; omega) (fun c hc => by
        show (_ ++ os)[c]? = _
        rw [Array.getElem?_append_left hc]) (Nat.le_refl _)
    exact At.put hdf hd5 (⟨[], rfl, trivial⟩ : Den g H (.tup []) (.tuple #[])) fun d e => by rw [e] at hd; exact Nat.blt_eq.mp hd
end Go.Proofs.Ytmnmhehddbemkaa
namespace Go.Eng
variable {E : Stc} {s : List Fr} {env : List (Nat × SV)} {own own2 : List (Nat × SO)} {nx : List Nat}
/-- Cells that are known are a buffer. -/
theorem at_closeB {m : Md} (k : Nat) {ty r : Nat} {rows : List (List DV)} (hk : ownq own k = some (.cells ty (bufC rows r))) (hso : setOwnK k (.buf rows r) own some = some own2) (kk : Sat E m s env own2 nx) : Sat E m s env own nx := by
  rw [setOwnK_eq] at hso
  simp only [Option.some.injEq] at hso
  subst hso
  refine sat_mono (fun a w hat => ?_) kk
  obtain ⟨hdf, g, H, hdn⟩ := hat
  exact ⟨hdf, g, H, hdn.closeB hk⟩
end Go.Eng
namespace Go.Proofs.Ytmnmhehddbemkaa
open Go Go.Eng
set_option maxRecDepth 100000

theorem ownB_fn (l : List Tm) (hl : l.length ≤ 1000000) (h : ∀ t ∈ l, Sm t) : Contract Try.prog 80 0 [] [.lst 4 (rowsT l)] fun s post => s = .arr 0 l.length ∧ post = [(0, .buf (rowsT l) 0)] := by
  have hlen : (rowsT l).length = l.length := rowsT_len l
  refine contract_of ty_ok [1, 2, 3, 4, 6, 7, 8] Try.func80 rfl (by decide) Try.ntmps80 rfl fun z => ?_
  refine run 400 rfl ?_
  refine at_make 0 4 ty_ok rfl rfl rfl (by omega) (show ((56 : Nat) : Int) * ((rowsT l).length : Int) ≤ 281474976710656 by omega) (by omega) ?_
  refine run 400 rfl ?_
  refine at_loop (fun i : Nat => i ≤ l.length) (fun i => [(3, .arr 0 (rowsT l).length), (9, .lst 4 (rowsT l)), (10, I (rowsT l).length), (11, I i)]) (fun i => [(0, .cells 33 (half l i))]) (fun i => l.length - i) [1, 2, 3, 4, 6, 7, 8]
    0 (by omega) ⟨SVle.refl _, SVle.refl _, SVle.refl _, SVle.refl _, trivial⟩ ⟨?_, trivial⟩ ?_
  · show some (SO.cells 33 (List.replicate (((rowsT l).length : Int).toNat * 4) .any)) = some (SO.cells 33 (half l 0))
    unfold half
    rw [List.take_zero, rowsT_nil, hlen]
    rfl
  intro i hi
  refine run 400 rfl ?_
  refine at_ifd rfl (fun g => ?_) (fun g => ?_)
  rotate_left
  · have e : i = l.length := by omega
    subst e
    refine run 400 rfl ?_
    refine at_closeB 0 (ty := 33) (r := 0) (rows := rowsT l) (by show some (SO.cells 33 (half l l.length)) = _; unfold half bufC; rw [List.take_length, Nat.sub_self, Nat.zero_mul, List.replicate_zero]; rfl) rfl ?_
    exact at_ret rfl rfl [(0, .buf (rowsT l) 0)] ⟨by rw [← hlen], rfl⟩ ⟨rfl, trivial⟩
  have hlt : i < l.length := by omega
  have hget := rowsT_get hlt
  have hmem := getD_mem hlt
  have hgetD : l[i]? = some (l.getD i .zero) := by rw [List.getD_eq_getElem?_getD, List.getElem?_eq_getElem hlt]; rfl
  generalize l.getD i .zero = u at hget hmem hgetD
  refine run 400 rfl ?_
  refine at_val (.rp (tr u) 0) (does_index ty_ok _ rfl rfl rfl (by omega) (show (rowsT l)[(i : Int).toNat]? = some (tr u) from hget) rfl) ?_
  refine run 1 rfl ?_
  refine at_alloc ty_ok 1 _ rfl rfl (by simp only [freshO, noKs_half]; rfl) ?_
  refine run 400 rfl ?_
  refine at_fn (own_fn u (h u hmem)) rfl ?_
  refine run 400 rfl ?_
  refine at_val (.ptr 0 ((i : Int).toNat * 4)) (does_indexArr ty_ok rfl rfl rfl ⟨by omega, by rw [hlen]; omega⟩ rfl) ?_
  refine at_store ty_ok (half l (i + 1)) rfl rfl rfl rfl rfl rfl (by unfold half; rw [List.length_append, flat_len, List.length_replicate, List.length_take]; show i * 4 + 4 ≤ _; omega) (half_step hgetD) rfl ?_
  refine run 400 rfl ?_
  exact at_again (i + 1) (by omega) (by omega) ⟨SVle.refl _, SVle.refl _, SVle.refl _, SVle.of_eq (by show I ((i : Int) + 1) = I ((i + 1 : Nat) : Int); rw [Int.natCast_add]; rfl), trivial⟩ ⟨rfl, trivial⟩

theorem clipT_fn (l : List Tm) (n c r : Nat) (hn : n ≤ c) : Contract Try.prog 82 1 (slO l r) [.sl 0 0 n c] fun s post => s = .sl 0 0 n n ∧ post = slO l r := by
  refine contract_of ty_ok [1, 2, 3, 4, 5, 6, 7] Try.func82 rfl (by decide) Try.ntmps82 rfl fun z => ?_
  refine run 400 rfl ?_
  refine at_val (.sl 0 0 (n : Int).toNat (n : Int).toNat) (does_sliceS_hm (sz := 4) ty_ok rfl rfl rfl rfl (by omega) rfl) ?_
  refine run 400 rfl ?_
  exact at_ret rfl rfl (slO l r) ⟨rfl, rfl⟩ ⟨rfl, trivial⟩

theorem sortT_fn (l : List Tm) (hl : l.length ≤ 1000000) (h : ∀ t ∈ l, Sm t) : GivesP Try.prog 50 [.lst 4 (rowsT l)] fun s => ∃ l' : List Tm, l'.Perm l ∧ Srt l' ∧ s = .tl 4 (rowsT (cmpF same l')) := by
  refine contract_of ty_ok [1, 2, 3, 4, 5, 6, 7] Try.func50 rfl (by decide) Try.ntmps50 rfl fun z => ?_
  refine run 400 rfl ?_
  refine at_callF [0] (ownB_fn l hl h) rfl trivial rfl rfl rfl ?_
  refine run 400 rfl ?_
  refine at_sortT 0 rfl rfl rfl h hl fun l' hp hs => ?_
  have e := hp.length_eq
  rw [← e]
  refine run 400 rfl ?_
  refine at_less [(8, .sl 0 0 l'.length l'.length)] (slO l' 0) [1, 2, 3, 4, 5, 6, 7] ⟨SVle.arr _ _, trivial⟩ ⟨rfl, trivial⟩ ?_
  refine at_callF [0] (cmpact_fn l' l'.length 0 (by omega) (Nat.le_refl _) fun t ht => h t (hp.mem_iff.1 ht)) rfl ⟨rfl, trivial⟩ rfl rfl rfl ?_
  refine run 400 rfl ?_
  refine at_callF [0] (clipT_fn _ _ _ _ (cmp_len _ _)) rfl ⟨rfl, trivial⟩ rfl rfl rfl ?_
  refine run 400 rfl ?_
  refine at_pubT 2 0 4 (rowsT (cmpF same l')) [] rfl rfl (List.append_nil _).symm (rowsT_len _).symm (fun r hr => rowsT_sz r hr) rfl ?_
  exact at_ret rfl rfl [] ⟨⟨l', hp, hs, rfl⟩, rfl, rfl⟩ trivial
end Go.Proofs.Ytmnmhehddbemkaa
/- The proof engine: an own block gets another name. -/
namespace Go.Eng

theorem at_ren {E : Stc} {m : Md} {s : List Fr} {env : List (Nat × SV)} {own : List (Nat × SO)} {nx : List Nat} (a b : Nat) (kk : Sat E m s (renE (swpN a b) env) (mapO (swpN a b) own) nx) (hb : Nat.ble E.cx.m0 b = true := by rfl)
    (hE : freshE a (renE (swpN a b) env) = true := by rfl) (hO : freshO a (mapO (swpN a b) own) = true := by rfl) : Sat E m s env own nx := by
  refine sat_mono (fun ac w h => ?_) kk
  obtain ⟨hdf, g, H, hd⟩ := h
  have hr := swpN_swpN a b
  have hb := Nat.le_of_ble_eq_true hb
  have den0 : ∀ s x, Den g H s x → Den (fun k => g (swpN a b k)) H (ren (swpN a b) s) x := fun s x h =>
    Den.unren (g := fun k => g (swpN a b k)) (g' := g) (r := swpN a b) (fun _ => rfl) (ren (swpN a b) s) x (by rw [ren_ren hr]; exact h)
  have dens0 : ∀ l xs, Dens g H l xs → Dens (fun k => g (swpN a b k)) H (rens (swpN a b) l) xs := fun l xs h =>
    Dens.unren (g := fun k => g (swpN a b k)) (g' := g) (r := swpN a b) (fun _ => rfl) (rens (swpN a b) l) xs (by rw [rens_rens hr]; exact h)
  have hne : ∀ i, i ≠ a → upd (fun k => g (swpN a b k)) a (g a) i = g (swpN a b i) := fun i hi => upd_ne _ _ _ i hi
  have hfix : ∀ k, k < E.cx.m0 → upd (fun k => g (swpN a b k)) a (g a) k = g k := fun k hk => by
    by_cases hka : k = a
    · subst hka; exact upd_same _ _ _
    · rw [hne k hka]
      unfold swpN
      have h1 : Nat.beq k a = false := by
        cases h : Nat.beq k a with
        | false => rfl
        | true => exact absurd (beq_true h) hka
      have h2 : Nat.beq k b = false := by
        cases h : Nat.beq k b with
        | false => rfl
        | true => have := beq_true h; omega
      simp [h1, h2]
  refine ⟨hdf, upd (fun k => g (swpN a b k)) a (g a), H, { size := hd.size, den := fun t => Den.upd hne _ _ (freshE_nth t hE) (by rw [nth_renE]; exact den0 _ _ (hd.den t)), ok := fun k o hk0 => ?_, inj := fun i j hi hj c hci hcj => ?_, hp := hd.hp, base := { hd.base with fix := fun k hk => by rw [hfix k hk]; exact hd.base.fix k hk } }⟩
  · have hf := freshO_own hO hk0
    have hk := hk0
    rw [ownq_mapO' hr] at hk
    cases ho : ownq own (swpN a b k) with
    | none => rw [ho] at hk; cases hk
    | some so =>
      rw [ho] at hk
      simp only [Option.map_some, Option.some.injEq] at hk
      have h0 : OwnOk E.cx.mine (fun k => g (swpN a b k)) H w k o := by
        subst hk
        have := hd.ok _ _ ho
        cases so with
        | cells ty cs =>
          obtain ⟨b, vs, e, h1, h2⟩ := this
          exact ⟨b, vs, e, dens0 cs vs h1, h2⟩
        | tok sz => exact this
        | obj f => exact this
        | buf rw nn =>
          rcases this with ⟨ty, b, ws, e, h1, h2⟩ | h
          · exact .inl ⟨ty, b, ws, e, Dens.plain g _ H rw nn ws h1, h2⟩
          · exact .inr h
      exact h0.upd hf
  · have key : ∀ i, (ownq (mapO (swpN a b) own) i).isSome = true → (ownq own (swpN a b i)).isSome = true ∧ i ≠ a := fun i hi => by
      refine ⟨?_, ?_⟩
      · rw [ownq_mapO' hr] at hi
        simpa using hi
      · cases h : ownq (mapO (swpN a b) own) i with
        | none => rw [h] at hi; cases hi
        | some o => exact (freshO_own hO h).1
    obtain ⟨ki, ni⟩ := key i hi
    obtain ⟨kj, nj⟩ := key j hj
    rw [hne i ni] at hci
    rw [hne j nj] at hcj
    have e := hd.inj _ _ ki kj c hci hcj
    have := congrArg (swpN a b) e
    rw [hr, hr] at this
    exact this
end Go.Eng
namespace Go.Proofs.Ytmnmhehddbemkaa
open Go Go.Eng
set_option maxRecDepth 100000

abbrev eqI (u v : Int) : Bool := u == v
abbrev slI (l : List Int) (r : Nat) : List (Nat × SO) := [(0, .buf (ints l) r)]
theorem ints_set (B : List Int) (k : Nat) (u : Int) : (ints B).set k [.int .i64 u] = ints (B.set k u) := by
  simp [List.map_set]
theorem ints_app (a b : List Int) : ints (a ++ b) = ints a ++ ints b := by simp
theorem ints_at' {l : List Int} {i : Nat} {u : Int} (h : l[i]? = some u) : (ints l)[i]? = some [.int .i64 u] := by
  rw [List.getElem?_map, h]; rfl
theorem ints_sz {l : List Int} : ∀ q ∈ ints l, q.length = 1 := by
  intro q hq
  obtain ⟨x, _, rfl⟩ := List.mem_map.1 hq
  rfl

theorem cmpactI_fn (l : List Int) (c r : Nat) (hl : l.length ≤ 1000000) (hc : l.length ≤ c) :
    Contract Try.prog 74 1 (slI l r) [.sl 0 0 l.length c] fun s post => s = .sl 0 0 (cmpF eqI l).length c ∧ post = slI (cmpF eqI l) ((l.length - (cmpF eqI l).length) * 1 + r) := by
  refine contract_of ty_ok [1, 2, 3, 4, 5, 6, 7] Try.func74 rfl (by decide) Try.ntmps74 rfl fun z => ?_
  refine run 400 rfl ?_
  refine at_ifd rfl (fun g => ?_) (fun g => ?_)
  · have e : cmpF eqI l = l := by
      match l, g with
      | [], _ => rfl
      | [x], _ => rfl
      | _ :: _ :: l, g => simp at g; omega
    refine run 400 rfl ?_
    exact at_ret rfl rfl (slI l r) ⟨by rw [e], by rw [e, Nat.sub_self, Nat.zero_mul, Nat.zero_add]⟩ ⟨rfl, trivial⟩
  refine run 400 rfl ?_
  refine at_loop (fun i : Nat => 1 ≤ i ∧ i ≤ l.length ∧ cmpF eqI (l.take i) = l.take i) (fun i => [(0, .sl 0 0 l.length c), (3, I i)]) (fun _ => slI l r) (fun i => l.length - i) [1, 2, 3, 4, 5, 6, 7]
    1 ⟨by omega, by omega, cmp_one _ _⟩ ⟨SVle.refl _, SVle.refl _, trivial⟩ ⟨rfl, trivial⟩ ?_
  rintro i ⟨a1, a2, a3⟩
  refine run 400 rfl ?_
  refine at_ifd rfl (fun g => ?_) (fun g => ?_)
  rotate_left
  · have e : i = l.length := by omega
    subst e
    rw [List.take_length] at a3
    refine run 400 rfl ?_
    exact at_ret rfl rfl (slI l r) ⟨by rw [a3], by rw [a3, Nat.sub_self, Nat.zero_mul, Nat.zero_add]⟩ ⟨rfl, trivial⟩
  have hlt : i < l.length := by omega
  obtain ⟨u, hu⟩ : ∃ u, l[i]? = some u := ⟨_, List.getElem?_eq_getElem hlt⟩
  obtain ⟨v, hv⟩ : ∃ v, l[i - 1]? = some v := ⟨_, List.getElem?_eq_getElem (by omega)⟩
  have h63 : ((i : Int) - 1).toNat = i - 1 := by omega
  refine run 400 rfl ?_
  refine at_drawn 10 rfl rfl [(2, .val (.ptr 0 (0 + (i : Int).toNat * 1))), (3, .val (I u)), (7, .val (.ptr 0 (0 + ((i : Int) - 1).toNat * 1))), (8, .val (I v))] [1, 2, 3] rfl
    ⟨does_loadB1 (j := 0) (sz := 1) (i := i - 1) ty_ok rfl rfl rfl (fun e => by cases e) (fun e => by cases e) (by omega) ints_sz (ints_at' hv) rfl, does_indexS ty_ok rfl rfl rfl (by omega) rfl, by constructor <;> omega, does_loadB1 (j := 0) (sz := 1) (i := i) ty_ok rfl rfl rfl (fun e => by cases e) (fun e => by cases e) (by omega) ints_sz (ints_at' hu) rfl, does_indexS ty_ok rfl rfl rfl (by omega) rfl⟩ ?_
  refine run 400 rfl ?_
  refine at_if rfl (fun q => ?_) (fun q => ?_)
  rotate_left
  · have q : eqI u v = false := by simpa using q
    refine run 400 rfl ?_
    exact at_again (i + 1) ⟨by omega, by omega, by rw [cmp_step eqI a1 hu hv, q, a3, List.take_add_one, hu]; rfl⟩ (by omega) ⟨SVle.refl _, SVle.of_eq (by show I ((i : Int) + 1) = I ((i + 1 : Nat) : Int); rw [Int.natCast_add]; rfl), trivial⟩ ⟨rfl, trivial⟩
  have q : eqI u v = true := by simpa using q
  refine run 400 rfl ?_
  refine at_val (.sl 0 (0 + (i : Int).toNat * 1) (l.length - (i : Int).toNat) (c - (i : Int).toNat)) (does_sliceS_l ty_ok rfl rfl rfl (by omega) hc rfl) ?_
  refine run 400 rfl ?_
  have hst := Cin.start a1 hlt hu hv q a3
  clear hu hv q
  refine at_loop (fun p : Nat × Nat × List Int => 1 ≤ p.1 ∧ Cin eqI l (i + p.1) p.2.1 p.2.2) (fun p => [(0, .sl 0 0 l.length c), (3, I p.2.1), (4, .sl 0 (0 + (i : Int).toNat * 1) (l.length - (i : Int).toNat) (c - (i : Int).toNat)), (5, I p.1)]) (fun p => slI p.2.2 r) (fun p => l.length - p.1) [1, 2, 3, 4, 5, 6, 7]
    (1, i, l) ⟨Nat.le_refl _, hst⟩ ⟨SVle.refl _, SVle.refl _, SVle.refl _, SVle.refl _, trivial⟩ ⟨rfl, trivial⟩ ?_
  rintro ⟨j, k, B⟩ ⟨b1, b2⟩
  dsimp only at b1 b2
  have c1 := b2.k1
  have c2 := b2.km
  have c3 := b2.ml
  have c4 := b2.len
  refine run 400 rfl ?_
  refine at_ifd rfl (fun g2 => ?_) (fun g2 => ?_)
  rotate_left
  · have e : i + j = l.length := by simp at g2; omega
    rw [e] at b2
    obtain ⟨d1, d2⟩ := b2.done
    refine run 400 rfl ?_
    refine at_val (.sl 0 (0 + (k : Int).toNat * 1) (l.length - (k : Int).toNat) (c - (k : Int).toNat)) (does_sliceS_l ty_ok rfl rfl rfl (by omega) hc rfl) ?_
    refine at_clearS (ints (B.take k)) (ints (B.drop k)) ty_ok rfl rfl rfl rfl rfl rfl (by rw [← ints_app, List.take_append_drop]) ints_sz (by rw [ints_len, List.length_take]; omega) (by rw [ints_len, List.length_drop]; omega) (by omega) rfl ?_
    refine run 400 rfl ?_
    refine at_val (.sl 0 0 (k : Int).toNat c) (does_sliceS_h (sz := 1) ty_ok rfl rfl rfl (by omega) rfl) ?_
    refine run 400 rfl ?_
    exact at_ret rfl rfl (slI (cmpF eqI l) ((l.length - (cmpF eqI l).length) * 1 + r)) ⟨by show SV.sl _ _ _ _ = _; rw [← d2]; rfl, rfl⟩ ⟨by rw [← d2, ← d1]; rfl, trivial⟩
  have hlt2 : i + j < l.length := by simp at g2; omega
  obtain ⟨u, hu⟩ : ∃ u, l[i + j]? = some u := ⟨_, List.getElem?_eq_getElem hlt2⟩
  obtain ⟨v, hv⟩ : ∃ v, l[i + j - 1]? = some v := ⟨_, List.getElem?_eq_getElem (by omega)⟩
  have hBu : B[i + j]? = some u := by rw [b2.at (by omega)]; exact hu
  have hBv : B[i + j - 1]? = some v := by rw [b2.at (by omega)]; exact hv
  refine run 400 rfl ?_
  refine at_drawn 10 rfl rfl [(2, .val (.ptr 0 (0 + (i : Int).toNat * 1 + (j : Int).toNat * 1))), (3, .val (I u)), (7, .val (.ptr 0 (0 + (i : Int).toNat * 1 + ((j : Int) - 1).toNat * 1))), (8, .val (I v))] [1, 2, 3] rfl
    ⟨does_loadB1 (j := 0) (sz := 1) (i := i + j - 1) ty_ok rfl rfl rfl (fun e => by cases e) (fun e => by cases e) (by omega) ints_sz (ints_at' hBv) rfl, does_indexS ty_ok rfl rfl rfl (by omega) rfl, by constructor <;> omega, does_loadB1 (j := 0) (sz := 1) (i := i + j) ty_ok rfl rfl rfl (fun e => by cases e) (fun e => by cases e) (by omega) ints_sz (ints_at' hBu) rfl, does_indexS ty_ok rfl rfl rfl (by omega) rfl⟩ ?_
  refine run 400 rfl ?_
  refine at_if rfl (fun q => ?_) (fun q => ?_)
  rotate_left
  · have q : eqI u v = true := by simpa using q
    refine run 400 rfl ?_
    exact at_again (j + 1, k, B) ⟨by dsimp only; omega, b2.skip hlt2 hu hv q⟩ (by dsimp only; omega) ⟨SVle.refl _, SVle.refl _, SVle.refl _, SVle.of_eq (by show I ((j : Int) + 1) = I ((j + 1 : Nat) : Int); rw [Int.natCast_add]; rfl), trivial⟩ ⟨rfl, trivial⟩
  have q : eqI u v = false := by simpa using q
  refine run 400 rfl ?_
  refine at_val (.ptr 0 (0 + (i : Int).toNat * 1 + (j : Int).toNat * 1)) (does_indexS ty_ok rfl rfl rfl (by omega) rfl) ?_
  refine at_val (I u) (does_loadB1 (j := 0) (sz := 1) (i := i + j) ty_ok rfl rfl rfl (fun e => by cases e) (fun e => by cases e) (by omega) ints_sz (ints_at' hBu) rfl) ?_
  refine at_val (.ptr 0 (0 + (k : Int).toNat * 1)) (does_indexS ty_ok rfl rfl rfl (by omega) rfl) ?_
  refine at_storeB (sz := 1) (i := k) ty_ok [.int .i64 u] rfl rfl rfl rfl rfl (fun e => by cases e) rfl (by omega) ints_sz (by show k < (ints B).length; rw [ints_len]; omega) rfl rfl ?_
  refine run 400 rfl ?_
  exact at_again (j + 1, k + 1, B.set k u) ⟨by dsimp only; omega, b2.keep hlt2 hu hv q⟩ (by dsimp only; omega) ⟨SVle.refl _, SVle.of_eq (by show I ((k : Int) + 1) = I ((k + 1 : Nat) : Int); rw [Int.natCast_add]; rfl), SVle.refl _, SVle.of_eq (by show I ((j : Int) + 1) = I ((j + 1 : Nat) : Int); rw [Int.natCast_add]; rfl), trivial⟩ ⟨by show some (SO.buf ((ints B).set k [.int .i64 u]) r) = some (.buf (ints (B.set k u)) r); rw [ints_set], trivial⟩

theorem clipI_fn (l : List Int) (n c r : Nat) (hn : n ≤ c) : Contract Try.prog 73 1 (slI l r) [.sl 0 0 n c] fun s post => s = .sl 0 0 n n ∧ post = slI l r := by
  refine contract_of ty_ok [1, 2, 3, 4, 5, 6, 7] Try.func73 rfl (by decide) Try.ntmps73 rfl fun z => ?_
  refine run 400 rfl ?_
  refine at_val (.sl 0 0 (n : Int).toNat (n : Int).toNat) (does_sliceS_hm (sz := 1) ty_ok rfl rfl rfl rfl (by omega) rfl) ?_
  refine run 400 rfl ?_
  exact at_ret rfl rfl (slI l r) ⟨rfl, rfl⟩ ⟨rfl, trivial⟩

abbrev nbO (l : List Int) (c r : Nat) : List (Nat × SO) := [(0, .cells 22 [.sl 1 0 l.length c]), (1, .buf (ints l) r)]
abbrev nbP (l : List Int) (c r : Nat) : List (Nat × SO) := [(0, .cells 22 [.sl 2 0 l.length c]), (2, .buf (ints l) r)]
theorem non1B_fn (t : Tm) (l : List Int) (c r : Nat) (hl : l.length ≤ 1000000) (hc : l.length ≤ c) (hr : l.length + r = c) : Contract Try.prog 71 2 (nbO l c r) [t.sv, .ptr 0 0] fun s post => ∃ c' r', (l ++ if t.k = 2 then [t.n] else []).length ≤ c' ∧ (l ++ if t.k = 2 then [t.n] else []).length + r' = c' ∧ s = .tt ∧ post = nbP (l ++ if t.k = 2 then [t.n] else []) c' r' := by
  have hln := ints_len l
  refine contract_of ty_ok [3, 4, 5, 6, 7] Try.func71 rfl (by decide) Try.ntmps71 rfl fun z => ?_
  refine run 400 rfl ?_
  refine at_if rfl (fun g => ?_) (fun g => ?_)
  · have g : t.k = 2 := by simpa using g
    rw [if_pos g]
    refine run 400 rfl ?_
    refine at_gro (.tl 1 (ints [t.n])) (doesG_build ty_ok _ rfl ⟨⟨rfl, rfl, _, rfl, SVles.refl _⟩, trivial⟩ rfl rfl (by decide)) ?_
    refine run 400 rfl ?_
    refine at_appendS 1 2 1 ty_ok rfl rfl rfl rfl rfl rfl rfl hln.symm ints_sz (by omega) hc (by simp) rfl (by simp; omega) (by show _ * 8 ≤ _; simp; omega) rfl ?_
    intro c' r' h1 h2
    refine run 400 rfl ?_
    exact at_ret rfl rfl (nbP (l ++ [t.n]) c' r') ⟨c', r', by simpa using h1, by simpa using h2, rfl, rfl⟩ ⟨by show some (SO.cells 22 [.sl 2 0 (l.length + 1) c']) = some (SO.cells 22 [.sl 2 0 (l ++ [t.n]).length c']); simp, by show some (SO.buf (ints l ++ ints [t.n]) r') = some (SO.buf (ints (l ++ [t.n])) r'); simp, trivial⟩
  · have g : ¬ t.k = 2 := by simpa using g
    rw [if_neg g, List.append_nil]
    refine at_ren 1 2 ?_
    refine run 400 rfl ?_
    exact at_ret rfl rfl (nbP l c r) ⟨c, r, hc, hr, rfl, rfl⟩ ⟨rfl, rfl, trivial⟩

theorem eachB_fn : ∀ (t : Tm) (l : List Int) (c r : Nat), Sm t → l.length + szT t ≤ 1000000 → l.length ≤ c → l.length + r = c → Contract Try.prog 70 2 (nbO l c r) [t.sv, .clo 71 [.ptr 0 0]] fun s post => ∃ c' r', (l ++ nonT t).length ≤ c' ∧ (l ++ nonT t).length + r' = c' ∧ s = .tt ∧ post = nbP (l ++ nonT t) c' r' := by
  intro t
  induction t using Tm.ind with
  | h k n s l ih =>
    intro L cp rr hsm hc hcc hrr
    have hL := hsm.ks
    have hlen0 : ((rowsT l).length : Int) = l.length := by rw [rowsT_len]
    refine contract_of ty_ok [3, 4, 5, 6, 7] Try.func70 rfl (by decide) Try.ntmps70 rfl fun z => ?_
    refine run 400 rfl ?_
    rw [szT] at hc
    rw [nonT]
    refine at_callG [0, 1, 2] (non1B_fn (.mk k n s l) L cp rr (by omega) hcc hrr) rfl ⟨rfl, rfl, trivial⟩ rfl ?_
    rintro sv post ⟨c1, r1, e1, e2, rfl, rfl⟩
    refine ⟨rfl, rfl, ?_⟩
    refine run 400 rfl ?_
    refine at_loop (fun p : Nat × List Int × Nat × Nat => p.1 ≤ l.length ∧ p.2.1 ++ nonL (l.drop p.1) = L ++ ((if k = 2 then [n] else []) ++ nonL l) ∧ p.2.1.length + szL (l.drop p.1) ≤ 1000000 ∧ p.2.1.length ≤ p.2.2.1 ∧ p.2.1.length + p.2.2.2 = p.2.2.1) (fun p => [(1, .clo 71 [.ptr 0 0]), (2, .ptr 3 0), (12, .lst 4 (rowsT l)), (13, I (rowsT l).length), (14, I p.1)]) (fun p => (3, .cells 33 [I k, I n, .str s, .lst 4 (rowsT l)]) :: nbP p.2.1 p.2.2.1 p.2.2.2) (fun p => l.length - p.1) [4, 5, 6, 7]
      (0, L ++ (if k = 2 then [n] else []), c1, r1) ⟨by dsimp only; omega, by dsimp only; rw [List.drop_zero, List.append_assoc], by dsimp only; rw [List.drop_zero, List.length_append]; split <;> simp <;> omega, e1, e2⟩ ⟨SVle.refl _, SVle.refl _, SVle.refl _, SVle.refl _, SVle.refl _, trivial⟩ ⟨rfl, rfl, rfl, trivial⟩ ?_
    rintro ⟨i, q, c2, r2⟩ ⟨a1, a2, a3, a4, a5⟩
    dsimp only at a1 a2 a3 a4 a5
    refine run 400 rfl ?_
    refine at_ifd rfl (fun g => ?_) (fun g => ?_)
    rotate_left
    · dsimp only at g
      rw [hlen0] at g
      have e : i = l.length := by omega
      subst e
      rw [List.drop_length] at a2
      rw [nonL, List.append_nil] at a2
      refine run 400 rfl ?_
      exact at_ret rfl rfl (nbP q c2 r2) ⟨c2, r2, by rw [← a2]; exact a4, by rw [← a2]; exact a5, rfl, by rw [a2]⟩ ⟨rfl, rfl, trivial⟩
    dsimp only at g
    rw [hlen0] at g
    have hlt : i < l.length := by omega
    have hget := rowsT_get hlt
    have hmem := getD_mem hlt
    rw [drop_getD hlt] at a2 a3
    generalize l.getD i .zero = u at hget hmem a2 a3
    refine run 400 rfl ?_
    refine at_val (.rp (tr u) 0) (does_index ty_ok _ rfl rfl rfl (by omega) (show (rowsT l)[(i : Int).toNat]? = some (tr u) from hget) rfl) ?_
    refine run 400 rfl ?_
    rw [nonL] at a2
    rw [szL] at a3
    have hnl := nonT_len u
    refine at_callG [0, 2, 8] (ih u hmem q c2 r2 (hL.2 u hmem) (by omega) a4 a5) rfl ⟨rfl, rfl, trivial⟩ rfl ?_
    rintro sv post ⟨c3, r3, e3, e4, rfl, rfl⟩
    refine ⟨rfl, rfl, ?_⟩
    refine at_swap 8 2 ?_
    refine run 400 rfl ?_
    exact at_again (i + 1, q ++ nonT u, c3, r3) ⟨by dsimp only; omega, by dsimp only; rw [← a2, List.append_assoc], by dsimp only; rw [List.length_append]; omega, e3, e4⟩ (by dsimp only; omega) ⟨SVle.refl _, SVle.refl _, SVle.refl _, SVle.refl _, SVle.of_eq (by show I ((i : Int) + 1) = I ((i + 1 : Nat) : Int); rw [Int.natCast_add]; rfl), trivial⟩ ⟨rfl, rfl, rfl, trivial⟩
end Go.Proofs.Ytmnmhehddbemkaa
namespace Go.Eng
variable {env : List (Nat × SV)} {own : List (Nat × SO)}
/-- A byte of a string. -/
theorem does_byteAt {T : Nat → TI} {P : Program} (hT : ∀ t, T t = tiOf P t) {o : Oper} {t : Nat} {x i : Operand} {b : ByteArray} {k : IntKind} {n : Int} (y : Int) (ho : o.op = .index t x i) (hx : ev env x = .str b) (hi : ev env i = .int k n) (ht : (T t).kd = .str)
    (h0 : 0 ≤ n) (hy : ∃ h : n.toNat < b.size, ((b[n.toNat]'h).toNat : Int) = y) : DoesV P o env own (.int .u8 y) := by
  refine does_val fun cx g H q a w hd => ?_
  have e1 := hd.ev x
  rw [hx] at e1
  have e2 := hd.ev i
  rw [hi] at e2
  have e1 : a.eval x = .string b := e1
  have e2 : a.eval i = .int k n := e2
  have hu : P.underlying t = some .string := by
    rw [hT] at ht
    obtain ⟨i, d, hs, e⟩ := und_kd (P := P) ht (by simp)
    cases d <;> simp [kdOf] at e
    exact hs.und
  refine ⟨_, ?_, rfl⟩
  obtain ⟨hlt, hy⟩ := hy
  simp [execOp, ho, e1, e2, run_index_string _ _ _ _ _ hu, h0, hy, show n < b.size by omega]
end Go.Eng
namespace Go.Proofs.Ytmnmhehddbemkaa
open Go Go.Eng
set_option maxRecDepth 100000
theorem len64_0 : Gives Try.prog 115 [.int .u64 0] (I 0) := by
  refine contract_of ty_ok [1, 2, 3, 4, 5, 6, 7] Try.func115 rfl (by decide) Try.ntmps115 rfl fun z => ?_
  refine run 400 rfl ?_
  refine at_ifd rfl (fun g => absurd g (by decide)) (fun _ => ?_)
  refine run 400 rfl ?_
  refine at_ifd rfl (fun g => absurd g (by decide)) (fun _ => ?_)
  refine run 400 rfl ?_
  refine at_ifd rfl (fun g => absurd g (by decide)) (fun _ => ?_)
  refine run 400 rfl ?_
  refine at_val (.int .u8 0) (does_byteAt ty_ok (y := 0) rfl rfl rfl rfl (by decide) ⟨by decide, rfl⟩) ?_
  refine run 400 rfl ?_
  exact at_ret rfl rfl [] ⟨rfl, rfl, rfl⟩ trivial
theorem len_0 : Gives Try.prog 96 [.int .u64 0] (I 0) := by
  refine contract_of ty_ok [1, 2, 3, 4, 5, 6, 7] Try.func96 rfl (by decide) Try.ntmps96 rfl fun z => ?_
  refine run 400 rfl ?_
  refine at_fn len64_0 rfl ?_
  refine run 400 rfl ?_
  exact at_ret rfl rfl [] ⟨rfl, rfl, rfl⟩ trivial

theorem ins_0 : Gives Try.prog 105 [.lst 1 [], I 0, I 0] (.tup []) := by
  refine contract_of ty_ok [1, 2, 3, 4, 5, 6, 7] Try.func105 rfl (by decide) Try.ntmps105 rfl fun z => ?_
  refine run 400 rfl ?_
  refine at_loop (fun _ : Unit => True) (fun _ => [(6, I 1), (2, I 0)]) (fun _ => []) (fun _ => 0) [1, 2, 3, 4, 5, 6, 7] () trivial ⟨SVle.refl _, SVle.refl _, trivial⟩ trivial ?_
  intro _ _
  refine run 400 rfl ?_
  refine at_ifd rfl (fun g => absurd g (by decide)) (fun _ => ?_)
  refine run 400 rfl ?_
  refine at_end ?_
  exact at_ret rfl rfl [] ⟨rfl, rfl, rfl⟩ trivial
theorem pdq_0 : Gives Try.prog 95 [.lst 1 [], I 0, I 0, I 0] (.tup []) := by
  refine contract_of ty_ok [1, 2, 3, 4, 5, 6, 7] Try.func95 rfl (by decide) Try.ntmps95 rfl fun z => ?_
  refine run 400 rfl ?_
  refine at_loop (fun _ : Unit => True) (fun _ => [(0, .lst 1 []), (1, I 0), (2, I 0)]) (fun _ => []) (fun _ => 0) [1, 2, 3, 4, 5, 6, 7] () trivial ⟨SVle.refl _, SVle.refl _, SVle.refl _, trivial⟩ trivial ?_
  intro _ _
  refine run 400 rfl ?_
  refine at_ifd rfl (fun _ => ?_) (fun g => absurd (by decide) g)
  refine run 400 rfl ?_
  refine at_fn ins_0 rfl ?_
  refine run 400 rfl ?_
  exact at_ret rfl rfl [] ⟨rfl, rfl, rfl⟩ trivial
theorem sort_0 : Gives Try.prog 72 [.lst 1 []] (.tup []) := by
  refine contract_of ty_ok [1, 2, 3, 4, 5, 6, 7] Try.func72 rfl (by decide) Try.ntmps72 rfl fun z => ?_
  refine run 400 rfl ?_ (by simp [All, inR])
  refine at_fn len_0 rfl ?_
  refine run 400 rfl ?_
  refine at_fn pdq_0 rfl ?_
  refine run 400 rfl ?_
  refine at_end ?_
  exact at_ret rfl rfl [] ⟨rfl, rfl, rfl⟩ trivial
end Go.Proofs.Ytmnmhehddbemkaa
namespace Go.Proofs.Ytmnmhehddbemkaa
open Go Go.Eng Go.Shelf Go.RowKit Go.Lib Go.Sort
set_option maxRecDepth 100000
shelf_lay Lays.n189 Nm 189 at Try as Try.sortI

def sortZ (l : List Int) : List Int := l.mergeSort fun x y => decide (x ≤ y)
theorem sortZ_len (l : List Int) : (sortZ l).length = l.length := List.length_mergeSort _

variable {E : Stc} {all rest : List Oper} {o : Oper} {s : List Fr} {env : List (Nat × SV)} {own own2 : List (Nat × SO)} {nx : List Nat}

theorem flat_ints : ∀ l : List Int, flatU (ints l) = l.map (SV.int .i64)
  | [] => rfl
  | x :: l => by
    have := flat_ints l
    unfold flatU at this ⊢
    simp only [List.map_cons, List.flatten_cons, List.map_append, this]
    rfl
theorem dens_ints {g : Nat → Value} {H : Hp} : ∀ {l : List Int} {vs : List Value}, Dens g H (l.map (SV.int .i64)) vs → vs = l.map (Value.int .i64)
  | [], [], _ => rfl
  | [], _ :: _, h => h.elim
  | _ :: _, [], h => h.elim
  | x :: l, v :: vs, h => by
    rw [List.map_cons, ← dens_ints h.2]
    have : v = .int .i64 x := h.1
    rw [this]
theorem dens_ints_mk {g : Nat → Value} {H : Hp} : ∀ (l : List Int), Dens g H (l.map (SV.int .i64)) (l.map (Value.int .i64))
  | [] => trivial
  | _ :: l => ⟨rfl, dens_ints_mk l⟩

/-- Numbers are sorted in place. -/
theorem at_sortI (k : Nat) {l : List Int} {c r : Nat} (hP : E.P = Try.prog) (hc : callK o.op env (fun f l => some (f, l)) none = some (72, [.sl k 0 l.length c])) (hk : ownq own k = some (.buf (ints l) r)) (hl : l.length ≤ 1000000)
    (hso : setOwnK k (.buf (ints (sortZ l)) r) own some = some own2)
    (kk : Sat E (.ops all rest) s (put o.dst (.tup []) env) own2 nx)
    (hg : guardK all o.guard env true false false = true := by rfl) (hd : dstLt o.dst E.n = true := by rfl) : Sat E (.ops all (o :: rest)) s env own nx := by
  rw [setOwnK_eq] at hso
  simp only [Option.some.injEq] at hso
  subst hso
  intro a w hat0
  have hwant := wanted_of (E := E) (own := own) hg a w hat0
  unfold wpList
  rw [if_pos hwant]
  refine .inl ?_
  obtain ⟨hdf, g, H, hdn⟩ := hat0
  have hE : Enter E.P 72 := by rw [hP]; exact enter_of Try.func72 rfl (by decide)
  obtain ⟨vs0, hv0, hr⟩ := run_call (P := E.P) hdn hE hc
  obtain ⟨x, rfl, hx⟩ : ∃ x, vs0 = [x] ∧ Den g H (.sl k 0 l.length c) x := by
    match vs0, hv0 with
    | [x], h => exact ⟨x, rfl, h.1⟩
    | [], h => exact h.elim
    | _ :: _ :: _, h => exact h.2.elim
  unfold Oper.wp
  rw [hr]
  show Calls E.P 72 #[x] w _
  rcases hx with ⟨b, hgk, rfl⟩ | ⟨_, hl0, hc0, hgk, ad, rfl⟩
  rotate_left
  · have hl0 : l = [] := List.length_eq_zero_iff.1 hl0
    subst hl0
    have hx : Dens g H [.lst 1 []] [.slice ad 0 0] := ⟨⟨ad, 0, rfl, Nat.le_refl _, fun _ => ⟨rfl, rfl⟩, fun p _ => ⟨.inl rfl, trivial⟩⟩, trivial⟩
    have hC0 : Gives E.P 72 [.lst 1 []] (.tup []) := by rw [hP]; exact sort_0
    refine (hC0.2 g H w [.slice ad 0 0] hdn.hp (fun k o hk => by simp [ownq] at hk) (fun i j hi => by simp [ownq] at hi) hx).mono fun e w' he => ?_
    cases e with
    | returned v =>
      obtain ⟨g', H', sv, own', ⟨rfl, _, rfl⟩, hv, _, _, _, hbase⟩ := he
      have hv : v = .tuple #[] := by
        obtain ⟨cs, e, hcs⟩ := hv
        cases cs with
        | nil => exact e
        | cons _ _ => exact hcs.elim
      subst hv
      obtain ⟨q, os, rfl⟩ := world_grow hbase.os hbase.tape hbase.output hbase.drawn hbase.size fun c hc => hbase.block c hc (by
        rintro ⟨k, hk, _⟩
        simp [ownq] at hk)
      have hd1 := hdn.grown (w' := grow (w.drewN q) os) rfl rfl rfl (by show _ ≤ (_ ++ os).size; rw [Array.size_append]; exact Nat.le_add_right _ _) (fun c hc => by
        show (w.heap ++ os)[c]? = _
        rw [Array.getElem?_append_left hc]) (Nat.le_add_right _ _)
      have hd1 := hd1.le (env' := env) (own' := setOwn k (.buf (ints (sortZ [])) r) own) (fun t => SVle.refl _) (fun j o' hj => by
        rw [ownq_setOwn] at hj
        split at hj
        · rename_i e
          subst e
          rw [hk] at hj
          simp only [Option.map_some, Option.some.injEq] at hj
          subst hj
          rw [show sortZ [] = [] by simp [sortZ]]
          exact hk
        · exact hj)
      exact kk _ _ (At.put hdf hd1 (⟨[], rfl, trivial⟩ : Den g H (.tup []) (.tuple #[])) fun d e => by rw [e] at hd; exact Nat.blt_eq.mp hd)
    | _ => exact he.elim
  rcases hdn.ok k _ hk with ⟨ty, b', vs, e0, hv, hone, hw, hH, hm⟩ | ⟨e0, _⟩
  rotate_left
  · rw [e0] at hgk; cases hgk
  have hbb : b' = b := by rw [e0] at hgk; simpa using hgk
  subst hbb
  have hv' : Dens g H (flatU (ints l) ++ anys r) vs := hv
  obtain ⟨v1, v2, rfl, hva, hvb⟩ := Dens.append_inv hv'
  rw [flat_ints] at hva
  have e1 := dens_ints hva
  subst e1
  have hcon := Any.slices_Sort_int Try.sortI b' 0 c l w (holds_at (Value.int .i64) w b' ty v2 l.toArray hw) (heap_lt hw) (by omega)
  have hcon2 : Calls E.P 72 #[.slice (some ⟨b', 0, none⟩) l.length c] w fun e w' => e = .returned (.tuple #[]) ∧ ∃ n os, w' = grow (putRow (Value.int .i64) (Sort.ahead w n) b' 0 (sortZ l).toArray) os := by rw [hP]; exact hcon
  refine hcon2.mono ?_
  rintro e w' ⟨rfl, n, os, rfl⟩
  have hd1 : Dn E.cx g H env own E.n a.tmps (Sort.ahead w n) := hdn.grown (w' := Sort.ahead w n) rfl rfl rfl (Nat.le_refl _) (fun _ _ => rfl) (Nat.le_add_right _ _)
  obtain ⟨ty', hd2⟩ := hd1.openB hk e0
  have hk' : ownq (setOwn k (.cells ty' (bufC (ints l) r)) own) k = some (.cells ty' (bufC (ints l) r)) := by rw [ownq_setOwn, if_pos rfl, hk]; rfl
  have hden : Dens g H (bufC (ints (sortZ l)) r) ((sortZ l).map (Value.int .i64) ++ v2) := by
    rw [bufC, flat_ints]
    exact Dens.append (dens_ints_mk _) hvb
  have hone2 : ∀ v ∈ (sortZ l).map (Value.int .i64) ++ v2, v.oneCell' = true := by
    intro v hv
    rcases List.mem_append.1 hv with hv | hv
    · obtain ⟨z, _, rfl⟩ := List.mem_map.1 hv
      rfl
    · exact hone v (by simp [hv])
  have hd3 := hd2.write (new := bufC (ints (sortZ l)) r) hk' e0 hden hone2
  have hd4 := hd3.closeB (k := k) (ty := ty') (rw' := ints (sortZ l)) (nn := r) (by rw [ownq_setOwn, if_pos rfl, hk']; rfl)
  rw [setOwn_setOwn, setOwn_setOwn] at hd4
  have hput : putRow (Value.int .i64) (Sort.ahead w n) b' 0 (sortZ l).toArray = (Sort.ahead w n).setRow b' ((sortZ l).map (Value.int .i64) ++ v2).toArray := by
    have := putRow_at (Value.int .i64) (Sort.ahead w n) b' ty (l.map (Value.int .i64)) v2 (sortZ l).toArray hw (by simp [sortZ_len])
    exact this
  have hd5 : Dn E.cx g H env (setOwn k (.buf (ints (sortZ l)) r) own) E.n a.tmps (grow (putRow (Value.int .i64) (Sort.ahead w n) b' 0 (sortZ l).toArray) os) := by
    rw [hput]
    exact hd4.grown (w' := grow ((Sort.ahead w n).setRow b' ((sortZ l).map (Value.int .i64) ++ v2).toArray) os) rfl rfl rfl (by show _ ≤ (_ ++ os).size; rw [Array.size_append]; omega) (fun c hc => by
      show (_ ++ os)[c]? = _
      rw [Array.getElem?_append_left hc]) (Nat.le_refl _)
  exact kk _ _ (At.put hdf hd5 (⟨[], rfl, trivial⟩ : Den g H (.tup []) (.tuple #[])) fun d e => by rw [e] at hd; exact Nat.blt_eq.mp hd)
end Go.Proofs.Ytmnmhehddbemkaa
namespace Go.Proofs.Ytmnmhehddbemkaa
open Go Go.Eng
set_option maxRecDepth 100000
theorem sortZ_perm (l : List Int) : (sortZ l).Perm l := List.mergeSort_perm _ _
theorem sortZ_ss (l : List Int) : (sortZ l).Pairwise fun a b => a ≤ b := by
  have := List.pairwise_mergeSort (le := fun x y : Int => decide (x ≤ y)) (fun a b c h1 h2 => by simp at *; omega) (fun a b => by simp; omega) l
  exact this.imp fun h => by simpa using h
theorem nonces_fn (t : Tm) (h : Sm t) (hs : szT t ≤ 1000000) : Gives Try.prog 41 [t.sv] (.tl 1 (ints (rnonT t))) := by
  have hn := nonT_len t
  refine contract_of ty_ok [0, 1, 4, 5, 6, 7, 8, 9] Try.func41 rfl (by decide) Try.ntmps41 rfl fun z => ?_
  refine run 400 rfl ?_
  refine at_nilSI 1 2 0 rfl rfl rfl ?_
  refine at_callG [1, 2, 3] (eachB_fn t [] 0 0 h (by simpa using hs) (by simp) (by simp)) rfl ⟨rfl, rfl, trivial⟩ rfl ?_
  rintro sv post ⟨c, r, h1, h2, rfl, rfl⟩
  rw [List.nil_append] at h1 h2
  refine ⟨rfl, rfl, ?_⟩
  show Sat _ _ _ _ [(1, .cells 22 [.sl 3 0 (nonT t).length c]), (3, .buf (ints (nonT t)) r), (0, .cells 33 [I t.k, I t.n, .str t.s, .lst 4 (rowsT t.kids)])] _
  have hp := sortZ_perm (nonT t)
  have hl := hp.length_eq
  have hlaw := cmp_rnon (t := t) (sortZ_ss (nonT t)) fun x => hp.mem_iff
  refine run 400 rfl ?_
  refine at_sortI 3 rfl rfl rfl (by omega) rfl ?_
  rw [← hl] at h1 ⊢
  generalize sortZ (nonT t) = l at *
  refine run 400 rfl ?_
  refine at_callF [3] (cmpactI_fn l c r (by omega) h1) rfl ⟨rfl, trivial⟩ rfl rfl rfl ?_
  refine run 400 rfl ?_
  have hlen := cmp_len eqI l
  refine at_callF [3] (clipI_fn _ _ _ _ (by omega)) rfl ⟨rfl, trivial⟩ rfl rfl rfl ?_
  refine run 400 rfl ?_
  refine at_pubT 2 3 1 (ints (cmpF eqI l)) [] rfl rfl (List.append_nil _).symm (ints_len _).symm (fun r hr => ints_sz r hr) rfl ?_
  exact at_ret rfl rfl [] ⟨by rw [← hlaw], rfl, rfl⟩ trivial
end Go.Proofs.Ytmnmhehddbemkaa
namespace Go.Proofs.Ytmnmhehddbemkaa
open Go Go.Eng
set_option maxRecDepth 100000
theorem sort_fn (l : List Tm) (hl : l.length ≤ 1000000) (h : ∀ t ∈ l, Sm t) : Gives Try.prog 50 [.lst 4 (rowsT l)] (.tl 4 (rowsT (rsortF l))) :=
  (sortT_fn l hl h).le (fun s hs => by
    obtain ⟨l', hp, hs, rfl⟩ := hs
    rw [cmp_rsort hs fun x => hp.mem_iff]
    exact SVle.refl _)
theorem gives_is {f : Nat} {args : List SV} {b c : Bool} (h : Gives Try.prog f args (.bl b)) (e : b = c) : Gives Try.prog f args (cond c .tt .ff) := by
  subst e
  exact h.le (by cases b <;> exact fun _ _ _ h => h) (by cases b <;> rfl)

abbrev aT : Tm := .mk 1 0 ⟨#[98]⟩ []
abbrev nT : Tm := .mk 2 0 .empty []
abbrev hT : Tm := .mk 3 0 .empty [nT]
abbrev zT : Tm := .mk 0 0 .empty []
theorem may_aT : mayF aT = true := by
  have e : seq aT.s .empty = false := by rw [seq_data]; rfl
  have e2 : rightF aT = true := by unfold rightF; rw [e]; rfl
  unfold mayF
  rw [mayT, e2]
  rfl
theorem may_zT : mayF zT = false := by
  have e2 : rightF zT = false := by unfold rightF; rfl
  unfold mayF
  rw [mayT, e2]
  rfl
theorem ord_an : ordT aT nT = -1 := by
  rw [ordT_lex]
  exact orI_ne (by decide)
theorem ord_na : ordT nT aT = 1 := by rw [ord_anti, ord_an]; rfl
theorem same_an : same aT nT = false := by
  cases h : same aT nT with
  | false => rfl
  | true => have := same_iff.1 h; cases this
theorem has_hn : hasT nT hT = true := by
  rw [hasT, hasL, hasT, same_iff.2 rfl]; simp
theorem rnon_hT : rnonT hT = [0] := by simp [rnonT, rnonL, insF]
theorem rsort_nan : rsortF [nT, aT, nT] = [aT, nT] := by
  have e1 : addF [] nT = [nT] := rfl
  have e2 : addF [nT] aT = [aT, nT] := by
    rw [addF, ord_na, if_neg (by decide)]
    rw [if_neg]
    rw [same_iff]
    intro h; cases h
  have e3 : addF [aT, nT] nT = [aT, nT] := by
    rw [addF, ord_an, if_pos (by decide), addF, ord_irr, if_neg (by decide), if_pos (same_iff.2 rfl)]
  show addF (addF (addF [] nT) aT) nT = _
  rw [e1, e2, e3]
theorem sm_leaf (k n : Int) (s : ByteArray) : Sm (.mk k n s []) := .mk (by simp) (by simp)
theorem sm_hT : Sm hT := .mk (by simp) (fun t ht => by rw [List.mem_singleton] at ht; subst ht; exact sm_leaf _ _ _)

theorem known37_fn : Gives Try.prog 37 [] .tt := by
  have k1 : Gives Try.prog 39 [aT.sv] .tt := gives_is (may_fn aT) may_aT
  have k2 : Gives Try.prog 39 [zT.sv] .ff := gives_is (may_fn zT) may_zT
  have k3 := size_fn hT sm_hT (by simp [szT, szL])
  have e3 : szT hT = 2 := by simp [szT, szL]
  rw [e3] at k3
  have k4 : Gives Try.prog 45 [hT.sv, hT.sv] .tt := gives_is (tsame_fn hT hT sm_hT) (same_iff.2 rfl)
  have k5 : Gives Try.prog 45 [aT.sv, nT.sv] .ff := gives_is (tsame_fn aT nT (sm_leaf _ _ _)) same_an
  have k6 : Gives Try.prog 47 [aT.sv, nT.sv] .tt := gives_is (c := true) (tless_fn aT nT (sm_leaf _ _ _)) (by rw [ord_an]; rfl)
  have k7 : Gives Try.prog 47 [nT.sv, aT.sv] .ff := gives_is (c := false) (tless_fn nT aT (sm_leaf _ _ _)) (by rw [ord_na]; rfl)
  have k8 : Gives Try.prog 49 [hT.sv, nT.sv] .tt := gives_is (has_fn hT nT sm_hT) has_hn
  have k9 := nonces_fn hT sm_hT (by simp [szT, szL])

  rw [rnon_hT] at k9
  have k10 := sort_fn [nT, aT, nT] (by simp) (by intro t ht; simp at ht; rcases ht with rfl | rfl | rfl <;> exact sm_leaf _ _ _)
  rw [rsort_nan] at k10
  have k11 : Gives Try.prog 50 [.tl 4 [tr nT, tr aT, tr nT]] (.tl 4 [tr aT, tr nT]) := by
    have := k10.weak (args' := [.tl 4 [tr nT, tr aT, tr nT]]) ⟨by rw [rowsT_cons, rowsT_cons, rowsT_cons, rowsT_nil]; exact SVle.tl _ _, trivial⟩
    rw [rowsT_cons, rowsT_cons, rowsT_nil] at this
    exact this
  refine contract_of ty_ok [0, 1, 2, 3, 4, 5, 6, 7] Try.func37 rfl (by decide) Try.ntmps37 rfl fun z => ?_
  refine run 400 rfl ?_
  have hnil : SVle (.tl 0 []) (up (.lst 4 (rowsT []))) := fun g H x h => by rw [rowsT_nil]; exact SVle.tl 4 [] g H x (SVle.nil 4 g H x h)
  refine at_gro (.tl 4 [tr nT]) (doesG_build ty_ok _ rfl ⟨⟨rfl, rfl, _, rfl, ⟨SVle.refl _, SVle.refl _, SVle.refl _, hnil, trivial⟩⟩, trivial⟩ rfl rfl (by decide)) ?_
  refine run 400 rfl ?_
  have hnT : SVle (.tl 4 [tr nT]) (.lst 4 (rowsT [nT])) := by rw [rowsT_cons, rowsT_nil]; exact SVle.tl _ _
  refine at_weakO [(2, own33 hT), (1, own33 nT), (0, own33 aT)] ⟨rfl, ⟨rfl, SVle.refl _, SVle.refl _, SVle.refl _, hnT, trivial⟩, rfl, ⟨rfl, SVle.refl _, SVle.refl _, SVle.refl _, hnil, trivial⟩, rfl, ⟨rfl, SVle.refl _, SVle.refl _, SVle.refl _, hnil, trivial⟩, trivial⟩ ?_
  refine at_less [(9, aT.sv), (1, .ptr 0 0), (2, .ptr 1 0), (3, .ptr 2 0)] [(2, own33 hT), (1, own33 nT), (0, own33 aT)] [3, 4, 5, 6, 7] ⟨SVle.agg ⟨SVle.refl _, SVle.refl _, SVle.refl _, hnil, trivial⟩, SVle.refl _, SVle.refl _, SVle.refl _, trivial⟩ ⟨rfl, rfl, rfl, trivial⟩ ?_
  refine at_fn k1 rfl ?_
  refine run 400 rfl ?_
  refine at_less [(11, .tt), (12, zT.sv), (1, .ptr 0 0), (2, .ptr 1 0), (3, .ptr 2 0)] [(2, own33 hT), (1, own33 nT), (0, own33 aT)] [3, 4, 5, 6, 7] ⟨SVle.refl _, SVle.agg ⟨SVle.refl _, SVle.refl _, SVle.refl _, hnil, trivial⟩, SVle.refl _, SVle.refl _, SVle.refl _, trivial⟩ ⟨rfl, rfl, rfl, trivial⟩ ?_
  refine at_fn k2 rfl ?_
  refine run 400 rfl ?_
  refine at_fn k3 rfl ?_
  refine run 400 rfl ?_
  refine at_true 21 rfl (by rfl) ?_
  refine run 400 rfl ?_
  refine at_fn k4 rfl ?_
  refine run 400 rfl ?_
  refine at_fn k5 rfl ?_
  refine run 400 rfl ?_
  refine at_fn k6 rfl ?_
  refine run 400 rfl ?_
  refine at_fn k7 rfl ?_
  refine run 400 rfl ?_
  refine at_fn k8 rfl ?_
  refine run 400 rfl ?_
  refine at_fn k9 rfl ?_
  refine run 400 rfl ?_
  refine at_true 54 rfl (by rfl) ?_
  refine run 400 rfl ?_
  refine at_gro (.tl 4 [tr nT, tr aT, tr nT]) (doesG_build ty_ok _ rfl ⟨⟨rfl, rfl, _, rfl, SVles.refl _⟩, ⟨rfl, rfl, _, rfl, SVles.refl _⟩, ⟨rfl, rfl, _, rfl, SVles.refl _⟩, trivial⟩ rfl rfl (by decide)) ?_
  refine run 400 rfl ?_
  refine at_fn k11 rfl ?_
  refine run 400 rfl ?_
  refine at_true 0 rfl (by rfl) ?_
  exact at_ret rfl rfl [] ⟨rfl, rfl, rfl⟩ trivial
end Go.Proofs.Ytmnmhehddbemkaa
namespace Go.Proofs.Ytmnmhehddbemkaa
open Go Go.Eng Go.MapKept
set_option maxRecDepth 100000

theorem noMap_S (d : TypeDesc) : ∀ r H o, noMap r H o → mapS d [] r H o := by
  rintro r H o ⟨c, rfl⟩
  exact ⟨#[], c, rfl, trivial, ⟨by simp, .nil, by simp, by simp, by simp⟩⟩

theorem parts_fn (t : Tm) (h : Gd t) : Gives Try.prog 91 [t.sv] (.lst 4 (rowsT (parts t))) := by
  refine GivesP.le (Post := fun s => SVle s (.lst 4 (rowsT (parts t)))) ?_ (fun s h => h)
  obtain ⟨k, n, s, l⟩ := t
  have hk := h.ks.1
  have hl := rowsT_len l
  have hnil : SVle (.tl 0 []) (.lst 4 (rowsT [])) := fun g H x h => by rw [rowsT_nil]; exact SVle.tl 4 [] g H x (SVle.nil 4 g H x h)
  refine contract_of ty_ok [0, 1, 2, 3, 4, 5, 6, 7] Try.func91 rfl (by decide) Try.ntmps91 rfl fun z => ?_
  refine run 400 rfl ?_
  refine at_if rfl (fun q => ?_) (fun q => ?_)
  · have q : ((rowsT l).length : Int) ≠ 2 := by simpa using q
    rw [hl] at q
    have e : parts (.mk k n s l) = [] := by
      rw [parts, if_neg (fun e => q (by rw [hk, e]; rfl)), if_neg (fun e => q (by rw [hk, e]; rfl))]
    refine run 400 rfl ?_
    exact at_ret rfl rfl [] ⟨by show SVle _ _; rw [e]; exact hnil, rfl, rfl⟩ trivial
  refine run 400 rfl ?_
  refine at_if rfl (fun q7 => ?_) (fun q7 => ?_)
  · have q7 : k = 7 := by simpa using q7
    have e : parts (.mk k n s l) = l := by rw [parts, if_pos q7]
    refine run 400 rfl ?_
    exact at_ret rfl rfl [] ⟨by show SVle _ _; rw [e]; exact SVle.refl _, rfl, rfl⟩ trivial
  have q7 : ¬ k = 7 := by simpa using q7
  refine run 400 rfl ?_
  refine at_if rfl (fun q6 => ?_) (fun q6 => ?_)
  · have q6 : k = 6 := by simpa using q6
    have e : parts (.mk k n s l) = l.drop 1 := by rw [parts, if_neg q7, if_pos q6]
    have hl2 : (rowsT l).length = 2 := by rw [hl]; have := hk; rw [q6] at this; have h2 : kidsF 6 = 2 := rfl; omega
    refine run 400 rfl ?_
    refine at_val (.lst 4 ((rowsT l).drop (1 : Int).toNat)) (does_slice_l ty_ok rfl rfl rfl (by omega) rfl) ?_
    refine run 400 rfl ?_
    exact at_ret rfl rfl [] ⟨by show SVle _ _; rw [e, rowsT_map, rowsT_map, List.map_drop]; exact SVle.refl _, rfl, rfl⟩ trivial
  have q6 : ¬ k = 6 := by simpa using q6
  have e : parts (.mk k n s l) = [] := by rw [parts, if_neg q7, if_neg q6]
  refine run 400 rfl ?_
  exact at_ret rfl rfl [] ⟨by show SVle _ _; rw [e]; exact hnil, rfl, rfl⟩ trivial

abbrev putO (O : List Tm) : List (Nat × SO) := [(0, .cells 85 [.mp 2]), (1, .cells 113 [.clo 90 [.ptr 0 0, .ptr 1 0]]), (2, .obj (mapS .string (entsT O)))]
theorem zT_den : ∀ g H, Den g H (.agg [I 0, I 0, .str .empty, .lst 4 []]) (.agg #[.int .i64 0, .int .i64 0, .string .empty, .slice none 0 0]) := fun g H => ⟨_, rfl, rfl, rfl, rfl, ⟨none, 0, rfl, Nat.le_refl _, fun _ => ⟨rfl, rfl⟩, fun p hp => by cases hp⟩, trivial⟩

theorem put90_fn : ∀ (n : Nat) (t : Tm), szT t ≤ n → mayF t = true → ∀ O : List Tm, (∀ u ∈ O, mayF u = true) → Contract Try.prog 90 3 (putO O) [t.sv, .ptr 0 0, .ptr 1 0] fun s post => s = .tup [] ∧ post = putO (putM t O)
  | 0, t, h, _, _, _ => by have := szT_pos t; omega
  | n + 1, t, h, ht, O, hO => by
    have hK := key66_fn t ht (may_enc ht)
    have hp := parts_fn t (mayF_gd ht)
    have hsz := sz_parts t
    have hpl : (parts t).length ≤ 64 := by
      have := szL_len (parts t)
      have h2 := ht
      rw [mayF_iff, Bool.and_eq_true, decide_eq_true_eq] at h2
      omega
    refine contract_of ty_ok [3, 4, 5, 6, 7] Try.func90 rfl (by decide) Try.ntmps90 rfl fun z => ?_
    rw [putM_eq]
    refine run 400 rfl ?_
    refine at_fn hK rfl ?_
    refine run 400 rfl ?_
    cases ha : amongF O t with
    | true =>
      rw [if_pos rfl]
      refine at_val (.tup [t.sv, .tt]) (does_lookY _ Try.underlying85 Try.underlying9 rfl rfl rfl rfl trivial (entsT_yes ha)) ?_
      refine run 400 rfl ?_
      exact at_ret rfl rfl (putO O) ⟨rfl, rfl⟩ ⟨rfl, rfl, rfl, trivial⟩
    | false =>
      rw [if_neg (by decide)]
      have hno := entsT_no hO ht ha
      refine at_val (.tup [.agg [I 0, I 0, .str .empty, .lst 4 []], .ff]) (does_lookN _ Try.underlying85 Try.underlying9 z33 rfl rfl rfl rfl trivial hno zT_den) ?_
      refine run 400 rfl ?_
      refine at_mput t.sv Try.underlying85 Try.underlying9 rfl rfl rfl rfl rfl rfl rfl trivial hno rfl ?_
      rw [← entsT_app]
      refine run 400 rfl ?_
      refine at_fn hp rfl ?_
      generalize hL : parts t = L at hp hsz hpl
      have hll := rowsT_len L
      have hLm : ∀ u ∈ L, mayF u = true ∧ szT u ≤ n := fun u hu => by
        rw [← hL] at hu
        have := sz_part hu
        exact ⟨may_part ht hu, by omega⟩
      have hO1 : ∀ u ∈ O ++ [t], mayF u = true := fun u hu => by
        rcases List.mem_append.1 hu with h | h
        · exact hO u h
        · rw [List.mem_singleton] at h; subst h; exact ht
      generalize O ++ [t] = O1 at hO1
      refine run 400 rfl ?_
      refine at_loop (fun p : Nat × List Tm => p.1 ≤ L.length ∧ (∀ u ∈ p.2, mayF u = true) ∧ (L.drop p.1).foldl (fun O u => putM u O) p.2 = L.foldl (fun O u => putM u O) O1) (fun p => [(1, .ptr 0 0), (2, .ptr 1 0), (22, .lst 4 (rowsT L)), (23, I (rowsT L).length), (24, I p.1)]) (fun p => putO p.2) (fun p => L.length - p.1) [3, 4, 5, 6, 7]
        (0, O1) ⟨by dsimp only; omega, hO1, rfl⟩ ⟨SVle.refl _, SVle.refl _, SVle.refl _, SVle.refl _, SVle.refl _, trivial⟩ ⟨rfl, rfl, rfl, trivial⟩ ?_
      rintro ⟨i, Q⟩ ⟨a1, a2, a3⟩
      dsimp only at a1 a2 a3
      refine run 400 rfl ?_
      refine at_ifd rfl (fun g => ?_) (fun g => ?_)
      rotate_left
      · dsimp only at g
        rw [hll] at g
        have e : i = L.length := by omega
        subst e
        rw [List.drop_length] at a3
        refine run 400 rfl ?_
        refine at_end ?_
        exact at_ret rfl rfl (putO Q) ⟨rfl, by rw [← a3]; rfl⟩ ⟨rfl, rfl, rfl, trivial⟩
      dsimp only at g
      rw [hll] at g
      have hlt : i < L.length := by omega
      have hget := rowsT_get hlt
      have hmem := getD_mem hlt
      rw [drop_getD hlt] at a3
      generalize L.getD i .zero = u at hget hmem a3
      obtain ⟨hu1, hu2⟩ := hLm u hmem
      refine run 400 rfl ?_
      refine at_val (.rp (tr u) 0) (does_index ty_ok _ rfl rfl rfl (by omega) (show (rowsT L)[(i : Int).toNat]? = some (tr u) from hget) rfl) ?_
      refine run 400 rfl ?_
      refine at_callF [0, 1, 2] (put90_fn n u hu2 hu1 Q a2) rfl ⟨rfl, rfl, rfl, trivial⟩ rfl rfl rfl ?_
      refine run 400 rfl ?_
      exact at_again (i + 1, putM u Q) ⟨by dsimp only; omega, putM_may hu1 a2, a3⟩ (by dsimp only; omega) ⟨SVle.refl _, SVle.refl _, SVle.refl _, SVle.refl _, SVle.of_eq (by show I ((i : Int) + 1) = I ((i + 1 : Nat) : Int); rw [Int.natCast_add]; rfl), trivial⟩ ⟨rfl, rfl, rfl, trivial⟩

theorem open63_fn (l : List Tm) (hm : ∀ u ∈ l, mayF u = true) (hl : l.length ≤ 1000000) : Contract Try.prog 63 0 [] [.lst 4 (rowsT l)] fun s post => s = .mp 0 ∧ post = [(0, .obj (mapS .string (entsT (openM l))))] := by
  have hll := rowsT_len l
  refine contract_of ty_ok [1, 2, 3, 4, 5, 6] Try.func63 rfl (by decide) Try.ntmps63 rfl fun z => ?_
  refine run 400 rfl ?_
  refine at_mkmap 0 rfl ?_
  refine run 400 rfl ?_
  refine at_weakO [(2, .cells 113 [.clo 90 [.ptr 1 0, .ptr 2 0]]), (1, .cells 85 [.mp 0]), (0, .obj (mapS .string (entsT [])))] ⟨rfl, ⟨rfl, SVles.refl _⟩, rfl, ⟨rfl, SVles.refl _⟩, rfl, noMap_S _, trivial⟩ ?_
  refine at_loop (fun p : Nat × List Tm => p.1 ≤ l.length ∧ (∀ u ∈ p.2, mayF u = true) ∧ (l.drop p.1).foldl (fun O u => putM u O) p.2 = openM l) (fun p => [(3, .ptr 1 0), (4, .ptr 2 0), (9, .lst 4 (rowsT l)), (10, I (rowsT l).length), (11, I p.1)]) (fun p => [(0, .obj (mapS .string (entsT p.2))), (1, .cells 85 [.mp 0]), (2, .cells 113 [.clo 90 [.ptr 1 0, .ptr 2 0]])]) (fun p => l.length - p.1) [3, 4, 5, 6]
    (0, []) ⟨by dsimp only; omega, by simp, rfl⟩ ⟨SVle.refl _, SVle.refl _, SVle.refl _, SVle.refl _, SVle.refl _, trivial⟩ ⟨rfl, rfl, rfl, trivial⟩ ?_
  rintro ⟨i, Q⟩ ⟨a1, a2, a3⟩
  dsimp only at a1 a2 a3
  refine run 400 rfl ?_
  refine at_ifd rfl (fun g => ?_) (fun g => ?_)
  rotate_left
  · dsimp only at g
    rw [hll] at g
    have e : i = l.length := by omega
    subst e
    rw [List.drop_length] at a3
    refine run 400 rfl ?_
    exact at_ret rfl rfl [(0, .obj (mapS .string (entsT Q)))] ⟨rfl, by rw [← a3]; rfl⟩ ⟨rfl, trivial⟩
  dsimp only at g
  rw [hll] at g
  have hlt : i < l.length := by omega
  have hget := rowsT_get hlt
  have hmem := getD_mem hlt
  rw [drop_getD hlt] at a3
  generalize l.getD i .zero = u at hget hmem a3
  refine run 400 rfl ?_
  refine at_val (.rp (tr u) 0) (does_index ty_ok _ rfl rfl rfl (by omega) (show (rowsT l)[(i : Int).toNat]? = some (tr u) from hget) rfl) ?_
  refine run 400 rfl ?_
  refine at_callF [1, 2, 0] (put90_fn _ u (Nat.le_refl _) (hm u hmem) Q a2) rfl ⟨rfl, rfl, rfl, trivial⟩ rfl rfl rfl ?_
  refine run 400 rfl ?_
  exact at_again (i + 1, putM u Q) ⟨by dsimp only; omega, putM_may (hm u hmem) a2, a3⟩ (by dsimp only; omega) ⟨SVle.refl _, SVle.refl _, SVle.refl _, SVle.refl _, SVle.of_eq (by show I ((i : Int) + 1) = I ((i + 1 : Nat) : Int); rw [Int.natCast_add]; rfl), trivial⟩ ⟨rfl, rfl, rfl, trivial⟩
end Go.Proofs.Ytmnmhehddbemkaa
namespace Go.Proofs.Ytmnmhehddbemkaa
open Go Go.Eng Go.MapKept
set_option maxRecDepth 100000

theorem openM_len {l : List Tm} : (openM l).length ≤ szL l := by
  have := (openM_P l).len
  simpa using this
theorem entsT_get {O : List Tm} {i : Nat} {t : Tm} (h : O[i]? = some t) : (entsT O)[i]? = some (.string (keyT t), t.sv) := by
  rw [entsT, List.getElem?_map, h]; rfl
theorem idx_of_born {l : List MapEntry} (hn : (l.map (·.born)).Nodup) {i j : Nat} {e e' : MapEntry} (hi : l[i]? = some e) (hj : l[j]? = some e') (h : e.born = e'.born) : i = j := by
  have h1 : (l.map (·.born))[i]? = some e.born := by rw [List.getElem?_map, hi]; rfl
  have h2 : (l.map (·.born))[j]? = some e.born := by rw [List.getElem?_map, hj, h]; rfl
  obtain ⟨a1, a2⟩ := List.getElem?_eq_some_iff.1 h1
  obtain ⟨b1, b2⟩ := List.getElem?_eq_some_iff.1 h2
  exact (List.getElem_inj hn).1 (by rw [a2, b2])

theorem open29_fn (l : List Tm) (hm : ∀ u ∈ l, mayF u = true) (hl : szL l ≤ 100000) : Gives Try.prog 29 [.lst 4 (rowsT l)] (.tl 4 (rowsT (openF l))) := by
  have hg : ∀ t ∈ l, Gd t := fun t ht => mayF_gd (hm t ht)
  have hO := openM_may hm
  have hOl := openM_len (l := l)
  have hso : ∀ acc : List Tm, (∀ x, x ∈ acc ↔ x ∈ openM l) → rsortF acc = openF l := fun acc h => sort_open hg h
  have h63 := open63_fn l hm (by have := szL_len l; omega)
  generalize openM l = O at hO hOl hso h63
  refine contract_of ty_ok [0, 1, 2, 3, 4, 8, 9] Try.func29 rfl (by decide) Try.ntmps29 rfl fun z => ?_
  refine run 400 rfl ?_
  refine at_callF [5] h63 rfl trivial rfl rfl rfl ?_
  refine at_range 6 Try.underlying85 rfl rfl rfl ?_
  intro rm ri c L hsz hM
  have hsz : L.size = O.length := by rw [hsz, entsT, List.length_map]
  refine run 400 rfl ?_
  refine at_name 3 7 4 rfl (.inr rfl) ?_
  refine at_loop (fun p : List Tm × Array Nat => (∀ t ∈ p.1, t ∈ O) ∧ (∀ (i : Nat) (e : MapEntry) (t : Tm), L.toList[i]? = some e → O[i]? = some t → p.2.contains e.born = true → t ∈ p.1) ∧ p.1.length + (leftOf L p.2).size ≤ O.length)
    (fun p => [(3, .gl 7 4 (rowsT p.1)), (8, .val (.pointer (some ⟨ri, 0, none⟩)))]) (fun p => [(7, .tok 4), (6, .obj (itP ri rm c p.2)), (5, .obj (mapP rm L c (entsT O)))]) (fun p => (leftOf L p.2).size) [0, 1, 2, 3, 4, 8, 9]
    ([], #[]) ⟨by simp, by intro i e t _ _ h; simp at h, by dsimp only; rw [← hsz]; simp only [List.length_nil, Nat.zero_add]; unfold leftOf; exact Array.size_filter_le⟩ ⟨SVle.of_eq (by show SV.gl 7 4 [] = SV.gl 7 4 (rowsT []); rw [rowsT_nil]), SVle.refl _, trivial⟩ ⟨rfl, rfl, rfl, trivial⟩ ?_
  rintro ⟨acc, seen⟩ ⟨a1, a2, a3⟩
  dsimp only at a1 a2 a3
  refine run 400 rfl ?_
  refine at_next (ki := 6) (q := 5) (rm := rm) (seen := seen) (own1 := fun e => [(7, .tok 4), (6, .obj (itP ri rm c (seen.push e.born))), (5, .obj (mapP rm L c (entsT O)))]) hM rfl rfl rfl rfl (fun _ => rfl) (fun h0 => ?_) (fun e he => ?_)
  · have hall := all_seen L seen h0
    have hmem : ∀ x, x ∈ acc ↔ x ∈ O := fun x => ⟨a1 x, fun hx => by
      obtain ⟨i, hi⟩ := List.mem_iff_getElem?.1 hx
      have hlt : i < L.size := by rw [hsz]; exact (List.getElem?_eq_some_iff.1 hi).1
      have hLi : L.toList[i]? = some L[i] := by rw [Array.getElem?_toList]; exact Array.getElem?_eq_getElem hlt
      exact a2 i _ x hLi hi (hall _ (List.mem_of_getElem? hLi))⟩
    have hS := sort_fn acc (by omega) fun t ht => (mayF_gd (hO t (a1 t ht))).sm
    rw [hso acc hmem] at hS
    refine run 400 rfl ?_
    refine at_deg 7 ?_
    refine run 400 rfl ?_
    refine at_fn hS rfl ?_
    refine run 400 rfl ?_
    exact at_ret rfl rfl [] ⟨rfl, rfl, rfl⟩ trivial
  · obtain ⟨he1, he2⟩ := mem_left he
    obtain ⟨i, hi⟩ := List.mem_iff_getElem?.1 he1
    have hlt : i < O.length := by
      have := (List.getElem?_eq_some_iff.1 hi).1
      simpa [hsz] using this
    obtain ⟨t, ht⟩ : ∃ t, O[i]? = some t := ⟨_, List.getElem?_eq_getElem hlt⟩
    have hsh := left_shrinks L seen e he
    refine run 400 rfl ?_
    refine at_val (.tup [keyS (.string (keyT t)), t.sv]) (does_entry (ki := 6) (q := 5) (rm := rm) (seen := seen) hM rfl rfl rfl rfl (by rw [Array.getElem?_toList] at hi; exact hi) (entsT_get ht)) ?_
    refine run 400 rfl ?_
    refine at_gro (.tl 4 [tr t]) (doesG_build ty_ok _ rfl ⟨⟨rfl, rfl, _, rfl, SVles.refl _⟩, trivial⟩ rfl rfl (by decide)) ?_
    have hal := rowsT_len acc
    refine at_grow 7 7 4 (rowsT acc ++ [tr t]) rfl (doesU_append ty_ok rfl rfl rfl rfl rfl rfl rfl (by simp; omega) (by show _ * 56 ≤ _; simp; omega)) rfl ?_
    refine run 400 rfl ?_
    refine at_again (acc ++ [t], seen.push e.born) ⟨?_, ?_, ?_⟩ hsh ⟨SVle.of_eq (by show SV.gl 7 4 (rowsT acc ++ [tr t]) = SV.gl 7 4 (rowsT (acc ++ [t])); rw [rowsT_app, rowsT_cons, rowsT_nil]), SVle.refl _, trivial⟩ ⟨rfl, rfl, rfl, trivial⟩
    · intro u hu
      rcases List.mem_append.1 hu with h | h
      · exact a1 u h
      · rw [List.mem_singleton] at h; subst h; exact List.mem_of_getElem? ht
    · intro j e' u hj hu hc
      rw [contains_push] at hc
      rw [Bool.or_eq_true] at hc
      rcases hc with hc | hc
      · exact List.mem_append.2 (.inl (a2 j e' u hj hu hc))
      · have hb : e'.born = e.born := by simpa using hc
        have := idx_of_born hM.nodup hj hi hb
        subst this
        rw [ht] at hu
        cases hu
        simp
    · dsimp only
      rw [List.length_append, List.length_singleton]
      omega

abbrev canO (O : List Tm) : List (Nat × SO) := [(0, .cells 85 [.mp 2]), (1, .cells 55 [.clo 65 [.ptr 0 0, .ptr 1 0]]), (2, .obj (mapS .string (entsT O)))]
theorem can65_fn (O : List Tm) (hO : ∀ u ∈ O, mayF u = true) : ∀ (t : Tm), mayF t = true → ∀ b : Bool, madeT O t = b → Contract Try.prog 65 3 (canO O) [t.sv, .ptr 0 0, .ptr 1 0] fun s post => s = cond b .tt .ff ∧ post = canO O := by
  intro t
  induction t using Tm.ind with
  | h k n s l ih =>
    intro ht b hb
    have hK := key66_fn _ ht (may_enc ht)
    have hg := mayF_gd ht
    have hk0 := hg.ks.1
    have hll := rowsT_len l
    have hl1 : l.length ≤ 2 := by have := kidsF_le k; omega
    rw [madeT] at hb
    refine contract_of ty_ok [3, 4, 5, 6, 7] Try.func65 rfl (by decide) Try.ntmps65 rfl fun z => ?_
    refine run 400 rfl ?_
    cases ha : amongF O (.mk k n s l) with
    | true =>
      rw [ha, Bool.true_or, Bool.or_true] at hb
      subst hb
      refine at_drawn 9 rfl rfl [(2, .sv (.str (keyT (.mk k n s l)))), (3, .val (.tup [(Tm.mk k n s l).sv, .tt])), (7, .forget), (8, .forget)] [20, 21, 22] rfl
        ⟨does_lookY _ Try.underlying85 Try.underlying9 rfl rfl rfl rfl trivial (entsT_yes ha), hK⟩ ?_
      refine run 400 rfl ?_
      exact at_ret rfl rfl (canO O) ⟨rfl, rfl⟩ ⟨rfl, rfl, rfl, trivial⟩
    | false =>
      rw [ha, Bool.false_or] at hb
      refine at_drawn 9 rfl rfl [(2, .sv (.str (keyT (.mk k n s l)))), (3, .val (.tup [.agg [I 0, I 0, .str .empty, .lst 4 []], .ff])), (7, .forget), (8, .forget)] [20, 21, 22] rfl
        ⟨does_lookN _ Try.underlying85 Try.underlying9 z33 rfl rfl rfl rfl trivial (entsT_no hO ht ha) zT_den, hK⟩ ?_
      refine run 400 rfl ?_
      refine at_if rfl (fun q => ?_) (fun q => ?_)
      · have q : k = 1 := by simpa using q
        subst q
        have : true = b := by simpa using hb
        subst this
        refine run 400 rfl ?_
        exact at_ret rfl rfl (canO O) ⟨rfl, rfl⟩ ⟨rfl, rfl, rfl, trivial⟩
      have q : ¬ k = 1 := by simpa using q
      rw [show (k == 1) = false by simpa using q, Bool.false_or] at hb
      refine run 400 rfl ?_
      refine at_if rfl (fun q2 => ?_) (fun q2 => ?_)
      · have q2 : ((rowsT l).length : Int) = 0 := by simpa using q2
        rw [hll] at q2
        have hk2 : k = 2 := by
          have hz : kidsF k = 0 := by omega
          unfold kidsF at hz
          rw [if_neg q] at hz
          split at hz
          · assumption
          · repeat (first | omega | (split at hz))
        rw [hk2] at hb
        have : false = b := by simpa using hb
        subst this
        refine run 400 rfl ?_
        exact at_ret rfl rfl (canO O) ⟨rfl, rfl⟩ ⟨rfl, rfl, rfl, trivial⟩
      have q2 : ¬ ((rowsT l).length : Int) = 0 := by simpa using q2
      rw [hll] at q2
      have hk2 : ¬ k = 2 := fun e => q2 (by rw [hk0, e]; rfl)
      rw [show (k == 2) = false by simpa using hk2, Bool.not_false, Bool.true_and] at hb
      refine run 400 rfl ?_
      refine at_loop (fun i : Nat => i ≤ l.length ∧ madeL O (l.drop i) = b) (fun i => [(1, .ptr 0 0), (2, .ptr 1 0), (27, .lst 4 (rowsT l)), (28, I (rowsT l).length), (29, I i)]) (fun _ => canO O) (fun i => l.length - i) [3, 4, 5, 6, 7]
        0 ⟨by omega, hb⟩ ⟨SVle.refl _, SVle.refl _, SVle.refl _, SVle.refl _, SVle.refl _, trivial⟩ ⟨rfl, rfl, rfl, trivial⟩ ?_
      rintro i ⟨a1, a2⟩
      refine run 400 rfl ?_
      refine at_ifd rfl (fun g => ?_) (fun g => ?_)
      rotate_left
      · rw [hll] at g
        have e : i = l.length := by omega
        subst e
        rw [List.drop_length, madeL] at a2
        subst a2
        refine run 400 rfl ?_
        exact at_ret rfl rfl (canO O) ⟨rfl, rfl⟩ ⟨rfl, rfl, rfl, trivial⟩
      rw [hll] at g
      have hlt : i < l.length := by omega
      have hget := rowsT_get hlt
      have hmem := getD_mem hlt
      rw [drop_getD hlt, madeL] at a2
      generalize l.getD i .zero = u at hget hmem a2
      refine run 400 rfl ?_
      refine at_val (.rp (tr u) 0) (does_index ty_ok _ rfl rfl rfl (by omega) (show (rowsT l)[(i : Int).toNat]? = some (tr u) from hget) rfl) ?_
      refine run 400 rfl ?_
      have hu := ih u hmem (may_kid ht hmem) _ rfl
      cases hmu : madeT O u with
      | true =>
        rw [hmu] at a2 hu
        refine at_callF [0, 1, 2] hu rfl ⟨rfl, rfl, rfl, trivial⟩ rfl rfl rfl ?_
        refine run 400 rfl ?_
        exact at_again (i + 1) ⟨by omega, by simpa using a2⟩ (by omega) ⟨SVle.refl _, SVle.refl _, SVle.refl _, SVle.refl _, SVle.of_eq (by show I ((i : Int) + 1) = I ((i + 1 : Nat) : Int); rw [Int.natCast_add]; rfl), trivial⟩ ⟨rfl, rfl, rfl, trivial⟩
      | false =>
        rw [hmu] at a2 hu
        have : false = b := by simpa using a2
        subst this
        refine at_callF [0, 1, 2] hu rfl ⟨rfl, rfl, rfl, trivial⟩ rfl rfl rfl ?_
        refine run 400 rfl ?_
        exact at_ret rfl rfl (canO O) ⟨rfl, rfl⟩ ⟨rfl, rfl, rfl, trivial⟩

theorem can31_fn (l : List Tm) (t : Tm) (hm : ∀ u ∈ l, mayF u = true) (hl : l.length ≤ 1000000) (ht : mayF t = true) : Gives Try.prog 31 [.lst 4 (rowsT l), t.sv] (.bl (madeT (openM l) t)) := by
  have h63 := open63_fn l hm hl
  have h65 := can65_fn (openM l) (openM_may hm) t ht _ rfl
  have key : Gives Try.prog 31 [.lst 4 (rowsT l), t.sv] (cond (madeT (openM l) t) .tt .ff) := by
    generalize openM l = O at h63 h65
    generalize madeT O t = b at h65
    cases b <;>
    · refine contract_of ty_ok [0, 3, 4, 6, 7] Try.func31 rfl (by decide) Try.ntmps31 rfl fun z => ?_
      refine run 400 rfl ?_
      refine at_callF [5] h63 rfl trivial rfl rfl rfl ?_
      refine run 400 rfl ?_
      refine at_callF [3, 4, 5] h65 rfl ⟨rfl, rfl, rfl, trivial⟩ rfl rfl rfl ?_
      refine run 400 rfl ?_
      exact at_ret rfl rfl [] ⟨rfl, rfl, rfl⟩ trivial
  exact key.le (by cases madeT (openM l) t <;> exact fun _ _ _ h => h) (by cases madeT (openM l) t <;> rfl)
end Go.Proofs.Ytmnmhehddbemkaa
namespace Go.Proofs.Ytmnmhehddbemkaa
open Go Go.Eng

theorem gen_may (ns : List Int) (d : Nat) (hd : d ≤ 4) (j : Int) (hj : 0 ≤ j ∧ j ≤ ns.length) : mayF (genT ns d j).1 = true := by
  obtain ⟨h1, h2⟩ := genT_may ns d j hj
  have h3 := (genT_gd ns d j hj).2
  have : 2 ^ (d + 1) ≤ 2 ^ 5 := Nat.pow_le_pow_right (by omega) (by omega)
  rw [mayF_iff, h1, decide_eq_true (by omega)]
  rfl
theorem genL_may (ns : List Int) : ∀ (n : Nat) (j : Int), 0 ≤ j ∧ j ≤ ns.length → ∀ t ∈ genL ns n j, mayF t = true
  | 0, j, _, t, ht => by simp [genL] at ht
  | n + 1, j, h, t, ht => by
    rw [genL] at ht
    split at ht
    · rcases List.mem_cons.1 ht with e | ht
      · subst e; exact gen_may ns 3 (by omega) j h
      · exact genL_may ns n _ (genT_le ns 3 j h) t ht
    · cases ht

theorem among_congr {O O' : List Tm} (h : ∀ x, x ∈ O ↔ x ∈ O') (t : Tm) : amongF O t = amongF O' t := by
  cases e : amongF O' t with
  | true => exact among_iff.2 ((h t).2 (among_iff.1 e))
  | false =>
    cases e2 : amongF O t with
    | false => rfl
    | true => rw [among_iff.2 ((h t).1 (among_iff.1 e2))] at e; cases e
mutual
theorem made_congr {O O' : List Tm} (h : ∀ x, x ∈ O ↔ x ∈ O') : ∀ t : Tm, madeT O t = madeT O' t
  | .mk k n s l => by rw [madeT, madeT, among_congr h, madeL_congr h l]
theorem madeL_congr {O O' : List Tm} (h : ∀ x, x ∈ O ↔ x ∈ O') : ∀ l : List Tm, madeL O l = madeL O' l
  | [] => rfl
  | t :: l => by rw [madeL, madeL, made_congr h t, madeL_congr h l]
end
theorem made_in {O : List Tm} {t : Tm} (h : t ∈ O) : madeT O t = true := by
  obtain ⟨k, n, s, l⟩ := t
  rw [madeT, among_iff.2 h]
  simp
mutual
/-- What is made of what is made is made. -/
theorem made_tr {O O' : List Tm} (h : ∀ x ∈ O', madeT O x = true) : ∀ t : Tm, madeT O' t = true → madeT O t = true
  | .mk k n s l, hm => by
    have hm0 := hm
    rw [madeT] at hm
    simp only [Bool.or_eq_true, Bool.and_eq_true] at hm
    rcases hm with h1 | h1 | h1
    · rw [madeT, h1]; rfl
    · exact h _ (among_iff.1 h1)
    · rw [madeT, h1.1, madeL_tr h l h1.2]; simp
theorem madeL_tr {O O' : List Tm} (h : ∀ x ∈ O', madeT O x = true) : ∀ l : List Tm, madeL O' l = true → madeL O l = true
  | [], _ => rfl
  | t :: l, hm => by
    rw [madeL, Bool.and_eq_true] at hm
    rw [madeL, made_tr h t hm.1, madeL_tr h l hm.2]
    rfl
end
theorem madeL_mem {O : List Tm} : ∀ {l : List Tm}, madeL O l = true → ∀ t ∈ l, madeT O t = true
  | [], _, t, ht => by cases ht
  | u :: l, h, t, ht => by
    rw [madeL, Bool.and_eq_true] at h
    rcases List.mem_cons.1 ht with e | ht
    · subst e; exact h.1
    · exact madeL_mem h.2 t ht
theorem made_parts {O : List Tm} (hc : ∀ x ∈ O, ∀ p ∈ parts x, p ∈ O) {x : Tm} (hx : madeT O x = true) : ∀ p ∈ parts x, madeT O p = true := by
  intro p hp
  obtain ⟨k, n, s, l⟩ := x
  rw [madeT] at hx
  simp only [Bool.or_eq_true, Bool.and_eq_true] at hx
  rcases hx with h1 | h1 | h1
  · have : k = 1 := by simpa using h1
    subst this
    rw [parts] at hp
    simp at hp
  · exact made_in (hc _ (among_iff.1 h1) p hp)
  · exact madeL_mem h1.2 p (parts_sub hp)
theorem openM_cl (l : List Tm) : ∀ x ∈ openM l, ∀ p ∈ parts x, p ∈ openM l := fun x hx p hp => (openM_P l).cl x hx (by simp) p hp
theorem openM_sub {l m : List Tm} (h : ∀ x ∈ l, x ∈ m) : ∀ x ∈ openM l, x ∈ openM m := fun x hx =>
  ((openM_P l).least (· ∈ openM m) (fun t ht => (openM_P m).has t (h t ht)) (openM_cl m) x hx).elim (by simp) id
theorem made_mono {l m : List Tm} (h : ∀ x ∈ l, x ∈ m) {t : Tm} (ht : madeT (openM l) t = true) : madeT (openM m) t = true :=
  made_tr (fun x hx => made_in (openM_sub h x hx)) t ht
/-- What can be made adds nothing. -/
theorem made_adds {l : List Tm} {u : Tm} (hu : madeT (openM l) u = true) (t : Tm) : madeT (openM (l ++ [u])) t = madeT (openM l) t := by
  cases e : madeT (openM l) t with
  | true => exact made_mono (fun x hx => by simp [hx]) e
  | false =>
    cases e2 : madeT (openM (l ++ [u])) t with
    | false => rfl
    | true =>
      have hall : ∀ x ∈ openM (l ++ [u]), madeT (openM l) x = true := fun x hx =>
        ((openM_P (l ++ [u])).least (fun y => madeT (openM l) y = true) (fun y hy => by
          rcases List.mem_append.1 hy with h | h
          · exact made_in ((openM_P l).has y h)
          · rw [List.mem_singleton] at h; subst h; exact hu) (fun y hy p hp => made_parts (openM_cl l) hy p hp) x hx).elim (by simp) id
      rw [made_tr hall t e2] at e
      cases e
theorem openF_open {l : List Tm} (hm : ∀ u ∈ l, mayF u = true) : openF (openF l) = openF l := by
  have hg : ∀ t ∈ l, Gd t := fun t ht => mayF_gd (hm t ht)
  have hp := openF_P hg
  have hp2 := openF_P hp.gd
  exact ss_ext totT (openF_ss _) (openF_ss _) fun x => ⟨fun hx => hp2.least (· ∈ openF l) (fun y hy => hy) (fun y hy p hpp => hp.closed y hy p hpp) x hx, fun hx => hp2.has x hx⟩
theorem openF_may {l : List Tm} (hm : ∀ u ∈ l, mayF u = true) : ∀ u ∈ openF l, mayF u = true := fun u hu =>
  openM_may hm u ((openM_mem (fun t ht => mayF_gd (hm t ht)) u).2 hu)
theorem szL_may : ∀ {l : List Tm}, (∀ u ∈ l, mayF u = true) → szL l ≤ 64 * l.length
  | [], _ => by simp [szL]
  | t :: l, h => by
    have h1 := h t (by simp)
    rw [mayF_iff, Bool.and_eq_true, decide_eq_true_eq] at h1
    have h2 := szL_may (l := l) fun u hu => h u (by simp [hu])
    rw [szL, List.length_cons]
    omega
theorem may_T1 (k : Int) (u : Tm) (hk : k = 3 ∨ k = 4) (h : allR u = true) (hs : szT u ≤ 63) (hd : dpT u ≤ 15) : mayF (.mk k 0 .empty [u]) = true := by
  rw [mayF_iff, allR, right_k1 k u hk]
  simp [allRL, h, szT, szL, dpT, dpL]
  omega
theorem may_T2 (k : Int) (u v : Tm) (hk : k = 5 ∨ k = 6 ∨ k = 7) (h : allR u = true) (h' : allR v = true) (hs : szT u + szT v ≤ 63) (hd : dpT u ≤ 15) (hd' : dpT v ≤ 15) : mayF (.mk k 0 .empty [u, v]) = true := by
  rw [mayF_iff, allR, right_k2 k u v hk]
  simp [allRL, h, h', szT, szL, dpT, dpL]
  omega
end Go.Proofs.Ytmnmhehddbemkaa
namespace Go.Proofs.Ytmnmhehddbemkaa
open Go Go.Eng

abbrev rsO (L out : List Tm) (c r : Nat) : List (Nat × SO) := [(0, .cells 73 [.lst 4 (rowsT L), .sl 1 0 out.length c]), (1, .buf (rowsT out) r)]
abbrev zSV : SV := .agg [I 0, I 0, .str .empty, .tl 0 []]
theorem at_no_fn (L out : List Tm) (c r : Nat) (n : Int) (h : inF n out.length = false) : Contract Try.prog 86 2 (rsO L out c r) [.ptr 0 0, I n] fun s post => s = .tup [zSV, .ff] ∧ post = rsO L out c r := by
  refine contract_of ty_ok [3, 4, 5, 6, 7] Try.func86 rfl (by decide) Try.ntmps86 rfl fun z => ?_
  refine run 400 rfl ?_
  refine at_split 8 rfl (fun q => ?_) (fun q => ?_)
  · refine run 400 rfl ?_
    exact at_ret rfl rfl (rsO L out c r) ⟨rfl, rfl⟩ ⟨rfl, rfl, trivial⟩
  · refine run 400 rfl ?_
    refine at_ifd rfl (fun q2 => ?_) (fun q2 => ?_)
    · refine run 400 rfl ?_
      exact at_ret rfl rfl (rsO L out c r) ⟨rfl, rfl⟩ ⟨rfl, rfl, trivial⟩
    · exfalso
      simp [inF] at h q
      omega
theorem at_yes_fn (L out : List Tm) (c r : Nat) (n : Int) (h : inF n out.length = true) : Contract Try.prog 86 2 (rsO L out c r) [.ptr 0 0, I n] fun s post => s = .tup [(out.getD n.toNat .zero).sv, .tt] ∧ post = rsO L out c r := by
  have hn := inF_lt h
  have hget := rowsT_get (l := out) (n := n.toNat) (by omega)
  generalize out.getD n.toNat .zero = u at hget
  refine contract_of ty_ok [3, 4, 5, 6, 7] Try.func86 rfl (by decide) Try.ntmps86 rfl fun z => ?_
  refine run 400 rfl ?_
  refine at_false 8 rfl (by simp; omega) ?_
  refine run 400 rfl ?_
  refine at_ifd rfl (fun q2 => ?_) (fun q2 => ?_)
  · omega
  · refine run 400 rfl ?_
    refine at_val (.ptr 1 (0 + n.toNat * 4)) (does_indexS ty_ok rfl rfl rfl hn rfl) ?_
    refine at_val u.sv (does_loadB ty_ok rfl rfl rfl rfl rfl (Nat.zero_add _) rowsT_sz hget) ?_
    refine run 400 rfl ?_
    exact at_ret rfl rfl (rsO L out c r) ⟨rfl, rfl⟩ ⟨rfl, rfl, trivial⟩

/-- One move, by the document, ahead of the question whether the result may be. -/
def oneF (l res : List Tm) (m : Mv) : Option Tm × Int :=
  match readF m with
  | none => (none, 2)
  | some s => if nearF s res.length l.length then (match stepT l res s with
    | some t => (some t, 0)
    | none => (none, 3)) else (none, 8)
abbrev oneS (r : Option Tm × Int) : SV := match r with
  | (some t, e) => .tup [t.sv, I e]
  | (none, e) => .tup [zSV, I e]
end Go.Proofs.Ytmnmhehddbemkaa
