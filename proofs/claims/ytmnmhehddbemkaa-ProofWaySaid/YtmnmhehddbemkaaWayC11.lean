/- The texts Float, W8d, W8e, W8f, one behind the other: an executor over the translated code, contracts of functions, and their laws. -/

import Derived.Test.YtmnmhehddbemkaaWayC10
/- The proof engine: a call in the midst of what only reckons, in whatever order. -/
namespace Go.Eng

/-- A region's front part, in whatever order, by any family of states. -/
theorem wpAny_J (E : Stc) (ops : Array Oper) (pre suf : List Oper) (s : List Fr) (J : (Nat → Bool) → Act → World → Prop)
    (hops : ops.toList = pre ++ suf) (hsuf : barOk pre.length (pre ++ suf) = true) (hah : aheadOk 0 (pre ++ suf) = true)
    (hJ : ∀ sel sel' a w, (∀ i, i < pre.length → sel i = sel' i) → J sel a w → J sel' a w)
    (cert : ∀ i o, pre[i]? = some o → ∀ sel : Nat → Bool, sel i = false → (∀ j, behind o j = true → sel j = true) → (∀ j oj k, pre[j]? = some oj → sel j = true → behind oj k = true → sel k = true) →
      ∀ a w, J sel a w → wpOp E.P ops (KK E s) i (fun a' w' => J (add sel i) a' w') a w)
    (hK : ∀ (fuel : Nat) (listed : Array Bool) (a : Act) (w : World), listed.size = ops.size → (∀ i, i < pre.length → listed.getD i false = true) → (∀ i, pre.length ≤ i → listed.getD i false = false) → ops.size - pre.length ≤ fuel → J (fun _ => true) a w → wpAny E.P .any ops (KK E s) fuel listed a w) :
    ∀ (fuel : Nat) (listed : Array Bool) (a : Act) (w : World), listed.size = ops.size →
      (∃ i, i < pre.length ∧ listed.getD i false = false) → (∀ i, pre.length ≤ i → listed.getD i false = false) →
          (∀ j oj k, pre[j]? = some oj → listed.getD j false = true → behind oj k = true → listed.getD k false = true) →
          (listed.toList.filter (!·)).length ≤ fuel → J (fun i => listed.getD i false) a w →
      wpAny E.P .any ops (KK E s) fuel listed a w := by
  have hget : ∀ i : Nat, ops[i]? = (pre ++ suf)[i]? := fun i => by rw [← hops]; simp
  have hsize : ops.size = pre.length + suf.length := by rw [← Array.length_toList, hops, List.length_append]
  have hd : ∀ (listed : Array Bool) (i : Nat), listed.size = ops.size → i < ops.size → listed.getD i true = listed.getD i false := by
    intro listed i h1 h2
    simp [h1, h2]
  intro fuel
  induction fuel with
  | zero =>
    intro listed a w hls ⟨i, hi, hli⟩ _ _ hf _
    · exfalso
      have hil : i < listed.size := by omega
      have : false ∈ listed.toList := by
        have e : listed.getD i false = listed[i] := by simp [hil]
        rw [e] at hli
        rw [← hli]
        exact Array.mem_toList_iff.2 (Array.getElem_mem hil)
      have hm : false ∈ listed.toList.filter (!·) := List.mem_filter.2 ⟨this, rfl⟩
      have := List.length_pos_of_mem hm
      omega
  | succ fuel ih =>
    intro listed a w hls ⟨i, hi, hli⟩ hsf hcl hf hat
    · -- the first phase
      -- the least that is left may come
      have hleast : ∃ m, m < pre.length ∧ listed.getD m false = false ∧ ∀ j, j < m → listed.getD j false = true := by
        have : ∀ n, n ≤ pre.length → (∀ j, j < n → listed.getD j false = true) ∨ ∃ m, m < n ∧ listed.getD m false = false ∧ ∀ j, j < m → listed.getD j false = true := by
          intro n
          induction n with
          | zero => intro _; exact .inl fun j hj => absurd hj (Nat.not_lt_zero j)
          | succ n ihn =>
            intro hn
            rcases ihn (by omega) with h | ⟨m, hm, h1, h2⟩
            · cases hc : listed.getD n false with
              | true =>
                refine .inl fun j hj => ?_
                rcases Nat.lt_or_ge j n with h' | h'
                · exact h j h'
                · have : j = n := by omega
                  subst this
                  exact hc
              | false => exact .inr ⟨n, by omega, hc, h⟩
            · exact .inr ⟨m, by omega, h1, h2⟩
        rcases this pre.length (Nat.le_refl _) with h | ⟨m, hm, h1, h2⟩
        · rw [h i hi] at hli; cases hli
        · exact ⟨m, hm, h1, h2⟩
      obtain ⟨m, hm, hlm, hbm⟩ := hleast
      have hom : ops[m]? = some pre[m] := by
        rw [hget, List.getElem?_append_left hm]
        exact List.getElem?_eq_getElem hm
      have hmr : m ∈ Region.ready .any ops listed := by
        refine ready_iff.2 ⟨by rw [hd listed m hls (by omega)]; exact hlm, pre[m], hom, fun j hj => hbm j ?_⟩
        have := aheadOk_spec (pre ++ suf) 0 m pre[m] hah (by rw [← hget]; exact hom) j hj
        omega
      refine ⟨fun h0 => (by rw [h0] at hmr; cases hmr), fun j hj => ?_⟩
      obtain ⟨hj1, o, ho, hb⟩ := ready_iff.1 hj
      have hjl : j < ops.size := (Array.getElem?_eq_some_iff.1 ho).1
      rw [hd listed j hls hjl] at hj1
      have hjp : j < pre.length := by
        rcases Nat.lt_or_ge j pre.length with h | h
        · exact h
        · exfalso
          have hoj0 : (pre ++ suf)[j]? = some o := by rw [← hget]; exact ho
          have := reach_listed (get := fun i => (pre ++ suf)[i]?) (L := fun i => listed.getD i false) (fun i o k' hi hL hb' => by
            rcases Nat.lt_or_ge i pre.length with h' | h'
            · rw [List.getElem?_append_left h'] at hi
              exact hcl i o k' hi hL hb'
            · simp only [hsf i h'] at hL
              cases hL) (barOk_spec hsuf hoj0 h hm) (fun o' ho' k' hk' => by
            rw [hoj0] at ho'
            cases ho'
            exact hb k' hk')
          simp only [hlm] at this
          cases this
      have hoj : pre[j]? = some o := by
        rw [hget, List.getElem?_append_left hjp] at ho
        exact ho
      have hc := cert j o hoj (fun i => listed.getD i false) hj1 hb hcl a w hat
      refine wpOp_mono (fun a' w' hat' => ?_) hc
      have hsel : ∀ i, i < pre.length → (listed.setIfInBounds j true).getD i false = add (fun i => listed.getD i false) j i := by
        intro i hip
        by_cases e : i = j
        · subst e
          have : i < listed.size := by omega
          simp [this, add]
        · rw [getD_set_ne false (Ne.symm e)]
          have : Nat.beq i j = false := by
            cases hb : Nat.beq i j with
            | false => rfl
            | true => exact absurd (beq_true hb) e
          simp [add, this]
      have hat2 : J (fun i => (listed.setIfInBounds j true).getD i false) a' w' := hJ _ _ a' w' (fun i hi => (hsel i hi).symm) hat'
      have hcount : ((listed.setIfInBounds j true).toList.filter (!·)).length ≤ fuel := by
        have hjls : j < listed.toList.length := by simpa using (by omega : j < listed.size)
        have e1 : (listed.setIfInBounds j true).toList = listed.toList.set j true := by simp
        have e2 : listed.toList = listed.toList.take j ++ listed.toList[j] :: listed.toList.drop (j + 1) := by
          rw [← List.drop_eq_getElem_cons hjls, List.take_append_drop]
        have e3 : listed.toList.set j true = listed.toList.take j ++ true :: listed.toList.drop (j + 1) := List.set_eq_take_append_cons_drop.trans (if_pos hjls)
        have e4 : listed.toList[j] = false := by
          have : listed.getD j false = listed[j]'(by omega) := by simp [show j < listed.size by omega]
          rw [this] at hj1
          simpa using hj1
        rw [e1, e3]
        rw [e2, e4] at hf
        simp only [List.filter_append, List.filter_cons, List.length_append] at hf ⊢
        simp at hf ⊢
        omega
      by_cases hall : ∃ i, i < pre.length ∧ (listed.setIfInBounds j true).getD i false = false
      · refine ih _ a' w' (by simpa using hls) hall (fun i hi => by rw [getD_set_ne false (by omega)]; exact hsf i hi) (fun i oi k hoi hli hk => ?_) hcount hat2
        by_cases e : i = j
        · subst e
          rw [hoj] at hoi
          cases hoi
          exact getD_set_true (hb k hk)
        · rw [getD_set_ne false (Ne.symm e)] at hli
          exact getD_set_true (hcl i oi k hoi hli hk)
      · have hle : ops.size - pre.length ≤ fuel := by
          have hle : suf.length ≤ ((listed.setIfInBounds j true).toList.filter (!·)).length := by
            have e5 : (listed.setIfInBounds j true).toList.drop pre.length = List.replicate suf.length false := by
              apply List.ext_getElem?
              intro i
              rw [List.getElem?_drop, List.getElem?_replicate]
              by_cases hi : i < suf.length
              · rw [if_pos hi]
                have hlt : pre.length + i < (listed.setIfInBounds j true).size := by simp; omega
                have : (listed.setIfInBounds j true).getD (pre.length + i) false = false := by
                  rw [getD_set_ne false (by omega)]; exact hsf _ (by omega)
                rw [Array.getElem?_toList, Array.getElem?_eq_getElem hlt]
                have e6 : (listed.setIfInBounds j true).getD (pre.length + i) false = (listed.setIfInBounds j true)[pre.length + i] := by
                  rw [Array.getD_eq_getD_getElem?, Array.getElem?_eq_getElem hlt]; rfl
                rw [← e6, this]
              · rw [if_neg hi]
                apply List.getElem?_eq_none
                simp
                omega
            have e7 : ((listed.setIfInBounds j true).toList.filter (!·)).length = (((listed.setIfInBounds j true).toList.take pre.length).filter (!·)).length + (((listed.setIfInBounds j true).toList.drop pre.length).filter (!·)).length := by
              rw [← List.length_append, ← List.filter_append, List.take_append_drop]
            rw [e7, e5]
            simp
          omega
        have htrue : ∀ i, i < pre.length → (listed.setIfInBounds j true).getD i false = true := fun i hi => by
          cases hc : (listed.setIfInBounds j true).getD i false with
          | true => rfl
          | false => exact absurd ⟨i, hi, hc⟩ hall
        refine hK fuel _ a' w' (by simpa using hls) htrue (fun i hi => by rw [getD_set_ne false (by omega)]; exact hsf i hi) hle ?_
        exact hJ _ _ a' w' (fun i hi => htrue i hi) hat2

/-- Parts that only reckon. -/
def pureP (ps : List PE) : Bool := ps.all fun p => p.new.isEmpty && (p.eats.isNone && p.til.isNone)
theorem pureP_spec {ps : List PE} (h : pureP ps = true) {p : PE} (hp : p ∈ ps) : p.new = [] ∧ p.eats = none ∧ p.til = none := by
  have := List.all_eq_true.1 h p hp
  simp only [Bool.and_eq_true, List.isEmpty_iff, Option.isNone_iff_eq_none] at this
  exact this
theorem pureP_cons {p : PE} {ps : List PE} (h : pureP (p :: ps) = true) : (p.new = [] ∧ p.eats = none ∧ p.til = none) ∧ pureP ps = true :=
  ⟨pureP_spec h (by simp), by unfold pureP at h ⊢; rw [List.all_cons, Bool.and_eq_true] at h; exact h.2⟩
theorem ownOf_pure {sel : Nat → Bool} : ∀ {ps : List PE} (i : Nat) (own : List (Nat × SO)), pureP ps = true → ownOf sel i ps own = own
  | [], _, _, _ => rfl
  | p :: ps, i, own, h => by
    obtain ⟨⟨h1, h2, h3⟩, h4⟩ := pureP_cons h
    simp only [ownOf, h1, h2, eatO]
    rw [ownOf_pure (i + 1) _ h4]
    cases sel i <;> cases tilOk sel p.til <;> rfl
theorem pure_newOk {own : List (Nat × SO)} : ∀ {ps : List PE} (i : Nat), pureP ps = true → newOkI own i ps = true
  | [], _, _ => rfl
  | p :: ps, i, h => by
    obtain ⟨⟨h1, _, _⟩, h4⟩ := pureP_cons h
    simp only [newOkI, h1, List.all_nil, cond_true]
    exact pure_newOk (i + 1) h4
theorem pure_disO {own : List (Nat × SO)} {ps : List PE} (h : pureP ps = true) : disO own ps = true :=
  List.all_eq_true.2 fun p hp => by
    obtain ⟨h1, h2, _⟩ := pureP_spec h hp
    rw [h1, h2]
    rfl
theorem pure_eatOk {own : List (Nat × SO)} {ps : List PE} (h : pureP ps = true) : eatOk own ps = true :=
  List.all_eq_true.2 fun p hp => by
    obtain ⟨_, h2, _⟩ := pureP_spec h hp
    rw [h2]
theorem pure_eatU : ∀ {ps : List PE}, pureP ps = true → eatU ps = true
  | [], _ => rfl
  | p :: ps, h => by
    obtain ⟨⟨_, h2, _⟩, h4⟩ := pureP_cons h
    simp only [eatU, h2, pure_eatU h4, Bool.and_self]
theorem pure_freshP {m0 : Nat} {pre : List Oper} {plan : List PE} {env0 : List (Nat × SV)} {own0 : List (Nat × SO)} : ∀ {ps : List PE} (i : Nat), pureP ps = true → freshP m0 pre plan env0 own0 i ps = true
  | [], _, _ => rfl
  | p :: ps, i, h => by
    obtain ⟨⟨h1, _, _⟩, h4⟩ := pureP_cons h
    have : freshOne m0 pre plan env0 own0 i p = true := by
      unfold freshOne
      rw [h1]
      cases p.wr <;> rfl
    simp only [freshP, this, cond_true]
    exact pure_freshP (i + 1) h4

def planF (P : Program) (T : Nat → TI) (m0 n : Nat) (all pre : List Oper) (ans : List (Nat × Ans)) (env0 : List (Nat × SV)) (own0 : List (Nat × SO)) (st : List Nat) : PlanR :=
  bif dstsOk pre then
    bif aheadOk 0 all then
      rmOK st own0 fun ownR => planK P T m0 n all pre ans env0 ownR own0 0 pre [] [] [] fun ps ob => bif pureP ps then .ok ps env0 own0 ob else .stuck 106
    else .stuck 102
  else .stuck 100

theorem planF_cert {E : Stc} {ops : Array Oper} {s : List Fr} {pre suf : List Oper} {ans : List (Nat × Ans)} {env env' : List (Nat × SV)} {own own' : List (Nat × SO)} {st : List Nat} {ps : List PE} {ob : List Prop} (hops : ops.toList = pre ++ suf)
    (h : planF E.P E.T E.cx.m0 E.n ops.toList pre ans env own st = .ok ps env' own' ob) (ho : All ob) : dstsOk pre = true ∧ aheadOk 0 ops.toList = true ∧ pureP ps = true ∧ ps.length = pre.length ∧ ∀ i o p, pre[i]? = some o → ps[i]? = some p → Cert E ops pre ps env own s i o p := by
  unfold planF at h
  cases h1 : dstsOk pre with
  | false => simp [h1] at h
  | true =>
    cases h3 : aheadOk 0 ops.toList with
    | false => simp [h1, h3] at h
    | true =>
      simp only [h1, h3, cond_true, rmOK_eq] at h
      have key := planK_sound E ops.toList pre ans env (rmO st own) own _ ps env' own' ob (pureP ps = true) (fun qs ob1 hq ha => by
        cases h4 : pureP qs with
        | false => rw [h4] at hq; cases hq
        | true =>
          simp only [h4, cond_true, PlanR.ok.injEq] at hq
          obtain ⟨e1, _, _, e4⟩ := hq
          subst e1; subst e4
          exact ⟨rfl, ha, h4⟩) pre 0 [] [] [] rfl h ho
      obtain ⟨_, _, hlen, hlocs, hp⟩ := key
      rw [Nat.zero_add] at hlen
      refine ⟨rfl, rfl, hp, hlen, fun i o p hio hip => ?_⟩
      obtain ⟨hd, p', hp', hl⟩ := locs_get pre 0 i o hlocs hio
      rw [Nat.zero_add] at hp' hl
      rw [hip] at hp'
      cases hp'
      exact cert_of_loc hops hlen (fun k o h => rmO_own h) (pure_disO hp) (pure_newOk 0 hp) (pure_eatOk hp) (pure_eatU hp) (by rw [← hops]; exact h3) (pure_freshP 0 hp) (fun i p j hi hj => by
        rw [(pureP_spec hp (List.mem_of_getElem? hi)).2.2] at hj
        cases hj) hio hip hd hl

theorem leE_none (env : List (Nat × SV)) : ∀ (l : List Oper) (q : List PE) (i : Nat), leE env (envOf (fun _ => false) i l q env)
  | [], q, i => by intro t; simp only [envOf]; exact SVle.refl _
  | o :: os, [], i => by intro t; simp only [envOf, nth_put]; split; exact SVle.any _; exact leE_none env os [] (i + 1) t
  | o :: os, p :: q, i => by intro t; simp only [envOf, nth_put]; split; exact SVle.any _; exact leE_none env os q (i + 1) t

/-- A call in the midst of what only reckons. -/
theorem at_float {E : Stc} {ops : Array Oper} {s : List Fr} {env env1 : List (Nat × SV)} {own own1 : List (Nat × SO)} {ob1 : List Prop} {ps : List PE} (nx : List Nat) {all pre0 suf : List Oper} {oc : Oper} (c : Nat) {α : Type} (φ : α → Prop) (σ : α → List (Nat × SV)) (τ : α → List (Nat × SO)) (st : List Nat)
    (hall : ops.toList = all) (hs0 : splitK c all Prod.mk = (pre0, oc :: suf)) (hc0 : pre0.length = c) (hbar : barOk (c + 1) all = true)
    (ans : List (Nat × Ans)) (h1 : planF E.P E.T E.cx.m0 E.n all pre0 ans env own st = .ok ps env1 own1 ob1) (ho1 : All ob1)
    (h2 : ∀ y, φ y → ∃ env2 own2 ob2, planF E.P E.T E.cx.m0 E.n all pre0 ans (σ y) (τ y) st = .ok ps env2 own2 ob2 ∧ All ob2)
    (hcall : ∀ bs : List Bool, bs.length = c → (∀ j, behind oc j = true → bs.getD j false = true) → Sat E (.ops all [oc]) (.lp (Joined φ (fun y => envOf (fun i => bs.getD i false) 0 pre0 ps (σ y)) τ) :: s) (envOf (fun i => bs.getD i false) 0 pre0 ps env) own nx)
    (k : ∀ y, φ y → SatA E ops (c + 1) s (envOf (fun _ => true) 0 pre0 ps (σ y)) (τ y)) : SatA E ops 0 s env own := by
  subst hall
  have hsp := splitK_pair hs0
  have hsp' : ops.toList = (pre0 ++ [oc]) ++ suf := by rw [hsp]; simp
  obtain ⟨hd1, hah, hpu, hlen, hcert⟩ := planF_cert (s := s) hsp h1 ho1
  have hprel : (pre0 ++ [oc]).length = c + 1 := by simp [hc0]
  have hsz : ops.size = c + 1 + suf.length := by rw [← Array.length_toList, hsp', List.length_append, hprel]
  have hget : ∀ i : Nat, ops[i]? = ops.toList[i]? := fun i => by simp
  let J : (Nat → Bool) → Act → World → Prop := fun sel a w => bif sel c then ∃ y, φ y ∧ At E (envOf sel 0 pre0 ps (σ y)) (τ y) a w else At E (envOf sel 0 pre0 ps env) own a w
  have hJ : ∀ sel sel' a w, (∀ i, i < c + 1 → sel i = sel' i) → J sel a w → J sel' a w := by
    intro sel sel' a w h hj
    have hc : ∀ env0, envOf sel 0 pre0 ps env0 = envOf sel' 0 pre0 ps env0 := fun env0 => envOf_congr pre0 ps 0 env0 fun j _ hj => h j (by omega)
    show bif sel' c then _ else _
    have hj : bif sel c then ∃ y, φ y ∧ At E (envOf sel 0 pre0 ps (σ y)) (τ y) a w else At E (envOf sel 0 pre0 ps env) own a w := hj
    rw [h c (by omega)] at hj
    cases hs : sel' c with
    | true =>
      rw [hs, cond_true] at hj
      obtain ⟨y, hy, hat⟩ := hj
      rw [cond_true]
      exact ⟨y, hy, by rw [← hc]; exact hat⟩
    | false =>
      rw [hs, cond_false] at hj
      rw [cond_false, ← hc]
      exact hj
  intro fuel listed a w hls _ hl2 hfu hat
  refine wpAny_J E ops (pre0 ++ [oc]) suf s J hsp' (by rw [hprel, ← hsp']; exact hbar) (by rw [← hsp']; exact hah) (by rw [hprel]; exact hJ) (fun i o hio sel hi hbeh hcl a w hj => ?_) (fun fuel listed a w q1 q2 q3 q4 hj => ?_) fuel listed a w hls ⟨0, by rw [hprel]; omega, hl2 0 (Nat.zero_le _)⟩ (fun i _ => hl2 i (Nat.zero_le _)) (fun j oj k _ hj => by rw [hl2 j (Nat.zero_le _)] at hj; cases hj) ?_ ?_
  · -- one operation
    have hcl0 : ∀ j oj k, pre0[j]? = some oj → sel j = true → behind oj k = true → sel k = true := fun j oj k hoj => hcl j oj k (by rw [List.getElem?_append_left (List.getElem?_eq_some_iff.1 hoj).1]; exact hoj)
    by_cases hic : i < c
    · have hio' : pre0[i]? = some o := by rw [List.getElem?_append_left (by omega)] at hio; exact hio
      have hpi : ps[i]? = some (ps[i]'(by omega)) := List.getElem?_eq_getElem _
      have hadd : add sel i c = sel c := add_ne (by omega)
      have hj : bif sel c then ∃ y, φ y ∧ At E (envOf sel 0 pre0 ps (σ y)) (τ y) a w else At E (envOf sel 0 pre0 ps env) own a w := hj
      have step : ∀ env0 own0, Cert E ops pre0 ps env0 own0 s i o (ps[i]'(by omega)) → At E (envOf sel 0 pre0 ps env0) own0 a w → wpOp E.P ops (KK E s) i (fun a' w' => At E (envOf (add sel i) 0 pre0 ps env0) own0 a' w') a w := by
        intro env0 own0 hc hat
        refine wpOp_mono (fun a' w' hat' => ?_) (hc sel hi hbeh hcl0 a w (by rw [ownOf_pure 0 own0 hpu]; exact hat))
        rw [ownOf_pure 0 own0 hpu] at hat'
        refine at_le hat' ?_ fun _ _ h => h
        have := envOf_add (sel := sel) pre0 ps 0 i env0 o _ hd1 hio' hpi
        rw [Nat.zero_add] at this
        exact this
      cases hs : sel c with
      | true =>
        rw [hs, cond_true] at hj
        obtain ⟨y, hy, hat⟩ := hj
        obtain ⟨env2, own2, ob2, h3, ho2⟩ := h2 y hy
        obtain ⟨_, _, _, _, hcert2⟩ := planF_cert (s := s) hsp h3 ho2
        refine wpOp_mono (fun a' w' hat' => ?_) (step _ _ (hcert2 i o _ hio' hpi) hat)
        show bif add sel i c then _ else _
        rw [hadd, hs, cond_true]
        exact ⟨y, hy, hat'⟩
      | false =>
        rw [hs, cond_false] at hj
        refine wpOp_mono (fun a' w' hat' => ?_) (step _ _ (hcert i o _ hio' hpi) hj)
        show bif add sel i c then _ else _
        rw [hadd, hs, cond_false]
        exact hat'
    · have hlt := (List.getElem?_eq_some_iff.1 hio).1
      obtain rfl : i = c := by omega
      have ho : o = oc := by
        rw [List.getElem?_append_right (by omega), hc0, Nat.sub_self] at hio
        simpa using hio.symm
      subst ho
      have hj : bif sel i then ∃ y, φ y ∧ At E (envOf sel 0 pre0 ps (σ y)) (τ y) a w else At E (envOf sel 0 pre0 ps env) own a w := hj
      rw [hi, cond_false] at hj
      have hbs : ∀ j, j < i → ((List.range i).map sel).getD j false = sel j := fun j hj => by
        rw [List.getD_eq_getElem?_getD, List.getElem?_map, List.getElem?_range hj]
        rfl
      have hcg : ∀ env0, envOf sel 0 pre0 ps env0 = envOf (fun j => ((List.range i).map sel).getD j false) 0 pre0 ps env0 := fun env0 => envOf_congr pre0 ps 0 env0 fun j _ hj => (hbs j (by omega)).symm
      have hop : ops[i]? = some o := by
        rw [hget, hsp, List.getElem?_append_right (by omega), hc0, Nat.sub_self]
        rfl
      have hw := hcall ((List.range i).map sel) (by simp) (fun j hb => by
        have hlt' := aheadOk_spec ops.toList 0 i o hah (by rw [← hget]; exact hop) j hb
        rw [hbs j (by omega)]
        exact hbeh j hb) a w (by rw [← hcg]; exact hj)
      have key : ∀ a w, KK E (.lp (Joined φ (fun y => envOf (fun j => ((List.range i).map sel).getD j false) 0 pre0 ps (σ y)) τ) :: s) .normal a w → J (add sel i) a w := by
        rintro a w ⟨env1, own1, ⟨y, hy, he, ho⟩, hat1⟩
        show bif add sel i i then _ else _
        have : add sel i i = true := by simp [add]
        rw [this, cond_true]
        refine ⟨y, hy, ?_⟩
        rw [envOf_congr (sel' := sel) pre0 ps 0 (σ y) fun j _ hj => add_ne (by omega), hcg]
        exact at_sub hat1 he ho
      unfold wpOp
      rw [hop]
      simp only
      unfold wpList at hw
      rw [Array.toArray_toList] at hw
      split
      · rename_i hwant
        rw [if_pos hwant] at hw
        exact hw.imp (wp_then key) (fun h => ⟨h.1, letsOut_then h.2⟩)
      · rename_i hwant
        rw [if_neg hwant] at hw
        exact key _ _ hw
  · obtain ⟨y, hy, hat⟩ := (hj : ∃ y, φ y ∧ At E (envOf (fun _ => true) 0 pre0 ps (σ y)) (τ y) a w)
    exact k y hy fuel listed a w q1 (by rw [← hprel]; exact q2) (by rw [← hprel]; exact q3) (by rw [← hprel]; exact q4) hat
  · refine Nat.le_trans (List.length_filter_le _ _) ?_
    rw [Array.length_toList, hls]
    omega
  · show bif listed.getD c false then _ else _
    rw [hl2 c (Nat.zero_le _), cond_false]
    rw [envOf_congr (sel' := fun _ => false) pre0 ps 0 env fun j _ _ => hl2 j (Nat.zero_le _)]
    exact at_le hat (leE_none env pre0 ps 0) fun _ _ h => h
end Go.Eng
namespace Go.Proofs.Ytmnmhehddbemkaa
open Go Go.Eng Go.MapKept
set_option maxRecDepth 100000

theorem nodup_get {l : List Tm} (h : l.Nodup) {i j : Nat} {t : Tm} (hi : l[i]? = some t) (hj : l[j]? = some t) : i = j := by
  obtain ⟨h1, h2⟩ := List.getElem?_eq_some_iff.1 hi
  obtain ⟨h3, h4⟩ := List.getElem?_eq_some_iff.1 hj
  rcases Nat.lt_trichotomy i j with hlt | e | hlt
  · exact absurd (h2.trans h4.symm) (List.pairwise_iff_getElem.1 h i j h1 h3 hlt)
  · exact e
  · exact absurd (h4.trans h2.symm) (List.pairwise_iff_getElem.1 h j i h3 h1 hlt)

theorem PvP.found {l : List Tm} {F : FE} {t : Tm} {R : List Tm} {M : List Mv} {i : Nat} (hI : RInv l F R M) (h : R[i]? = some t) : PvP l F t R i R M :=
  ⟨hI, ⟨[], by simp, fun _ _ x hx => (List.not_mem_nil hx).elim, fun _ x hx => (List.not_mem_nil hx).elim⟩, h, by omega, fun hn => absurd (List.mem_of_getElem? h) hn⟩
theorem at_last {R : List Tm} {t : Tm} : (R ++ [t])[R.length]? = some t := by
  rw [List.getElem?_append_right (Nat.le_refl _), Nat.sub_self]; rfl
/-- A new one, that was made. -/
theorem PvP.made {l : List Tm} {F : FE} {t : Tm} {R R' : List Tm} {M' : List Mv} {m : Mv} (hn : t ∉ keysF F) (h : MkP l F t R m R' M') : PvP l F t R R'.length (R' ++ [t]) (M' ++ [m]) := by
  obtain ⟨S, hS, hB⟩ := h.ext
  refine ⟨h.inv.add h.step, ⟨S ++ [t], by rw [hS, List.append_assoc], fun i hi => absurd (List.mem_of_getElem? hi) hn, fun _ x hx => ?_⟩, at_last, ?_, fun _ => by simp⟩
  · rcases List.mem_append.1 hx with hx | hx
    · exact (hB x hx).imp id fun h => by omega
    · rw [List.mem_singleton] at hx; subst hx; exact .inr (Nat.le_refl _)
  · have h1 := h.cost
    have h2 := phi_mono F R' [t]
    have h3 : costF F t = szT t := by
      unfold costF
      rw [if_neg (fun e => hn (among_iff.1 e))]
    have h4 : szT t = 1 + szL t.kids := by cases t; rw [szT]
    rw [List.length_append]
    simp only [List.length_singleton]
    omega
theorem made_new {l : List Tm} {F : FE} {t : Tm} {R R' : List Tm} {M' : List Mv} {m : Mv} (hn : t ∉ keysF F) (hr : t ∉ R) (h : MkP l F t R m R' M') : t ∉ R' := by
  obtain ⟨S, hS, hB⟩ := h.ext
  intro hm
  rw [hS] at hm
  rcases List.mem_append.1 hm with hm | hm
  · exact hr hm
  · rcases hB t hm with h | h
    · exact hn h
    · omega
theorem costF_in {F : FE} {t : Tm} (h : t ∈ keysF F) : costF F t = 0 := by
  unfold costF
  rw [if_pos (among_iff.2 h)]
/-- A new one, that was there. -/
theorem PvP.given {l : List Tm} {F : FE} {t : Tm} {R : List Tm} {M : List Mv} {i : Nat} {m : Mv} (hi : (keysF F)[i]? = some t) (hr : t ∉ R) (hI : RInv l F R M) (hs : StepOk l R m t) : PvP l F t R R.length (R ++ [t]) (M ++ [m]) := by
  have hk := List.mem_of_getElem? hi
  refine ⟨hI.add hs, ⟨[t], rfl, fun i' hi' x hx => ⟨i', Nat.le_refl _, by rw [List.mem_singleton] at hx; subst hx; exact hi'⟩, fun h => absurd hk h⟩, at_last, ?_, fun _ => by simp⟩
  have h2 := phi_add hk hr
  rw [List.length_append]
  simp only [List.length_singleton]
  omega
/-- A new one, that came out of another one. -/
theorem half_new {l : List Tm} {F : FE} {t f : Tm} {R R' : List Tm} {M' : List Mv} {i j a : Nat} (hF : FInv l F) (hi : (keysF F)[i]? = some t) (hj : (keysF F)[j]? = some f) (hlt : j < i) (hr : t ∉ R) (h : PvP l F f R a R' M') : t ∉ R' := by
  obtain ⟨S, hS, hB, _⟩ := h.ext
  intro hm
  rw [hS] at hm
  rcases List.mem_append.1 hm with hm | hm
  · exact hr hm
  · obtain ⟨k, hk1, hk2⟩ := hB j hj t hm
    have := nodup_get hF.2 hi hk2
    omega
theorem PvP.half {l : List Tm} {F : FE} {t f : Tm} {R R' : List Tm} {M' : List Mv} {i j a : Nat} {m : Mv} (hF : FInv l F) (hi : (keysF F)[i]? = some t) (hj : (keysF F)[j]? = some f) (hlt : j < i) (hr : t ∉ R) (h : PvP l F f R a R' M') (hs : StepOk l R' m t) : PvP l F t R R'.length (R' ++ [t]) (M' ++ [m]) := by
  have hn := half_new hF hi hj hlt hr h
  have hk := List.mem_of_getElem? hi
  obtain ⟨S, hS, hB, _⟩ := h.ext
  refine ⟨h.inv.add hs, ⟨S ++ [t], by rw [hS, List.append_assoc], fun i' hi' x hx => ?_, fun h => absurd hk h⟩, at_last, ?_, fun _ => by simp⟩
  · have e := nodup_get hF.2 hi hi'
    subst e
    rcases List.mem_append.1 hx with hx | hx
    · obtain ⟨k, hk1, hk2⟩ := hB j hj x hx
      exact ⟨k, by omega, hk2⟩
    · rw [List.mem_singleton] at hx; subst hx; exact ⟨i, Nat.le_refl _, hi⟩
  · have h1 := h.cost
    rw [costF_in (List.mem_of_getElem? hj)] at h1
    have h2 := phi_add hk hn
    rw [List.length_append]
    simp only [List.length_singleton]
    omega
theorem keysF_at {F : FE} {i : Nat} {t : Tm} (h : (keysF F)[i]? = some t) : ∃ m f, F[i]? = some (t, m, f) := by
  rw [List.getElem?_map] at h
  cases hF : F[i]? with
  | none => rw [hF] at h; cases h
  | some e =>
    rw [hF] at h
    obtain ⟨t', m, f⟩ := e
    have h : t' = t := by simpa using h
    subst h
    exact ⟨m, f, rfl⟩

theorem doesW_storeE {P : Program} {env : List (Nat × SV)} {own : List (Nat × SO)} {o : Oper} {t k off ty : Nat} {x y : Operand} {cs new cs' : List SV} (ho : o.op = .store t x y) (hx : ev env x = .ptr k off)
    (hy : cellsOf (ev env y) = some new) (hs : (tiOf P t).kd ≠ .other) (hl : new.length = (tiOf P t).size) (hf : off + new.length ≤ cs.length) (hcs : cs' = splice new off cs) : DoesW P o env own k ty cs cs' := by
  subst hcs
  exact doesW_store ho hx hy hs hl hf

theorem proves62_fn (l : List Tm) (F : FE) (hF : FInv l F) : ∀ (n : Nat) (t : Tm), Far F n t → mayF t = true → madeT (keysF F) t = true → PvC l F t
  | 0, t, h, _, _ => by
    rcases h with ⟨i, _, h⟩ | ⟨_, h⟩
    · omega
    · have := szT_pos t; omega
  | n + 1, t, hfar, ht, hmd => by
    intro R M hI hb
    have hg := mayF_gd ht
    have hK := key87_fn t ht (may_enc ht)
    refine contract_of ty_ok [5, 6, 7, 8, 9, 10, 11, 12] Try.func62 rfl (by decide) Try.ntmps62 rfl fun z => ?_
    refine run 400 rfl ?_
    refine at_renameC 0 3 4 4 2 rfl rfl rfl rfl ?_
    by_cases hR : t ∈ R
    · obtain ⟨i, hi⟩ := List.mem_iff_getElem?.1 hR
      refine at_drawn 11 rfl rfl [(5, .sv (.str (keyT t))), (6, .val (.tup [I i, .tt]))] [20, 21, 22] rfl ⟨does_lookY _ Try.underlying78 Try.underlying9 rfl rfl rfl rfl trivial (entsA_yes hi), hK⟩ ?_
      refine run 400 rfl ?_
      exact at_ret rfl rfl (wvP F R M) ⟨i, R, M, .found hI hi, rfl, rfl⟩ ⟨rfl, rfl, rfl, rfl, trivial⟩
    refine at_drawn 11 rfl rfl [(5, .sv (.str (keyT t))), (6, .val (.tup [I 0, .ff]))] [20, 21, 22] rfl ⟨does_lookN _ Try.underlying78 Try.underlying9 (z := .int .i64 0) (by kernel_rfl) rfl rfl rfl rfl trivial (entsA_no hI.may ht hR) (fun _ _ => rfl), hK⟩ ?_
    refine run 400 rfl ?_
    by_cases hk : t ∈ keysF F
    · obtain ⟨i, hi⟩ := List.mem_iff_getElem?.1 hk
      obtain ⟨m, f, hFi⟩ := keysF_at hi
      refine at_drawn 12 rfl rfl [(5, .sv (.str (keyT t))), (6, .val (.tup [oSV m f, .tt])), (10, .late 11), (11, .set 30 [I m.k, I m.a, I m.b, .str m.s, I f.k, I f.n, .str f.s, .lst 4 (rowsT f.kids)])] [30, 31, 32] rfl ⟨doesW_storeE rfl rfl rfl (fun e => by cases e) rfl (Nat.le_of_ble_eq_true rfl) rfl, does_lookY _ Try.underlying77 Try.underlying9 rfl rfl rfl rfl trivial (entsF_yes (List.mem_of_getElem? hFi)), hK⟩ ?_
      refine run 400 rfl ?_
      obtain ⟨_, hfrom⟩ := hF.1 i t m f hFi
      refine at_if rfl (fun q => ?_) (fun q => ?_)
      · have q : ¬ m.k = 1 := by simpa using q
        obtain ⟨j, hj1, hj2, hj3⟩ := hfrom.resolve_left fun h => q h.1
        have hjm := List.mem_of_getElem? hj2
        have hf : mayF f = true := hF.may f hjm
        have hjn : j < n := by
          rcases hfar with ⟨i', h1, h2⟩ | ⟨h1, _⟩
          · have := nodup_get hF.2 hi h1
            omega
          · exact absurd hk h1
        have hC := proves62_fn l F hF n f (.inl ⟨j, hj2, hjn⟩) hf (made_in hjm) R M hI (by rw [costF_in hjm]; omega)
        refine run 400 rfl ?_
        refine at_callG [0, 1, 2, 4, 20] hC rfl ⟨rfl, rfl, rfl, rfl, trivial⟩ rfl ?_
        rintro sv post ⟨a, R1, M1, hP, rfl, rfl⟩
        refine ⟨rfl, rfl, ?_⟩
        refine at_renameC 0 20 4 4 2 rfl rfl rfl rfl ?_
        refine run 400 rfl ?_
        have hs : StepOk l R1 ⟨m.k, a, m.b, m.s⟩ t := step_half ht hP.at_ rfl hj3
        have hn := half_new hF hi hj2 hj1 hR hP
        have hPv := PvP.half hF hi hj2 hj1 hR hP hs
        have hA := adds88_fn t ⟨m.k, a, m.b, m.s⟩ F R1 M1 ht hP.inv.may hn hP.inv.len (by have := hP.cost; rw [costF_in hjm] at this; omega)
        refine at_callG [0, 1, 2, 4, 20] hA rfl ⟨rfl, rfl, rfl, rfl, trivial⟩ rfl ?_
        rintro sv post ⟨rfl, rfl⟩
        refine ⟨rfl, rfl, ?_⟩
        refine at_renameC 0 20 4 4 2 rfl rfl rfl rfl ?_
        refine run 400 rfl ?_
        exact at_ret rfl rfl (wvP F (R1 ++ [t]) (M1 ++ [⟨m.k, a, m.b, m.s⟩])) ⟨_, _, _, hPv, rfl, rfl⟩ ⟨rfl, rfl, rfl, rfl, trivial⟩
      · have q : m.k = 1 := by simpa using q
        have hs : StepOk l R m t := by
          rcases hfrom with ⟨h1, j, h2, h3⟩ | ⟨j, _, _, h⟩
          · exact step_given ht h1 h2 h3
          · omega
        have hPv := PvP.given (M := M) hi hR hI hs
        have hA := adds88_fn t m F R M ht hI.may hR hI.len (by omega)
        refine run 400 rfl ?_
        refine at_callG [0, 1, 2, 4, 20] hA rfl ⟨rfl, rfl, rfl, rfl, trivial⟩ rfl ?_
        rintro sv post ⟨rfl, rfl⟩
        refine ⟨rfl, rfl, ?_⟩
        refine at_renameC 0 20 4 4 2 rfl rfl rfl rfl ?_
        refine run 400 rfl ?_
        exact at_ret rfl rfl (wvP F (R ++ [t]) (M ++ [m])) ⟨_, _, _, hPv, rfl, rfl⟩ ⟨rfl, rfl, rfl, rfl, trivial⟩
    · refine at_drawn 12 rfl rfl [(5, .sv (.str (keyT t))), (6, .val (.tup [zO, .ff])), (10, .late 11), (11, .set 30 [I 0, I 0, I 0, .str .empty, I 0, I 0, .str .empty, .lst 4 []])] [30, 31, 32] rfl ⟨doesW_storeE rfl rfl rfl (fun e => by cases e) rfl (Nat.le_of_ble_eq_true rfl) rfl, does_lookN _ Try.underlying77 Try.underlying9 z83 rfl rfl rfl rfl trivial (entsF_no hF.may ht (by cases e : amongF (keysF F) t with | false => rfl | true => exact absurd (among_iff.1 e) hk)) zO_den, hK⟩ ?_
      refine run 400 rfl ?_
      obtain ⟨hk2, hmk⟩ := made_kids' hg hmd hk
      have hsz : szT t = 1 + szL t.kids := by cases t; rw [szT]
      have hfr : F.length + szT t ≤ n + 1 := by
        rcases hfar with ⟨i', h1, _⟩ | ⟨_, h⟩
        · exact absurd (List.mem_of_getElem? h1) hk
        · exact h
      have hkids : ∀ u ∈ t.kids, PvC l F u := fun u hu => by
        have hsu := szL_mem hu
        refine proves62_fn l F hF n u ?_ (by cases t; exact may_kid ht hu) (hmk u hu)
        by_cases hu2 : u ∈ keysF F
        · obtain ⟨i, hi⟩ := List.mem_iff_getElem?.1 hu2
          have h1 := (List.getElem?_eq_some_iff.1 hi).1
          have h2 : (keysF F).length = F.length := by simp [keysF]
          have := szT_pos u
          exact .inl ⟨i, hi, by omega⟩
        · exact .inr ⟨hu2, by omega⟩
      have hcost : costF F t = szT t := by
        unfold costF
        rw [if_neg (fun e => hk (among_iff.1 e))]
      have hC := makes89_fn l F t ht hk2 hkids R M hI (by omega)
      refine at_stages ?_
      refine at_float [35, 36, 37, 38, 39, 40] 4 (fun y : Mv × List Tm × List Mv => MkP l F t R y.1 y.2.1 y.2.2) (fun y => [(0, .ptr 0 0), (3, .ptr 5 0), (38, y.1.sv)]) (fun y => (5, .cells 33 [I t.k, I t.n, .str t.s, .lst 4 (rowsT t.kids)]) :: [(0, .cells 80 [.mp 1, .mp 2, .gl 4 4 (rowsM y.2.2)]), (1, .obj (mapS .string (entsF F))), (2, .obj (mapS .string (entsA y.2.1))), (4, .tok 4)]) [] rfl rfl rfl rfl [] rfl trivial (fun y hy => ⟨_, _, _, rfl, trivial⟩) ?_ ?_
      · intro bs hb4 hbeh
        match bs, hb4, hbeh with
        | [b0, b1, b2, b3], _, hbeh =>
          have h2 : b2 = true := hbeh 2 rfl
          have h3 : b3 = true := hbeh 3 rfl
          subst h2; subst h3
          cases b0 <;> cases b1
          all_goals
            refine at_callG [0, 1, 2, 4, 20] hC rfl ⟨rfl, rfl, rfl, rfl, trivial⟩ rfl ?_
            rintro sv post ⟨m, R1, M1, hP, rfl, rfl⟩
            refine ⟨rfl, rfl, ?_⟩
            refine at_renameC 0 20 4 4 2 rfl rfl rfl rfl ?_
            refine run 400 rfl ?_
            exact at_joined (m, R1, M1) hP (And.intro (SVle.refl _) (And.intro (SVle.refl _) (And.intro (SVle.refl _) (And.intro (SVle.refl _) (And.intro (SVle.refl _) (And.intro (SVle.refl _) (And.intro (SVle.refl _) trivial))))))) ⟨rfl, rfl, rfl, rfl, rfl, trivial⟩
      · rintro ⟨m, R1, M1⟩ hP
        have hP : MkP l F t R m R1 M1 := hP
        have hn := made_new hk hR hP
        have hPv := PvP.made hk hP
        have hA := adds88_fn t m F R1 M1 ht hP.inv.may hn hP.inv.len (by have := hP.cost; omega)
        refine at_forced [35, 36, 37, 38, 39, 40] (fun _ : Unit => True) (fun _ => [(39, I R1.length)]) (fun _ => wvP F (R1 ++ [t]) (M1 ++ [m])) rfl rfl rfl rfl rfl ?_ ?_
        · refine at_callG [0, 1, 2, 4, 20] hA rfl ⟨rfl, rfl, rfl, rfl, trivial⟩ rfl ?_
          rintro sv post ⟨rfl, rfl⟩
          refine ⟨rfl, rfl, ?_⟩
          refine at_renameC 0 20 4 4 2 rfl rfl rfl rfl ?_
          refine run 400 rfl ?_
          exact at_joined () trivial ⟨SVle.refl _, trivial⟩ ⟨rfl, rfl, rfl, rfl, trivial⟩
        · rintro ⟨⟩ _
          refine at_stage 1 [] rfl rfl rfl rfl rfl [] [41] rfl trivial ?_
          refine at_stage_end [35, 36, 37, 38] rfl ?_
          refine run 400 rfl ?_
          exact at_ret rfl rfl (wvP F (R1 ++ [t]) (M1 ++ [m])) ⟨_, _, _, hPv, rfl, rfl⟩ ⟨rfl, rfl, rfl, rfl, trivial⟩
end Go.Proofs.Ytmnmhehddbemkaa
namespace Go.Proofs.Ytmnmhehddbemkaa
open Go Go.Eng Go.MapKept
set_option maxRecDepth 100000

theorem contract_weak {P : Program} {f m0 : Nat} {pre : List (Nat × SO)} {args args' : List SV} {Post : SV → List (Nat × SO) → Prop} (h : Contract P f m0 pre args Post) (hl : SVles args' args) : Contract P f m0 pre args' Post :=
  ⟨h.1, fun g H w vs h1 h2 h3 h4 => h.2 g H w vs h1 h2 h3 (hl.dens g H vs h4)⟩

theorem openM_snoc (l : List Tm) (t : Tm) : openM (l ++ [t]) = putM t (openM l) := by simp [openM]

abbrev tZ : Tm := .mk 0 0 .empty []
/-- What `Way` answers. -/
def WayP (l : List Tm) (t : Tm) (s : SV) : Prop :=
  (madeT (openM l) t = false ∧ s = .tup [.tl 0 [], .ff]) ∨ (madeT (openM l) t = true ∧ ∃ (R : List Tm) (M : List Mv), runG l M [] = (R, 0) ∧ M.length = R.length ∧ 0 < R.length ∧ R.getD (R.length - 1) .zero = t ∧ R.length ≤ (openM l).length + szT t ∧ s = .tup [.lst 4 (rowsM M), .tt])

theorem way27_fn (l : List Tm) (t : Tm) (hm : ∀ u ∈ l, mayF u = true) (hl : szL l ≤ 1000) (ht : mayF t = true) : GivesP Try.prog 27 [.lst 4 (rowsT l), t.sv] (WayP l t) := by
  have hll := szL_len l
  have hrl := rowsT_len l
  have hC := can31_fn l t hm (by omega) ht
  have hln := openM_len (l := l)
  have htz : szT t ≤ 64 := by
    have h2 := ht
    rw [mayF_iff, Bool.and_eq_true, decide_eq_true_eq] at h2
    exact h2.2.1
  refine contract_of ty_ok [3, 4, 5, 6, 7, 8, 9] Try.func27 rfl (by decide) Try.ntmps27 rfl fun z => ?_
  refine run 400 rfl ?_
  cases hmd : madeT (openM l) t with
  | false =>
    refine at_fn (gives_is (c := false) hC hmd) rfl ?_
    refine run 400 rfl ?_
    exact at_ret rfl rfl [] ⟨.inl ⟨hmd, rfl⟩, rfl, rfl⟩ trivial
  | true =>
  refine at_fn (gives_is (c := true) hC hmd) rfl ?_
  refine run 400 rfl ?_
  refine at_mkmap 1 rfl ?_
  refine at_mkmap 2 rfl ?_
  refine run 400 rfl ?_
  refine at_weakO [(4, .cells 80 [.mp 1, .mp 2, .tl 0 []]), (2, .obj noMap), (1, .obj (mapS .string (entsF []))), (3, .cells 33 [I t.k, I t.n, .str t.s, .lst 4 (rowsT t.kids)])] ⟨rfl, ⟨rfl, SVles.refl _⟩, rfl, fun _ _ _ h => h, rfl, noMap_S _, rfl, ⟨rfl, SVles.refl _⟩, trivial⟩ ?_
  refine at_loop (fun p : Nat × FE => p.1 ≤ l.length ∧ FInv l p.2 ∧ keysF p.2 = openM (l.take p.1)) (fun p => [(3, .ptr 3 0), (6, .ptr 4 0), (17, .lst 4 (rowsT l)), (18, I (rowsT l).length), (19, I p.1)]) (fun p => [(4, .cells 80 [.mp 1, .mp 2, .tl 0 []]), (1, .obj (mapS .string (entsF p.2))), (2, .obj noMap), (3, .cells 33 [I t.k, I t.n, .str t.s, .lst 4 (rowsT t.kids)])]) (fun p => l.length - p.1) [5, 6, 7, 8, 9]
    (0, []) ⟨by dsimp only; omega, ⟨fun i t m f h => by simp at h, by simp⟩, rfl⟩ ⟨SVle.refl _, SVle.refl _, SVle.refl _, SVle.refl _, SVle.refl _, trivial⟩ ⟨rfl, rfl, rfl, rfl, trivial⟩ ?_
  rintro ⟨i, F⟩ ⟨a1, hF, a3⟩
  dsimp only at a1 hF a3
  refine run 400 rfl ?_
  refine at_ifd rfl (fun g => ?_) (fun g => ?_)
  rotate_left
  · dsimp only at g
    rw [hrl] at g
    have e : i = l.length := by omega
    subst e
    rw [List.take_length] at a3
    have hFl : F.length = (openM l).length := by rw [← a3]; simp [keysF]
    have hphi := phi_le F []
    have hcf := costF_le F t
    refine at_weakO [(4, .cells 80 [.mp 1, .mp 2, .tl 0 []]), (1, .obj (mapS .string (entsF F))), (2, .obj (mapS .string (entsA []))), (3, .cells 33 [I t.k, I t.n, .str t.s, .lst 4 (rowsT t.kids)])] ⟨rfl, ⟨rfl, SVles.refl _⟩, rfl, fun _ _ _ h => h, rfl, noMap_S _, rfl, ⟨rfl, SVles.refl _⟩, trivial⟩ ?_
    refine run 400 rfl ?_
    have hP := proves62_fn l F hF (F.length + szT t) t (by
      by_cases hk : t ∈ keysF F
      · obtain ⟨i, hi⟩ := List.mem_iff_getElem?.1 hk
        have h1 := (List.getElem?_eq_some_iff.1 hi).1
        have h2 : (keysF F).length = F.length := by simp [keysF]
        exact .inl ⟨i, hi, by omega⟩
      · exact .inr ⟨hk, Nat.le_refl _⟩) ht (by rw [a3]; exact hmd) [] [] ⟨rfl, rfl, fun _ h => (List.not_mem_nil h).elim⟩ (by simp; omega)
    refine at_nameI 4 20 4 2 rfl rfl (.inr rfl) rfl ?_
    refine at_callG [4, 1, 2, 20, 21] hP rfl ⟨rfl, rfl, rfl, rfl, trivial⟩ rfl ?_
    rintro sv post ⟨j, R, M, hPv, rfl, rfl⟩
    refine ⟨rfl, rfl, ?_⟩
    refine run 400 rfl ?_
    refine at_deg 21 ?_
    have hlast := hPv.last (List.not_mem_nil)
    refine at_ret rfl rfl [] ⟨.inr ⟨hmd, R, M, hPv.inv.run, hPv.inv.len, by omega, ?_, ?_, rfl⟩, rfl, rfl⟩ trivial
    · rw [hlast, Nat.add_sub_cancel]
      exact getD_of hPv.at_
    · have := hPv.cost
      simp only [List.length_nil] at this
      omega
  dsimp only at g
  rw [hrl] at g
  have hlt : i < l.length := by omega
  have hget := rowsT_get hlt
  have hmem := getD_mem hlt
  have hat : l[i]? = some (l.getD i .zero) := by rw [List.getD_eq_getElem?_getD, List.getElem?_eq_getElem hlt]; rfl
  have htk : l.take (i + 1) = l.take i ++ [l.getD i .zero] := by rw [List.take_add_one, hat]; rfl
  generalize l.getD i .zero = u at hget hmem hat htk
  refine run 400 rfl ?_
  refine at_val (.rp (tr u) 0) (does_index ty_ok _ rfl rfl rfl (by omega) (show (rowsT l)[(i : Int).toNat]? = some (tr u) from hget) rfl) ?_
  refine run 400 rfl ?_
  have hO := contract_weak (args' := [.ptr 0 0, u.sv, .agg [I 1, I i, I 0, .str .empty, I 0, I 0, .str .empty, .tl 0 []]]) (opens61_fn l _ u (Nat.le_refl _) (hm u hmem) F ⟨1, i, 0, .empty⟩ tZ hF ⟨hm u hmem, .inl ⟨rfl, i, rfl, hat⟩⟩) ⟨SVle.refl _, SVle.refl _, SVle.agg ⟨SVle.refl _, SVle.refl _, SVle.refl _, SVle.refl _, SVle.refl _, SVle.refl _, SVle.refl _, SVle.nils, trivial⟩, trivial⟩
  refine at_callG [4, 1, 2] hO rfl ⟨rfl, rfl, rfl, trivial⟩ rfl ?_
  rintro sv post ⟨F2, hO2, rfl, rfl⟩
  refine ⟨rfl, rfl, ?_⟩
  refine run 400 rfl ?_
  exact at_again (i + 1, F2) ⟨by dsimp only; omega, hO2.inv, by dsimp only; rw [hO2.keys, a3, htk, openM_snoc]⟩ (by dsimp only; omega) ⟨SVle.refl _, SVle.refl _, SVle.refl _, SVle.refl _, SVle.of_eq (by show I ((i : Int) + 1) = I ((i + 1 : Nat) : Int); rw [Int.natCast_add]; rfl), trivial⟩ ⟨rfl, rfl, rfl, rfl, trivial⟩
end Go.Proofs.Ytmnmhehddbemkaa
namespace Go.Proofs.Ytmnmhehddbemkaa
open Go Go.Eng Go.MapKept
set_option maxRecDepth 100000

theorem proofWay_fn (ns ms : List Int) (h1 : ns.length ≤ 9223372036854775807) (h2 : ms.length ≤ 9223372036854775807) : Gives Try.prog 6 [.lst 1 (ints ns), .lst 1 (ints ms)] .tt := by
  have hT := terms_fn ns 8 h1 (by omega)
  have hlm := genL_may ns 8 0 (by omega)
  have hll := genL_len ns 8 0
  generalize genL ns 8 0 = l at hT hlm hll
  have hg : ∀ t ∈ l, Gd t := fun t ht => mayF_gd (hlm t ht)
  have hsz := szL_may hlm
  have hU := termsG_fn ms 4 h2 (by omega)
  have hum := genL_may ms 4 0 (by omega)
  have hul := genL_len ms 4 0
  generalize genL ms 4 0 = m0 at hU hum hul
  have hO := oneT_fn ms h2
  have hom := gen4_may ms
  generalize (genT ms 4 0).1 = one at hO hom
  have kr := fun (t : Tm) (ht : mayF t = true) => can_fn l t hg (by omega) (mayF_gd ht).sm
  have hcong := fun t => made_congr (openM_mem hg) t
  have hln := openM_len (l := l)
  have hm0l := rowsT_len m0
  refine contract_of ty_ok [0, 1, 2, 3, 4, 5, 6, 7] Try.func6 rfl (by decide) Try.ntmps6 rfl fun z => ?_
  refine run 400 rfl ?_
  refine at_fn known16_fn rfl ?_
  refine run 400 rfl ?_
  refine at_fn hT rfl ?_
  refine run 400 rfl ?_
  refine at_callF [0] hU rfl trivial rfl rfl rfl ?_
  refine run 400 rfl ?_
  refine at_fn hO rfl ?_
  refine at_gro (.tl 4 [tr one]) (doesG_build ty_ok _ rfl ⟨⟨rfl, rfl, _, rfl, SVles.refl _⟩, trivial⟩ rfl rfl (by decide)) ?_
  refine at_grow 0 0 4 (rowsT m0 ++ [tr one]) rfl (doesU_append ty_ok rfl rfl rfl rfl rfl rfl rfl (by simp; omega) (by show _ * 56 ≤ _; simp; omega)) rfl ?_
  refine at_deg 0 ?_
  rw [show rowsT m0 ++ [tr one] = rowsT (m0 ++ [one]) by rw [rowsT_app, rowsT_cons, rowsT_nil]]
  have hMm : ∀ t ∈ m0 ++ [one], mayF t = true := fun t ht => by
    rcases List.mem_append.1 ht with h | h
    · exact hum t h
    · rw [List.mem_singleton] at h; subst h; exact hom
  have hMl : (m0 ++ [one]).length ≤ 10 := by simp; omega
  generalize m0 ++ [one] = M at hMm hMl
  have hrl := rowsT_len M
  refine run 400 rfl ?_
  refine at_loop (fun i : Nat => i ≤ M.length) (fun i => [(5, .lst 4 (rowsT l)), (19, .lst 4 (rowsT M)), (20, I (rowsT M).length), (21, I i)]) (fun _ => []) (fun i => M.length - i) [0, 1, 2, 3, 4, 5, 6, 7]
    0 (by omega) ⟨SVle.refl _, SVle.refl _, SVle.refl _, SVle.refl _, trivial⟩ trivial ?_
  intro i hi
  refine run 400 rfl ?_
  refine at_ifd rfl (fun g => ?_) (fun g => ?_)
  rotate_left
  · refine run 400 rfl ?_
    exact at_ret rfl rfl [] ⟨rfl, rfl, rfl⟩ trivial
  rw [hrl] at g
  have hlt : i < M.length := by omega
  have hget := rowsT_get hlt
  have hmt := hMm _ (getD_mem hlt)
  generalize M.getD i .zero = t at hget hmt
  have htz : szT t ≤ 64 := by
    have h2 := hmt
    rw [mayF_iff, Bool.and_eq_true, decide_eq_true_eq] at h2
    exact h2.2.1
  have hW := way27_fn l t hlm (by omega) hmt
  refine run 400 rfl ?_
  refine at_val (.rp (tr t) 0) (does_index ty_ok _ rfl rfl rfl (by omega) (show (rowsT M)[(i : Int).toNat]? = some (tr t) from hget) rfl) ?_
  refine run 400 rfl ?_
  refine at_pure hW rfl ?_
  rintro sv (⟨hf, rfl⟩ | ⟨ht, R, MM, hrun, hlen, hpos, hlast, hle, rfl⟩)
  · rw [hcong] at hf
    refine run 400 rfl ?_
    refine at_fn (gives_is (c := false) (kr t hmt) hf) rfl ?_
    refine run 400 rfl ?_
    refine at_false 36 rfl (by rfl) ?_
    refine run 400 rfl ?_
    refine at_if rfl (fun q => by simp at q) (fun _ => ?_)
    refine run 400 rfl ?_
    exact at_again (i + 1) (by omega) (by omega) ⟨SVle.refl _, SVle.refl _, SVle.refl _, SVle.of_eq (by show I ((i : Int) + 1) = I ((i + 1 : Nat) : Int); rw [Int.natCast_add]; rfl), trivial⟩ trivial
  · rw [hcong] at ht
    have hpr : provesF l MM t = true := by
      unfold provesF
      have hrF : runF l MM = (R, 0) := by unfold runF; rw [if_neg (by omega), hrun]
      rw [hrF, hlast]
      simp [hpos, same_iff.2 rfl]
    refine run 400 rfl ?_
    refine at_fn (gives_is (c := true) (kr t hmt) ht) rfl ?_
    refine run 400 rfl ?_
    refine at_false 36 rfl (by rfl) ?_
    refine run 400 rfl ?_
    refine at_false 42 rfl (decide_eq_false (by simp; omega)) ?_
    refine run 400 rfl ?_
    refine at_fn (gives_is (c := true) (rproves_fn l MM t) hpr) rfl ?_
    refine run 400 rfl ?_
    refine at_fn (gives_is (c := true) (proves_fn l MM t (by omega)) hpr) rfl ?_
    refine run 400 rfl ?_
    exact at_again (i + 1) (by omega) (by omega) ⟨SVle.refl _, SVle.refl _, SVle.refl _, SVle.of_eq (by show I ((i : Int) + 1) = I ((i + 1 : Nat) : Int); rw [Int.natCast_add]; rfl), trivial⟩ trivial
end Go.Proofs.Ytmnmhehddbemkaa
