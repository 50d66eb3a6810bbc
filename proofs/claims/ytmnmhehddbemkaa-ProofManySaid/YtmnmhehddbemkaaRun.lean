/- The proof engine, part 10: the run as a whole. -/
import Derived.Test.YtmnmhehddbemkaaOps4
namespace Go.Eng

section
variable {α : Type} {P : Program} {T : Nat → TI} {m0 : Nat} {env : List (Nat × SV)} {own : List (Nat × SO)} {nx : List Nat} {kv : SV → α} {ko : SV → List (Nat × SO) → List Nat → α} {ks : List (Nat × SO) → α} {kp : Prop → SV → α} {f : α}

theorem r_bin {o : Oper} {op : BinOp} {t : Nat} {x y : Operand} {ty : Nat} (hT : ∀ t, T t = tiOf P t) (ho : o.op = .binOp op t x y ty) :
    R5 P m0 o env own kv ko ks kp f (binK T op t (ev env x) (ev env y) kv kp f) := by
  have hT' : T = tiOf P := funext hT
  subst hT'
  unfold binK
  split
  · rename_i j a i b hx hy
    cases hk : kbeq j i with
    | false => exact .f
    | true =>
      have := kbeq_eq hk
      subst this
      have hr := fun w => run_int (P := P) op t j a b w
      simp only [cond_true]
      cases op with
      | add => exact .p _ _ fun h => does_binInt ho hx hy fun w => ⟨_, (hr w).1 rfl h, fun _ _ => rfl⟩
      | sub => exact .p _ _ fun h => does_binInt ho hx hy fun w => ⟨_, (hr w).2.1 rfl h, fun _ _ => rfl⟩
      | mul => exact .p _ _ fun h => does_binInt ho hx hy fun w => ⟨_, (hr w).2.2.1 rfl h, fun _ _ => rfl⟩
      | quo => exact .p _ _ fun h => does_binInt ho hx hy fun w => ⟨_, (hr w).2.2.2.1 rfl h.1 h.2, fun _ _ => rfl⟩
      | rem => exact .p _ _ fun h => does_binInt ho hx hy fun w => ⟨_, (hr w).2.2.2.2.1 rfl h, fun _ _ => rfl⟩
      | eql => exact .v _ (does_binInt ho hx hy fun w => ⟨_, (hr w).2.2.2.2.2.1 rfl, fun _ _ => rfl⟩)
      | neq => exact .v _ (does_binInt ho hx hy fun w => ⟨_, (hr w).2.2.2.2.2.2.1 rfl, fun _ _ => rfl⟩)
      | lss => exact .v _ (does_binInt ho hx hy fun w => ⟨_, (hr w).2.2.2.2.2.2.2.1 rfl, fun _ _ => rfl⟩)
      | leq => exact .v _ (does_binInt ho hx hy fun w => ⟨_, (hr w).2.2.2.2.2.2.2.2.1 rfl, fun _ _ => rfl⟩)
      | gtr => exact .v _ (does_binInt ho hx hy fun w => ⟨_, (hr w).2.2.2.2.2.2.2.2.2.1 rfl, fun _ _ => rfl⟩)
      | geq => exact .v _ (does_binInt ho hx hy fun w => ⟨_, (hr w).2.2.2.2.2.2.2.2.2.2 rfl, fun _ _ => rfl⟩)
      | _ => exact .f
  · rename_i a b hx hy
    have hr := fun w => run_str (P := P) op t a b w
    cases op with
    | eql => exact .v _ (does_binStr ho hx hy fun w => ⟨_, (hr w).1 rfl, fun _ _ => rfl⟩)
    | neq => exact .v _ (does_binStr ho hx hy fun w => ⟨_, (hr w).2.1 rfl, fun _ _ => rfl⟩)
    | lss => exact .v _ (does_binStr ho hx hy fun w => ⟨_, (hr w).2.2.1 rfl, fun _ _ => rfl⟩)
    | leq => exact .v _ (does_binStr ho hx hy fun w => ⟨_, (hr w).2.2.2.1 rfl, fun _ _ => rfl⟩)
    | gtr => exact .v _ (does_binStr ho hx hy fun w => ⟨_, (hr w).2.2.2.2.1 rfl, fun _ _ => rfl⟩)
    | geq => exact .v _ (does_binStr ho hx hy fun w => ⟨_, (hr w).2.2.2.2.2.1 rfl, fun _ _ => rfl⟩)
    | add => exact .p _ _ fun h => does_binStr ho hx hy fun w => ⟨_, (hr w).2.2.2.2.2.2 rfl h, fun _ _ => rfl⟩
    | _ => exact .f
  · rename_i xs ys hx hy
    split
    · rename_i hf
      rw [sameK_eq]
      cases hs : sameS (tiOf P) 0 (tiOf P t).flds xs ys with
      | none => exact .f
      | some b => exact .v _ ((does_binStruct ho hx hy hf hs).1 rfl)
    · rename_i hf
      rw [sameK_eq]
      cases hs : sameS (tiOf P) 0 (tiOf P t).flds xs ys with
      | none => exact .f
      | some b => exact .v _ ((does_binStruct ho hx hy hf hs).2 rfl)
    · exact .f
  · split
    · rename_i hk
      simp only [boolK_eq]
      cases hx : boolS (ev env x) with
      | none => exact .f
      | some a =>
        cases hy : boolS (ev env y) with
        | none => exact .f
        | some b => exact .v _ ((does_binBool ho hx hy hk).1 rfl)
    · rename_i hk
      simp only [boolK_eq]
      cases hx : boolS (ev env x) with
      | none => exact .f
      | some a =>
        cases hy : boolS (ev env y) with
        | none => exact .f
        | some b => exact .v _ ((does_binBool ho hx hy hk).2 rfl)
    · exact .f

theorem op1_sound (hT : ∀ t, T t = tiOf P t) (o : Oper) : R5 P m0 o env own kv ko ks kp f (op1 T m0 o.op env own nx kv ko ks kp f) := by
  have hT' : T = tiOf P := funext hT
  subst hT'
  cases ho : o.op with
  | move x => simp only [op1, evK_eq]; exact .v _ (does_move (.inl ho))
  | assign x => simp only [op1, evK_eq]; exact .v _ (does_move (.inr ho))
  | pick c a b =>
    simp only [op1, evK_eq]
    split
    · rename_i hc
      exact .v _ (does_pick (b := true) ho hc)
    · rename_i hc
      exact .v _ (does_pick (b := false) ho hc)
    · exact .f
  | alloc t =>
    simp only [op1, constsK_eq]
    split
    · exact .f
    · rename_i hz hk
      exact r_alloc ho (fun e => hk e) hz
    · exact .f
  | box t x => simp only [op1, evK_eq, cellsK_eq]; exact r_box ho
  | load t x =>
    simp only [op1, evK_eq, ownK_eq, dropK_eq, takeK_eq, getK_eq, upsK_eq, upK_eq]
    split
    · rename_i k off hx
      cases hk : ownq own k with
      | none => exact .f
      | some so =>
        cases so with
        | cells ty cs =>
          simp only
          split
          · rename_i hs
            split
            · rename_i hl
              exact .v _ (does_load_own ho hx hk hs hl)
            · exact .f
          · exact .f
          · rename_i hs1 hs2
            cases hg : cs[off]? with
            | none => exact .f
            | some s => exact .v _ (does_load_own1 ho hx hk (fun e => hs1 e) (fun e => hs2 e) hg)
        | tok sz => exact .f
        | obj q => exact .f
    · rename_i row off hx
      split
      · rename_i hs
        split
        · rename_i hl
          exact .v _ (does_load_rp ho hx hs hl)
        · exact .f
      · exact .f
      · rename_i hs1 hs2
        cases hg : row[off]? with
        | none => exact .f
        | some s => exact .v _ (does_load_rp1 ho hx (fun e => hs1 e) (fun e => hs2 e) hg)
    · exact .f
  | store t x y =>
    simp only [op1, evK_eq, ownK_eq, cellsK_eq, spliceK_eq', setOwnK_eq]
    split
    · rename_i k off hx
      cases hk : ownq own k with
      | none => exact .f
      | some so =>
        cases so with
        | cells ty cs =>
          simp only
          cases hy : cellsOf (ev env y) with
          | none => exact .f
          | some new =>
            simp only
            split
            · exact .f
            · rename_i hs
              cases hl : Nat.beq new.length (tiOf P t).size with
              | false => exact .f
              | true =>
                simp only [cond_true]
                split
                · rename_i hf
                  exact .s _ (does_store ho hx hk hy (fun e => hs e) (beq_true hl) hf)
                · exact .f
        | tok sz => exact .f
        | obj q => exact .f
    · exact .f
  | nilCheck x =>
    simp only [op1, evK_eq]
    split
    · rename_i k off hx; rw [← hx]; exact .v _ (does_nilCheck ho (.inl ⟨k, off, hx⟩))
    · rename_i r off hx; rw [← hx]; exact .v _ (does_nilCheck ho (.inr (.inl ⟨r, off, hx⟩)))
    · rename_i g cs hx; rw [← hx]; exact .v _ (does_nilCheck ho (.inr (.inr ⟨g, cs, hx⟩)))
    · exact .f
  | binOp op t x y ty => simp only [op1, evK_eq]; exact r_bin (fun _ => rfl) ho
  | unOp op t x =>
    simp only [op1, evK_eq]
    split
    · rename_i hx; exact .v _ (does_not (b := true) ho (by rw [hx]; rfl) fun _ _ => rfl)
    · rename_i hx; exact .v _ (does_not (b := false) ho (by rw [hx]; rfl) fun _ _ => rfl)
    · rename_i b hx; exact .v _ (does_not (b := b) ho (by rw [hx]; rfl) fun _ _ => rfl)
    · rename_i k n hx; exact .p _ _ fun h => does_neg ho hx h
    · exact .f
  | convert s d x =>
    simp only [op1, evK_eq]
    split
    · rename_i hs hd hx; exact .p _ _ fun h => does_convInt ho hs hd hx h
    · rename_i hs hd hx; exact .v _ (does_convStr ho hs hd hx)
    · exact .f
  | fieldAddr t x i =>
    simp only [op1, evK_eq, getK_eq, fiK_eq, addK_eq]
    split
    · rename_i hk
      cases hi : (tiOf P t).flds[i]? with
      | none => exact .f
      | some fi =>
        simp only
        split
        · split
          · exact .f
          · rename_i n hn
            have := does_fieldAddr (env := env) (own := own) ho hk hi hn
            split
            · rename_i k off hx; exact .v _ (this.1 k off hx)
            · rename_i r off hx; exact .v _ (this.2 r off hx)
            · exact .f
        · exact .f
    · exact .f
  | field t x i =>
    simp only [op1, evK_eq, getK_eq, fiK_eq, dropK_eq, takeK_eq]
    split
    · rename_i hk
      cases hi : (tiOf P t).flds[i]? with
      | none => exact .f
      | some fi =>
        simp only
        split
        · rename_i hok
          split
          · rename_i l hx
            have := does_field (env := env) (own := own) ho hk hi hx hok
            split
            · rename_i hag
              split
              · rename_i hl; exact .v _ (this.1 hag hl)
              · exact .f
            · rename_i hag
              cases hg : l[fi.off]? with
              | none => exact .f
              | some s => exact .v _ (this.2 s hag hg)
          · exact .f
        · exact .f
    · exact .f
  | extract x i =>
    simp only [op1, evK_eq, getK_eq]
    split
    · rename_i l hx
      cases hg : l[i]? with
      | none => exact .f
      | some s => exact .v _ (does_extract ho hx hg)
    · exact .f
  | build t ps =>
    simp only [op1, allOk_eq, constsK_eq, fillK_eq]
    split
    · rename_i hk hz
      split
      · rename_i hok
        cases hf : fillS (tiOf P t).flds env ps.toList (constsS (tiOf P t).zero) with
        | none => exact .f
        | some r => exact .v _ (does_build ho hk hz hok hf)
      · exact .f
    · exact .f
  | makeFunc fn fs caps =>
    cases fn with
    | func g =>
      simp only [op1, evsK_eq]
      split
      · rename_i hfs
        cases h1 : SV.ones (evs env caps.toList) with
        | false => exact .f
        | true => exact .v _ (does_makeFunc ho hfs)
      · exact .f
    | _ => exact .f
  | call c =>
    obtain ⟨callee, args, ats⟩ := c
    cases callee with
    | builtin b =>
      cases b with
      | len =>
        simp only [op1, evK_eq]
        split
        · rename_i t x hat ha
          have := does_len (env := env) (own := own) (P := P) ho rfl ha hat
          split
          · rename_i sz r hk hx; exact .v _ (this.1 hk sz r hx)
          · rename_i k sz r hk hx; exact .v _ (this.2.1 hk k sz r hx)
          · rename_i sz r hk hx; exact .v _ (this.2.2.1 hk sz r hx)
          · rename_i k n hk hx; exact .v _ (this.2.2.2.1 hk k n hx)
          · rename_i b hk hx; exact .v _ (this.2.2.2.2 hk b hx)
          · exact .f
        · exact .f
      | max =>
        simp only [op1, evK_eq]
        split
        · rename_i x y ha
          split
          · rename_i j m i n hx hy
            cases hk : kbeq j i with
            | false => exact .f
            | true =>
              have := kbeq_eq hk
              subst this
              exact .v _ (does_max ho rfl ha hx hy)
          · exact .f
        · exact .f
      | _ => exact .f
    | _ => exact .f
  | _ => exact .f

end

end Go.Eng
