import Derived.Test.YtmnmhehddbemkaaW4m
namespace Go.Proofs.Ytmnmhehddbemkaa
open Go Go.Eng

abbrev errV : Bool → Value
  | true => .nilIface
  | false => .iface 28 (.int .i64 3)
theorem z125 : (Try.prog.info? 125).bind (·.zero) = some (.int .i64 0) := by kernel_rfl
theorem z126 : (Try.prog.info? 126).bind (·.zero) = some (.string .empty) := by kernel_rfl
theorem z108 : (Try.prog.info? 108).bind (·.zero) = some (.agg #[.int .i64 0, .int .i64 0, .int .i64 0]) := by kernel_rfl
theorem z128 : (Try.prog.info? 128).bind (·.zero) = some (.agg #[.int .i64 0, .int .i64 0]) := by kernel_rfl
theorem z130 : (Try.prog.info? 130).bind (·.zero) = some (.agg #[.int .i64 0, .int .i64 0, .int .i64 0]) := by kernel_rfl

theorem inF_lt {n m : Int} (h : inF n m = true) : 0 ≤ n ∧ n < m := by simpa [inF] using h

set_option maxRecDepth 100000 in
theorem does_given (n : Int) (l res : List Tm) (h : inF n l.length = true) (b : Bool) (hb : mayF (l.getD n.toNat .zero) = b) : Gives Try.prog 85 [.val (.iface (St.ty (.given n)) (St.v (.given n))), .lst 4 (rowsT l), .lst 4 (rowsT res)] (.tup [(l.getD n.toNat .zero).sv, .val (errV b)]) := by
  refine contract_of ty_ok [0, 1, 2, 3, 4, 5, 6, 7] Try.func85 rfl (by decide) Try.ntmps85 rfl fun z => ?_
  refine run 400 rfl ?_
  have h0 := inF_lt h
  refine at_val (.tup [St.sv (.given n), .tt]) (does_assert_yes ty_ok (St.sv (.given n)) rfl rfl rfl (St.den (.given n))) ?_
  refine run 400 rfl ?_
  have hget := rowsT_get (l := l) (n := n.toNat) (by omega)
  generalize l.getD n.toNat .zero = u at hget hb
  refine at_val (.rp (tr u) 0) (does_index ty_ok _ rfl rfl rfl h0.1 hget rfl) ?_
  refine run 400 rfl ?_
  refine at_fn (may_fn u) rfl ?_
  refine run 400 rfl ?_
  rw [hb]
  cases b with
  | false =>
    refine at_if rfl (fun g => ?_) (fun g => by cases g)
    refine run 400 rfl ?_
    refine at_val (.val (.iface 28 (.int .i64 3))) (does_iface ty_ok (.int .i64 3) rfl rfl rfl) ?_
    refine run 400 rfl ?_
    exact at_ret rfl rfl [] ⟨rfl, rfl, rfl⟩ trivial
  | true =>
    refine at_if rfl (fun g => by cases g) (fun g => ?_)
    refine run 400 rfl ?_
    exact at_ret rfl rfl [] ⟨rfl, rfl, rfl⟩ trivial

set_option maxRecDepth 100000 in
theorem does_atom (s : ByteArray) (l res : List Tm)  (b : Bool) (hb : mayF (.mk 1 0 s []) = b) : Gives Try.prog 85 [.val (.iface (St.ty (.atom s)) (St.v (.atom s))), .lst 4 (rowsT l), .lst 4 (rowsT res)] (.tup [.agg [I 1, I 0, .str s, .tl 0 []], .val (errV b)]) := by
  refine contract_of ty_ok [0, 1, 2, 3, 4, 5, 6, 7] Try.func85 rfl (by decide) Try.ntmps85 rfl fun z => ?_
  refine run 400 rfl ?_
  refine at_val (.tup [(I 0), .ff]) (does_assert_no ty_ok (I 0) z125 rfl rfl rfl rfl (fun _ _ => rfl)) ?_
  refine run 400 rfl ?_
  refine at_val (.tup [St.sv (.atom s), .tt]) (does_assert_yes ty_ok (St.sv (.atom s)) rfl rfl rfl (St.den (.atom s))) ?_
  refine run 400 rfl ?_
  have hm : Gives Try.prog 39 [.agg [I 1, I 0, .str s, .tl 0 []]] (.bl (mayF (.mk 1 0 s []))) := (may_fn (.mk 1 0 s [])).weak ⟨SVle.agg ⟨SVle.refl _, SVle.refl _, SVle.refl _, by rw [rowsT_nil]; exact fun g H x h => SVle.tl 4 [] g H x (SVle.nil 4 g H x h), trivial⟩, trivial⟩
  refine at_fn (hm) rfl ?_
  refine run 400 rfl ?_
  rw [hb]
  cases b with
  | false =>
    refine at_if rfl (fun g => ?_) (fun g => by cases g)
    refine run 400 rfl ?_
    refine at_val (.val (.iface 28 (.int .i64 3))) (does_iface ty_ok (.int .i64 3) rfl rfl rfl) ?_
    refine run 400 rfl ?_
    exact at_ret rfl rfl [] ⟨rfl, rfl, rfl⟩ trivial
  | true =>
    refine at_if rfl (fun g => by cases g) (fun g => ?_)
    refine run 400 rfl ?_
    exact at_ret rfl rfl [] ⟨rfl, rfl, rfl⟩ trivial

set_option maxRecDepth 100000 in
theorem does_half (a k d : Int) (l res : List Tm) (h : inF a res.length = true) (hk : (res.getD a.toNat .zero).k = k) (hd : 0 ≤ d ∧ d < (res.getD a.toNat .zero).kids.length) (b : Bool) (hb : mayF ((res.getD a.toNat .zero).kids.getD d.toNat .zero) = b) : Gives Try.prog 85 [.val (.iface (St.ty (.half a k d)) (St.v (.half a k d))), .lst 4 (rowsT l), .lst 4 (rowsT res)] (.tup [((res.getD a.toNat .zero).kids.getD d.toNat .zero).sv, .val (errV b)]) := by
  refine contract_of ty_ok [0, 1, 2, 3, 4, 5, 6, 7] Try.func85 rfl (by decide) Try.ntmps85 rfl fun z => ?_
  refine run 400 rfl ?_
  have h0 := inF_lt h
  refine at_val (.tup [(I 0), .ff]) (does_assert_no ty_ok (I 0) z125 rfl rfl rfl rfl (fun _ _ => rfl)) ?_
  refine run 400 rfl ?_
  refine at_val (.tup [(.str .empty), .ff]) (does_assert_no ty_ok (.str .empty) z126 rfl rfl rfl rfl (fun _ _ => rfl)) ?_
  refine run 400 rfl ?_
  refine at_val (.tup [St.sv (.half a k d), .tt]) (does_assert_yes ty_ok (St.sv (.half a k d)) rfl rfl rfl (St.den (.half a k d))) ?_
  refine run 400 rfl ?_
  have hget := rowsT_get (l := res) (n := a.toNat) (by omega)
  generalize res.getD a.toNat .zero = f at hget hb hk hd
  have hlen : ((rowsT f.kids).length : Int) = f.kids.length := by rw [rowsT_len]
  refine at_val (.rp (tr f) 0) (does_index ty_ok _ rfl rfl rfl h0.1 hget rfl) ?_
  refine run 400 rfl ?_
  refine at_false 41 rfl (by simpa using hk) ?_
  refine run 400 rfl ?_
  refine at_ifd rfl (fun g => absurd g (by rw [hlen]; omega)) (fun g => ?_)
  have hget2 := rowsT_get (l := f.kids) (n := d.toNat) (by omega)
  generalize f.kids.getD d.toNat .zero = u at hget2 hb
  refine run 400 rfl ?_
  refine at_val (.rp (tr u) 0) (does_index ty_ok _ rfl rfl rfl hd.1 hget2 rfl) ?_
  refine run 400 rfl ?_
  refine at_fn (may_fn u) rfl ?_
  refine run 400 rfl ?_
  rw [hb]
  cases b with
  | false =>
    refine at_if rfl (fun g => ?_) (fun g => by cases g)
    refine run 400 rfl ?_
    refine at_val (.val (.iface 28 (.int .i64 3))) (does_iface ty_ok (.int .i64 3) rfl rfl rfl) ?_
    refine run 400 rfl ?_
    exact at_ret rfl rfl [] ⟨rfl, rfl, rfl⟩ trivial
  | true =>
    refine at_if rfl (fun g => by cases g) (fun g => ?_)
    refine run 400 rfl ?_
    exact at_ret rfl rfl [] ⟨rfl, rfl, rfl⟩ trivial

set_option maxRecDepth 100000 in
theorem does_half_no (a k d : Int) (l res : List Tm) (h : inF a res.length = true) (hk : (res.getD a.toNat .zero).k ≠ k ∨ ((res.getD a.toNat .zero).kids.length : Int) ≤ d) : Gives Try.prog 85 [.val (.iface (St.ty (.half a k d)) (St.v (.half a k d))), .lst 4 (rowsT l), .lst 4 (rowsT res)] (.tup [.agg [I 0, I 0, .str .empty, .tl 0 []], .val (errV false)]) := by
  refine contract_of ty_ok [0, 1, 2, 3, 4, 5, 6, 7] Try.func85 rfl (by decide) Try.ntmps85 rfl fun z => ?_
  refine run 400 rfl ?_
  have h0 := inF_lt h
  refine at_val (.tup [(I 0), .ff]) (does_assert_no ty_ok (I 0) z125 rfl rfl rfl rfl (fun _ _ => rfl)) ?_
  refine run 400 rfl ?_
  refine at_val (.tup [(.str .empty), .ff]) (does_assert_no ty_ok (.str .empty) z126 rfl rfl rfl rfl (fun _ _ => rfl)) ?_
  refine run 400 rfl ?_
  refine at_val (.tup [St.sv (.half a k d), .tt]) (does_assert_yes ty_ok (St.sv (.half a k d)) rfl rfl rfl (St.den (.half a k d))) ?_
  refine run 400 rfl ?_
  have hget := rowsT_get (l := res) (n := a.toNat) (by omega)
  generalize res.getD a.toNat .zero = f at hget hk
  have hlen : ((rowsT f.kids).length : Int) = f.kids.length := by rw [rowsT_len]
  refine at_val (.rp (tr f) 0) (does_index ty_ok _ rfl rfl rfl h0.1 hget rfl) ?_
  refine run 400 rfl ?_
  refine at_split 41 rfl (fun g => ?_) (fun g => ?_)
  · refine run 400 rfl ?_
    refine at_val (.val (.iface 28 (.int .i64 3))) (does_iface ty_ok (.int .i64 3) rfl rfl rfl) ?_
    refine run 400 rfl ?_
    exact at_ret rfl rfl [] ⟨rfl, rfl, rfl⟩ trivial
  · have g : f.k = k := by simpa using g
    refine run 400 rfl ?_
    refine at_ifd rfl (fun g2 => ?_) (fun g2 => absurd (by rw [hlen]; omega) g2)
    refine run 400 rfl ?_
    refine at_val (.val (.iface 28 (.int .i64 3))) (does_iface ty_ok (.int .i64 3) rfl rfl rfl) ?_
    refine run 400 rfl ?_
    exact at_ret rfl rfl [] ⟨rfl, rfl, rfl⟩ trivial

set_option maxRecDepth 100000 in
theorem does_one (k a : Int) (l res : List Tm) (h : inF a res.length = true) (b : Bool) (hb : mayF (.mk k 0 .empty [res.getD a.toNat .zero]) = b) : Gives Try.prog 85 [.val (.iface (St.ty (.one k a)) (St.v (.one k a))), .lst 4 (rowsT l), .lst 4 (rowsT res)] (.tup [.agg [I k, I 0, .str .empty, .tl 4 [tr (res.getD a.toNat .zero)]], .val (errV b)]) := by
  refine contract_of ty_ok [0, 1, 2, 3, 4, 5, 6, 7] Try.func85 rfl (by decide) Try.ntmps85 rfl fun z => ?_
  refine run 400 rfl ?_
  have h0 := inF_lt h
  refine at_val (.tup [(I 0), .ff]) (does_assert_no ty_ok (I 0) z125 rfl rfl rfl rfl (fun _ _ => rfl)) ?_
  refine run 400 rfl ?_
  refine at_val (.tup [(.str .empty), .ff]) (does_assert_no ty_ok (.str .empty) z126 rfl rfl rfl rfl (fun _ _ => rfl)) ?_
  refine run 400 rfl ?_
  refine at_val (.tup [(.agg [I 0, I 0, I 0]), .ff]) (does_assert_no ty_ok (.agg [I 0, I 0, I 0]) z108 rfl rfl rfl rfl (fun _ _ => ⟨_, rfl, rfl, rfl, rfl, trivial⟩)) ?_
  refine run 400 rfl ?_
  refine at_val (.tup [St.sv (.one k a), .tt]) (does_assert_yes ty_ok (St.sv (.one k a)) rfl rfl rfl (St.den (.one k a))) ?_
  refine run 400 rfl ?_
  have hget := rowsT_get (l := res) (n := a.toNat) (by omega)
  generalize res.getD a.toNat .zero = u at hget hb
  refine at_drawn 9 rfl rfl [(5, .val (.rp (tr u) 0)), (7, .gro (.tl 4 [tr u]))] [20, 21, 22] rfl ⟨doesG_build ty_ok _ rfl ⟨⟨rfl, rfl, _, rfl, SVles.refl _⟩, trivial⟩ rfl rfl (by decide), does_index ty_ok _ rfl rfl rfl h0.1 hget rfl⟩ ?_
  refine run 400 rfl ?_
  have hm : Gives Try.prog 39 [.agg [I k, I 0, .str .empty, .tl 4 [tr u]]] (.bl (mayF (.mk k 0 .empty [u]))) := (may_fn (.mk k 0 .empty [u])).weak ⟨SVle.agg ⟨SVle.refl _, SVle.refl _, SVle.refl _, by rw [rowsT_cons, rowsT_nil]; exact SVle.tl _ _, trivial⟩, trivial⟩
  refine at_fn (hm) rfl ?_
  refine run 400 rfl ?_
  rw [hb]
  cases b with
  | false =>
    refine at_if rfl (fun g => ?_) (fun g => by cases g)
    refine run 400 rfl ?_
    refine at_val (.val (.iface 28 (.int .i64 3))) (does_iface ty_ok (.int .i64 3) rfl rfl rfl) ?_
    refine run 400 rfl ?_
    exact at_ret rfl rfl [] ⟨rfl, rfl, rfl⟩ trivial
  | true =>
    refine at_if rfl (fun g => by cases g) (fun g => ?_)
    refine run 400 rfl ?_
    exact at_ret rfl rfl [] ⟨rfl, rfl, rfl⟩ trivial

set_option maxRecDepth 100000 in
theorem does_two (k a c : Int) (l res : List Tm) (h : inF a res.length = true) (h2 : inF c res.length = true) (b : Bool) (hb : mayF (.mk k 0 .empty [res.getD a.toNat .zero, res.getD c.toNat .zero]) = b) : Gives Try.prog 85 [.val (.iface (St.ty (.two k a c)) (St.v (.two k a c))), .lst 4 (rowsT l), .lst 4 (rowsT res)] (.tup [.agg [I k, I 0, .str .empty, .tl 4 [tr (res.getD a.toNat .zero), tr (res.getD c.toNat .zero)]], .val (errV b)]) := by
  refine contract_of ty_ok [0, 1, 2, 3, 4, 5, 6, 7] Try.func85 rfl (by decide) Try.ntmps85 rfl fun z => ?_
  refine run 400 rfl ?_
  have h0 := inF_lt h
  have h1 := inF_lt h2
  refine at_val (.tup [(I 0), .ff]) (does_assert_no ty_ok (I 0) z125 rfl rfl rfl rfl (fun _ _ => rfl)) ?_
  refine run 400 rfl ?_
  refine at_val (.tup [(.str .empty), .ff]) (does_assert_no ty_ok (.str .empty) z126 rfl rfl rfl rfl (fun _ _ => rfl)) ?_
  refine run 400 rfl ?_
  refine at_val (.tup [(.agg [I 0, I 0, I 0]), .ff]) (does_assert_no ty_ok (.agg [I 0, I 0, I 0]) z108 rfl rfl rfl rfl (fun _ _ => ⟨_, rfl, rfl, rfl, rfl, trivial⟩)) ?_
  refine run 400 rfl ?_
  refine at_val (.tup [(.agg [I 0, I 0]), .ff]) (does_assert_no ty_ok (.agg [I 0, I 0]) z128 rfl rfl rfl rfl (fun _ _ => ⟨_, rfl, rfl, rfl, trivial⟩)) ?_
  refine run 400 rfl ?_
  refine at_val (.tup [St.sv (.two k a c), .tt]) (does_assert_yes ty_ok (St.sv (.two k a c)) rfl rfl rfl (St.den (.two k a c))) ?_
  refine run 400 rfl ?_
  have hget := rowsT_get (l := res) (n := a.toNat) (by omega)
  have hget2 := rowsT_get (l := res) (n := c.toNat) (by omega)
  generalize res.getD a.toNat .zero = u at hget hb
  generalize res.getD c.toNat .zero = v at hget2 hb
  refine at_drawn 14 rfl rfl [(5, .val (.rp (tr u) 0)), (10, .val (.rp (tr v) 0)), (12, .gro (.tl 4 [tr u, tr v]))] [20, 21, 22] rfl ⟨doesG_build ty_ok _ rfl ⟨⟨rfl, rfl, _, rfl, SVles.refl _⟩, ⟨rfl, rfl, _, rfl, SVles.refl _⟩, trivial⟩ rfl rfl (by decide), does_index ty_ok _ rfl rfl rfl h1.1 hget2 rfl, does_index ty_ok _ rfl rfl rfl h0.1 hget rfl⟩ ?_
  refine run 400 rfl ?_
  have hm : Gives Try.prog 39 [.agg [I k, I 0, .str .empty, .tl 4 [tr u, tr v]]] (.bl (mayF (.mk k 0 .empty [u, v]))) := (may_fn (.mk k 0 .empty [u, v])).weak ⟨SVle.agg ⟨SVle.refl _, SVle.refl _, SVle.refl _, by rw [rowsT_cons, rowsT_cons, rowsT_nil]; exact SVle.tl _ _, trivial⟩, trivial⟩
  refine at_fn (hm) rfl ?_
  refine run 400 rfl ?_
  rw [hb]
  cases b with
  | false =>
    refine at_if rfl (fun g => ?_) (fun g => by cases g)
    refine run 400 rfl ?_
    refine at_val (.val (.iface 28 (.int .i64 3))) (does_iface ty_ok (.int .i64 3) rfl rfl rfl) ?_
    refine run 400 rfl ?_
    exact at_ret rfl rfl [] ⟨rfl, rfl, rfl⟩ trivial
  | true =>
    refine at_if rfl (fun g => by cases g) (fun g => ?_)
    refine run 400 rfl ?_
    exact at_ret rfl rfl [] ⟨rfl, rfl, rfl⟩ trivial

end Go.Proofs.Ytmnmhehddbemkaa
