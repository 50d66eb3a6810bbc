/- The proof engine, part 2: the symbolic executor (definitions only). -/
import Derived.Test.YtmnmhehddbemkaaBase
namespace Go.Eng

/-- A field: its place, its cells. -/
structure FI where
  off : Nat
  size : Nat
  ag : Bool
  ty : Nat
  nm : Bool
  ok : Bool

inductive KI where
  | int (k : IntKind)
  | bool
  | str
  | ptr
  | slice
  | struct
  | map
  | iface
  | fn
  | other

structure TI where
  kd : KI
  size : Nat
  zok : Bool
  zero : List Value
  flds : List FI
  elem : Nat
  bytes : Nat
  flat : Bool

def kdOf : TypeDesc → KI
  | .bool => .bool
  | .int k => .int k
  | .string => .str
  | .pointer _ => .ptr
  | .slice _ => .slice
  | .map _ _ => .map
  | .struct _ => .struct
  | .func _ _ _ => .fn
  | .interface _ => .iface
  | _ => .other

def isAggB (P : Program) (t : TypeId) : Bool :=
  match P.underlying t with
  | some (.struct _) => true
  | some (.array _ _) => true
  | _ => false

def fisOf (P : Program) (fs : List Field) : List FI :=
  fs.map fun f => { off := f.offset, size := P.cellsOf f.type, ag := isAggB P f.type, ty := f.type, nm := f.name != "_", ok := (P.info? f.type).isSome && (P.underlying f.type).isSome }

def TI.bad : TI := { kd := .other, size := 0, zok := false, zero := [], flds := [], elem := 0, bytes := 0, flat := false }

def flatB (P : Program) (t : TypeId) : Bool :=
  match P.underlying t with
  | some (.struct _) => !P.stoodInHeld t && !P.eqGuardType P.depth t
  | _ => false

def zeroL : Option Value → List Value
  | some z => z.cells.toList
  | none => []
def fldsL (P : Program) : TypeDesc → List FI
  | .struct fs => fisOf P fs.toList
  | _ => []
def elemL : TypeDesc → Nat
  | .slice e => e
  | .pointer e => e
  | .map _ e => e
  | _ => 0
def KI.isOther : KI → Bool
  | .other => true
  | _ => false
def tiOf1 (P : Program) (t : TypeId) (i : TypeInfo) (d : TypeDesc) : TI :=
  bif (kdOf d).isOther then TI.bad
  else { kd := kdOf d, size := i.size, zok := i.zero.isSome, zero := zeroL i.zero, flds := fldsL P d, elem := elemL d, bytes := i.bytes, flat := flatB P t }

def tiOf (P : Program) (t : TypeId) : TI :=
  bif Nat.blt t P.types.size then
    match P.info? t, P.underlying t with
    | some i, some d => tiOf1 P t i d
    | _, _ => TI.bad
  else TI.bad

/-- What stands behind. -/
inductive Fr where
  | seq (c : Code)
  | blk (id : Nat)
  | lp (I : List (Nat × SV) → List (Nat × SO) → Prop)

/-- Where the run stands. -/
inductive Md where
  | ops (all ops : List Oper)
  | code (c : Code)
  | norm
  | ex (id : Nat)
  | ret

inductive Out where
  | stop (m : Md) (s : List Fr) (env : List (Nat × SV)) (own : List (Nat × SO)) (nx : List Nat) (ob : List Prop)

variable {α : Type}

def nthK (t : Nat) (k : SV → α) : List (Nat × SV) → α
  | [] => k .any
  | (i, x) :: l => bif Nat.beq i t then k x else nthK t k l

def ownK (t : Nat) (k : SO → α) (f : α) : List (Nat × SO) → α
  | [] => f
  | (i, x) :: l => bif Nat.beq i t then k x else ownK t k f l

def setOwnK (t : Nat) (o : SO) : List (Nat × SO) → (List (Nat × SO) → α) → α
  | [], k => k []
  | (i, x) :: l, k => bif Nat.beq i t then k ((i, o) :: l) else setOwnK t o l fun r => k ((i, x) :: r)

def constK (v : Value) (k : SV → α) : α :=
  match v with
  | .int j n => k (.int j n)
  | .bool true => k .tt
  | .bool false => k .ff
  | .string s => k (.str s)
  | .slice none 0 0 => k (.tl 0 [])
  | .agg _ => k .any
  | .tuple _ => k .any
  | v => k (.val v)

def constsK : List Value → (List SV → α) → α
  | [], k => k []
  | v :: l, k => constK v fun s => constsK l fun r => k (s :: r)

def evK (env : List (Nat × SV)) (x : Operand) (k : SV → α) : α :=
  match x with
  | .tmp t => nthK t k env
  | .const v => constK v k
  | .func f => k (.clo f [])
  | .global _ => k .any

def evsK (env : List (Nat × SV)) : List Operand → (List SV → α) → α
  | [], k => k []
  | x :: l, k => evK env x fun s => evsK env l fun r => k (s :: r)

def upK (d : DV) (k : SV → α) : α :=
  match d with
  | .int j n => k (.int j n)
  | .bl b => k (.bl b)
  | .str s => k (.str s)
  | .val v => k (.val v)
  | .lst sz r => k (.lst sz r)

def upsK : List DV → (List SV → α) → α
  | [], k => k []
  | v :: l, k => upK v fun s => upsK l fun r => k (s :: r)

def takeK {β : Type} : Nat → List β → (List β → α) → α → α
  | 0, _, k, _ => k []
  | _ + 1, [], _, f => f
  | n + 1, x :: l, k, f => takeK n l (fun r => k (x :: r)) f

def dropK {β : Type} : Nat → List β → (List β → α) → α
  | 0, l, k => k l
  | _ + 1, [], k => k []
  | n + 1, _ :: l, k => dropK n l k

def getK {β : Type} : Nat → List β → (β → α) → α → α
  | _, [], _, f => f
  | 0, x :: _, k, _ => k x
  | n + 1, _ :: l, k, f => getK n l k f

/-- New cells over old ones, from a place on. -/
def spliceK {β : Type} (new : List β) : Nat → List β → (List β → α) → α → α
  | 0, old, k, f => over new old k f
  | _ + 1, [], _, f => f
  | n + 1, x :: l, k, f => spliceK new n l (fun r => k (x :: r)) f
  where
  over : List β → List β → (List β → α) → α → α
  | [], old, k, _ => k old
  | _ :: _, [], _, f => f
  | x :: xs, _ :: old, k, f => over xs old (fun r => k (x :: r)) f

def addK (off d : Nat) (k : Nat → α) : α :=
  match off, d with
  | 0, d => k d
  | off, 0 => k off
  | off, d => k (off + d)

/-- A field, taken apart. -/
def fiK (fi : FI) (k : Nat → Nat → Bool → α) (f : α) : α :=
  match fi with
  | ⟨off, size, ag, _, _, true⟩ => k off size ag
  | _ => f

def freshE (k : Nat) : List (Nat × SV) → Bool
  | [] => true
  | (_, s) :: l => bif s.noK k then freshE k l else false
def freshO (k : Nat) : List (Nat × SO) → Bool
  | [] => true
  | (i, .cells _ cs) :: l => bif Nat.beq i k then false else bif SV.noKs k cs then freshO k l else false
  | (i, .tok _) :: l => bif Nat.beq i k then false else freshO k l
  | (i, .obj _) :: l => bif Nat.beq i k then false else freshO k l

def kbeq : IntKind → IntKind → Bool
  | .i8, .i8 => true
  | .i16, .i16 => true
  | .i32, .i32 => true
  | .i64, .i64 => true
  | .u8, .u8 => true
  | .u16, .u16 => true
  | .u32, .u32 => true
  | .u64, .u64 => true
  | _, _ => false

def inR : IntKind → Int → Prop
  | .i8, n => -128 ≤ n ∧ n ≤ 127
  | .i16, n => -32768 ≤ n ∧ n ≤ 32767
  | .i32, n => -2147483648 ≤ n ∧ n ≤ 2147483647
  | .i64, n => -9223372036854775808 ≤ n ∧ n ≤ 9223372036854775807
  | .u8, n => 0 ≤ n ∧ n ≤ 255
  | .u16, n => 0 ≤ n ∧ n ≤ 65535
  | .u32, n => 0 ≤ n ∧ n ≤ 4294967295
  | .u64, n => 0 ≤ n ∧ n ≤ 18446744073709551615

/-- Two texts are the same. -/
def seq (a b : ByteArray) : Bool := a.toList == b.toList
def slt (a b : ByteArray) : Bool := Op.bytesLess a.toList b.toList

def boolK (s : SV) (k : Bool → α) (f : α) : α :=
  match s with
  | .tt => k true
  | .ff => k false
  | .bl b => k b
  | _ => f

def same1K (k0 : KI) (x y : SV) (k : Bool → α) (f : α) : α :=
  match k0, x, y with
  | .int _, .int j a, .int i b => bif kbeq j i then k (a == b) else f
  | .str, .str a, .str b => k (seq a b)
  | .bool, x, y => boolK x (fun a => boolK y (fun b => k (a == b)) f) f
  | _, _, _ => f

/-- All the same, field by field, of plain fields. -/
def sameK (T : Nat → TI) : Nat → List FI → List SV → List SV → (Bool → α) → α → α
  | _, [], [], [], k, _ => k true
  | i, fi :: fs, x :: xs, y :: ys, k, f => match fi with
    | ⟨off, _, false, ty, true, true⟩ => bif Nat.beq off i then same1K (T ty).kd x y (fun b => sameK T (i + 1) fs xs ys (fun c => k (b && c)) f) f else f
    | _ => f
  | _, _, _, _, _, f => f

def binK (T : Nat → TI) (op : BinOp) (t : Nat) (x y : SV) (kv : SV → α) (kp : Prop → SV → α) (f : α) : α :=
  match x, y with
  | .int j a, .int i b =>
    bif kbeq j i then
      match op with
      | .add => kp (inR j (a + b)) (.int j (a + b))
      | .sub => kp (inR j (a - b)) (.int j (a - b))
      | .mul => kp (inR j (a * b)) (.int j (a * b))
      | .quo => kp (b ≠ 0 ∧ inR j (a.tdiv b)) (.int j (a.tdiv b))
      | .rem => kp (b ≠ 0) (.int j (a.tmod b))
      | .eql => kv (.bl (a == b))
      | .neq => kv (.bl (a != b))
      | .lss => kv (.bl (decide (a < b)))
      | .leq => kv (.bl (decide (a ≤ b)))
      | .gtr => kv (.bl (decide (b < a)))
      | .geq => kv (.bl (decide (b ≤ a)))
      | _ => f
    else f
  | .str a, .str b =>
    match op with
    | .eql => kv (.bl (seq a b))
    | .neq => kv (.bl (!seq a b))
    | .lss => kv (.bl (slt a b))
    | .leq => kv (.bl (slt a b || seq a b))
    | .gtr => kv (.bl (!(slt a b || seq a b)))
    | .geq => kv (.bl (!slt a b))
    | .add => kp (((a.size + b.size : Nat) : Int) ≤ 9223372036854775807) (.str (a ++ b))
    | _ => f
  | .agg xs, .agg ys =>
    match (T t).flat, op with
    | true, .eql => sameK T 0 (T t).flds xs ys (fun b => kv (.bl b)) f
    | true, .neq => sameK T 0 (T t).flds xs ys (fun b => kv (.bl (!b))) f
    | _, _ => f
  | x, y =>
    match (T t).kd, op with
    | .bool, .eql => boolK x (fun a => boolK y (fun b => kv (.bl (a == b))) f) f
    | .bool, .neq => boolK x (fun a => boolK y (fun b => kv (.bl (a != b))) f) f
    | _, _ => f

/-- The cells of a value. -/
def cellsK (sv : SV) (k : List SV → α) (f : α) : α :=
  match sv with
  | .agg l => bif SV.ones l then k l else f
  | .tup _ => f
  | .any => f
  | sv => k [sv]

def allOk : List FI → α → α → α
  | [], k, _ => k
  | fi :: fs, k, f => match fi.ok with
    | true => allOk fs k f
    | false => f

/-- The parts of a struct into its cells. -/
def fillK (fs : List FI) (env : List (Nat × SV)) : List (Nat × Operand) → List SV → (List SV → α) → α → α
  | [], cs, k, _ => k cs
  | (i, x) :: ps, cs, k, f =>
    getK i fs (fun fi => fiK fi (fun off size _ => evK env x fun sv => cellsK sv (fun l => bif Nat.beq l.length size then spliceK l off cs (fun r => fillK fs env ps r k f) f else f) f) f) f

def newK (env : List (Nat × SV)) (own : List (Nat × SO)) (nx : List Nat) (m0 : Nat) (t : Nat) (cs : List SV)
    (ko : SV → List (Nat × SO) → List Nat → α) (f : α) : α :=
  match nx with
  | [] => f
  | k :: nx => bif Nat.ble m0 k then (bif SV.noKs k cs then (bif freshE k env then (bif freshO k own then ko (.ptr k 0) ((k, .cells t cs) :: own) nx else f) else f) else f) else f

/-- One operation. -/
def op1 (T : Nat → TI) (m0 : Nat) (o : Op) (env : List (Nat × SV)) (own : List (Nat × SO)) (nx : List Nat)
    (kv : SV → α) (ko : SV → List (Nat × SO) → List Nat → α) (ks : List (Nat × SO) → α) (kp : Prop → SV → α) (f : α) : α :=
  match o with
  | .move x => evK env x kv
  | .assign x => evK env x kv
  | .pick c a b => evK env c fun s => match s with
    | .tt => evK env a kv
    | .ff => evK env b kv
    | _ => f
  | .alloc t => match (T t).kd, (T t).zok with
    | .other, _ => f
    | _, true => constsK (T t).zero fun cs => bif SV.ones cs then newK env own nx m0 t cs ko f else f
    | _, _ => f
  | .box t x => evK env x fun s => cellsK s (fun cs => newK env own nx m0 t cs ko f) f
  | .load t x => evK env x fun s => match s with
    | .ptr k off => ownK k (fun so => match so with
      | .cells _ cs => match (T t).kd with
        | .struct => dropK off cs fun l => takeK (T t).size l (fun r => kv (.agg r)) f
        | .other => f
        | _ => getK off cs kv f
      | _ => f) f own
    | .rp row off => match (T t).kd with
        | .struct => dropK off row fun l => takeK (T t).size l (fun r => upsK r fun r => kv (.agg r)) f
        | .other => f
        | _ => getK off row (fun d => upK d kv) f
    | _ => f
  | .store t x y => evK env x fun s => match s with
    | .ptr k off => ownK k (fun so => match so with
      | .cells ty cs => evK env y fun sv => cellsK sv (fun new => match (T t).kd with
        | .other => f
        | _ => bif Nat.beq new.length (T t).size then spliceK new off cs (fun r => setOwnK k (.cells ty r) own ks) f else f) f
      | _ => f) f own
    | _ => f
  | .nilCheck x => evK env x fun s => match s with
    | .ptr k off => kv (.ptr k off)
    | .rp r off => kv (.rp r off)
    | .clo g cs => kv (.clo g cs)
    | _ => f
  | .binOp op t x y _ => evK env x fun a => evK env y fun b => binK T op t a b kv kp f
  | .unOp op _ x => evK env x fun a => match op, a with
    | .not, .tt => kv .ff
    | .not, .ff => kv .tt
    | .not, .bl b => kv (.bl (!b))
    | .neg, .int k n => kp (inR k (0 - n)) (.int k (0 - n))
    | _, _ => f
  | .convert s d x => evK env x fun a => match (T s).kd, (T d).kd, a with
    | .int _, .int k, .int _ n => kp (inR k n) (.int k n)
    | .str, .str, .str b => kv (.str b)
    | _, _, _ => f
  | .fieldAddr t x i => match (T t).kd with
    | .struct => getK i (T t).flds (fun fi => fiK fi (fun fo fs _ => match fs with
      | 0 => f
      | _ + 1 => evK env x fun s => match s with
        | .ptr k off => addK off fo fun n => kv (.ptr k n)
        | .rp r off => addK off fo fun n => kv (.rp r n)
        | _ => f) f) f
    | _ => f
  | .field t x i => match (T t).kd with
    | .struct => getK i (T t).flds (fun fi => fiK fi (fun fo fs ag => evK env x fun s => match s with
        | .agg l => match ag with
          | true => dropK fo l fun l => takeK fs l (fun r => kv (.agg r)) f
          | false => getK fo l kv f
        | _ => f) f) f
    | _ => f
  | .extract x i => evK env x fun s => match s with
    | .tup l => getK i l kv f
    | _ => f
  | .build t ps => match (T t).kd, (T t).zok with
    | .struct, true => allOk (T t).flds (constsK (T t).zero fun cs => fillK (T t).flds env ps.toList cs (fun r => kv (.agg r)) f) f
    | _, _ => f
  | .makeFunc (.func g) fs caps => match fs.toList with
    | [] => evsK env caps.toList fun cs => bif SV.ones cs then kv (.clo g cs) else f
    | _ => f
  | .call { callee := .builtin .len, args, argTypes } => match argTypes.toList, args.toList with
    | [t], [x] => evK env x fun s => match (T t).kd, s with
      | .slice, .lst _ r => kv (.int .i64 r.length)
      | .slice, .gl _ _ r => kv (.int .i64 r.length)
      | .slice, .tl _ r => kv (.int .i64 r.length)
      | .slice, .arr _ n => kv (.int .i64 n)
      | .str, .str b => kv (.int .i64 b.size)
      | _, _ => f
    | _, _ => f
  | .call { callee := .builtin .max, args, argTypes := _ } => match args.toList with
    | [x, y] => evK env x fun a => evK env y fun b => match a, b with
      | .int j m, .int i n => bif kbeq j i then kv (.int j (if n > m then n else m)) else f
      | _, _ => f
    | _ => f
  | _ => f

/-- Whether an operation is wanted: the value of its guard. -/
def dstOf : List Oper → Nat → Option Nat
  | [], _ => none
  | o :: _, 0 => o.dst
  | _ :: l, n + 1 => dstOf l n

def guardK (all : List Oper) (g : Option (Nat × Bool)) (env : List (Nat × SV)) (yes no stuck : α) : α :=
  match g with
  | none => yes
  | some (j, want) => match dstOf all j with
    | none => stuck
    | some d => nthK d (fun s => match s, want with
      | .tt, true => yes
      | .ff, false => yes
      | .tt, false => no
      | .ff, true => no
      | .tup [], _ => no
      | _, _ => stuck) env

def exec (T : Nat → TI) (m0 n : Nat) : Nat → Md → List Fr → List (Nat × SV) → List (Nat × SO) → List Nat → List Prop → Out
  | 0, m, s, env, own, nx, ob => .stop m s env own nx ob
  | q + 1, m, s, env, own, nx, ob =>
    match m with
    | .norm => match s with
      | .seq c :: s => exec T m0 n q (.code c) s env own nx ob
      | .blk _ :: s => exec T m0 n q .norm s env own nx ob
      | s => .stop .norm s env own nx ob
    | .ex id => match s with
      | .seq _ :: s => exec T m0 n q (.ex id) s env own nx ob
      | .blk j :: s => bif Nat.beq id j then exec T m0 n q .norm s env own nx ob else exec T m0 n q (.ex id) s env own nx ob
      | .lp _ :: s => exec T m0 n q (.ex id) s env own nx ob
      | [] => .stop (.ex id) [] env own nx ob
    | .ret => .stop .ret [] env own nx ob
    | .code c => match c with
      | .skip => exec T m0 n q .norm s env own nx ob
      | .region _ ops false => exec T m0 n q (.ops ops.toList ops.toList) s env own nx ob
      | .seq a b => exec T m0 n q (.code a) (.seq b :: s) env own nx ob
      | .cond x a b => evK env x fun v => match v with
        | .tt => exec T m0 n q (.code a) s env own nx ob
        | .ff => exec T m0 n q (.code b) s env own nx ob
        | _ => .stop (.code (.cond x a b)) s env own nx ob
      | .block id b => exec T m0 n q (.code b) (.blk id :: s) env own nx ob
      | .exit id => exec T m0 n q (.ex id) s env own nx ob
      | .ret => .stop .ret [] env own nx ob
      | c => .stop (.code c) s env own nx ob
    | .ops all ops => match ops with
      | [] => exec T m0 n q .norm s env own nx ob
      | o :: rest => guardK all o.guard env
        (match o.dst with
        | none => op1 T m0 o.op env own nx (fun _ => exec T m0 n q (.ops all rest) s env own nx ob) (fun _ own nx => exec T m0 n q (.ops all rest) s env own nx ob)
            (fun own => exec T m0 n q (.ops all rest) s env own nx ob) (fun p _ => exec T m0 n q (.ops all rest) s env own nx (p :: ob)) (.stop (.ops all (o :: rest)) s env own nx ob)
        | some d => bif Nat.blt d n then
            op1 T m0 o.op env own nx (fun v => exec T m0 n q (.ops all rest) s ((d, v) :: env) own nx ob) (fun v own nx => exec T m0 n q (.ops all rest) s ((d, v) :: env) own nx ob)
              (fun own => exec T m0 n q (.ops all rest) s ((d, .any) :: env) own nx ob) (fun p v => exec T m0 n q (.ops all rest) s ((d, v) :: env) own nx (p :: ob)) (.stop (.ops all (o :: rest)) s env own nx ob)
          else .stop (.ops all (o :: rest)) s env own nx ob)
        (match o.dst with
        | none => exec T m0 n q (.ops all rest) s env own nx ob
        | some d => exec T m0 n q (.ops all rest) s ((d, .tup []) :: env) own nx ob)
        (.stop (.ops all (o :: rest)) s env own nx ob)

end Go.Eng
