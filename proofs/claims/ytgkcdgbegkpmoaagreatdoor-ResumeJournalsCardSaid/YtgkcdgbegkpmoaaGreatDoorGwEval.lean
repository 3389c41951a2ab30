/- The abstract interpreter: what each operation, region and piece of code does to an abstract state. -/
import Derived.Test.YtgkcdgbegkpmoaaGreatDoorGwDefs
namespace Gv
open Go

/-! Forms: how a value, an object or a list of them is made out of plain data. -/
inductive Form where
  | v (s : Sh)
  | agg (l : Form) | tup (l : Form) | cp (l : Form) | fn (f : FuncId) (l : Form) | ifc (T : TypeId) (x : Form)
  | boxr (j off : Nat) | rowr (j : Nat)
  | any | nili
  | obox (l : Form) | orow (T : TypeId) (e : Sh)
  | nilL | cons (h t : Form)

@[reducible] def Form.V : Form → Type
  | .v s => s.T
  | .agg l | .tup l | .cp l | .fn _ l | .ifc _ l | .obox l => l.V
  | .orow _ e => List e.T
  | .boxr _ _ | .rowr _ | .any | .nili | .nilL => Unit
  | .cons h t => h.V × t.V

def isNilI : Value → Bool
  | .nilIface => true
  | _ => false

def getF (m : List (Option Nat)) : (f : Form) → List AV → Option f.V
  | .v s, [a] => asDat s a
  | .agg l, [.agg xs] => getF m l xs
  | .tup l, [.tup xs] => getF m l xs
  | .cp l, [.cptr xs] => getF m l xs
  | .fn f l, [.fn g xs] => if f == g then getF m l xs else none
  | .ifc T x, [.ifc U y] => if T == U then getF m x [y] else none
  | .boxr j off, [.box t o] => if (m.getD j none == some t) && off == o then some () else none
  | .rowr j, [.row t] => if m.getD j none == some t then some () else none
  | .rowr j, [.nil] => if m.getD j (some 0) == none then some () else none
  | .any, [_] => some ()
  | .nili, [.cst v] => if isNilI v then some () else none
  | .nilL, [] => some ()
  | .cons h t, x :: xs => (getF m h [x]).bind fun a => (getF m t xs).bind fun b => some (a, b)
  | _, _ => none

def getO (m : List (Option Nat)) : (f : Form) → List (Option Ob) → Option f.V
  | .obox l, [some (.box true cells)] => getF m l cells
  | .orow _ _, [none] => some []
  | .orow T e, [some (.row true U e' l)] => if T == U then (if h : e' = e then some (castT (s := .sl e) (s' := .sl e') (h ▸ rfl) l) else none) else none
  | .nilL, [] => some ()
  | .cons h t, x :: xs => (getO m h [x]).bind fun a => (getO m t xs).bind fun b => some (a, b)
  | _, _ => none

def putF (ren : List Nat) : (f : Form) → f.V → List AV
  | .v s, x => [.dat s x]
  | .agg l, x => [.agg (putF ren l x)]
  | .tup l, x => [.tup (putF ren l x)]
  | .cp l, x => [.cptr (putF ren l x)]
  | .fn f l, x => [.fn f (putF ren l x)]
  | .ifc T y, x => [.ifc T ((putF ren y x).headD .any)]
  | .boxr j off, _ => [.box (ren.getD j 0) off]
  | .rowr j, _ => [.row (ren.getD j 0)]
  | .any, _ => [.any]
  | .nili, _ => [.cst .nilIface]
  | .nilL, _ => []
  | .cons h t, x => putF ren h x.1 ++ putF ren t x.2
  | .obox _, _ => []
  | .orow _ _, _ => []

def putO (ren : List Nat) : (f : Form) → f.V → List Ob
  | .obox l, x => [.box true (putF ren l x)]
  | .orow T e, l => [.row true T e l]
  | .cons h t, x => putO ren h x.1 ++ putO ren t x.2
  | _, _ => []

/-- Where an object of a signature is found. -/
inductive Src where
  | slot (i : Nat) | cell (j c : Nat)

/-- A signature: which slots hold what, over which objects. -/
structure Sig where
  n : Nat
  srcs : List Src
  objs : Form
  idx : List Nat
  vals : Form

@[reducible] def Sig.V (s : Sig) : Type := s.objs.V × s.vals.V

def tokOf : AV → Option (Option Nat)
  | .box t 0 => some (some t)
  | .row t => some (some t)
  | .nil => some none
  | _ => none

def srcTok (slots : List AV) (σ : List Ob) (m : List (Option Nat)) : Src → Option (Option Nat)
  | .slot i => tokOf (slots.getD i .any)
  | .cell j c => match m.getD j none with
    | some t => match σ[t]? with
      | some (.box true cells) => tokOf (cells.getD c .any)
      | _ => none
    | none => none

def fresh (m : List (Option Nat)) : Option Nat → Bool
  | none => true
  | some t => m.all fun x => !(x == some t)

def resolve (slots : List AV) (σ : List Ob) : List Src → List (Option Nat) → Option (List (Option Nat))
  | [], m => some m
  | s :: r, m => (srcTok slots σ m s).bind fun t => cond (fresh m t) (resolve slots σ r (m ++ [t])) none

/-- What a callee, or a later piece of code, sees of values: rows as data where the form says so. -/
def prep (σ : List Ob) : Form → List AV → Option (List AV)
  | .cons (.boxr _ _) t, x :: xs => (prep σ t xs).bind fun r => some (x :: r)
  | .cons (.rowr _) t, x :: xs => (prep σ t xs).bind fun r => some (x :: r)
  | .cons _ t, x :: xs => (closeRd σ 6 x).bind fun y => (prep σ t xs).bind fun r => some (y :: r)
  | .nilL, [] => some []
  | _, _ => none

def ownToks (σ : List Ob) : Nat → AV → List Nat
  | 0, _ => []
  | d + 1, av => match av with
    | .row t => [t]
    | .box t _ => t :: (match σ[t]? with
      | some (.box _ cells) => (cells.map (ownToks σ d)).flatten
      | _ => [])
    | .agg l | .tup l | .cptr l | .fn _ l => (l.map (ownToks σ d)).flatten
    | .ifc _ v => ownToks σ d v
    | _ => []

def readToks (σ : List Ob) : Form → List AV → List Nat
  | .cons (.boxr _ _) t, _ :: xs => readToks σ t xs
  | .cons (.rowr _) t, _ :: xs => readToks σ t xs
  | .cons _ t, x :: xs => ownToks σ 6 x ++ readToks σ t xs
  | _, _ => []

/-- Objects as a signature sees them. -/
def prepO (σ : List Ob) : Form → List (Option Ob) → Option (List (Option Ob))
  | .cons (.obox l) t, some (.box true cells) :: xs => (prep σ l cells).bind fun cs => (prepO σ t xs).bind fun r => some (some (.box true cs) :: r)
  | .cons _ t, x :: xs => (prepO σ t xs).bind fun r => some (x :: r)
  | .nilL, [] => some []
  | _, _ => none
def readToksO (σ : List Ob) : Form → List (Option Ob) → List Nat
  | .cons (.obox l) t, some (.box true cells) :: xs => readToks σ l cells ++ readToksO σ t xs
  | .cons _ t, _ :: xs => readToksO σ t xs
  | _, _ => []

def apart (m : List (Option Nat)) (l : List Nat) : Bool := l.all fun t => m.all fun x => !(x == some t)

/-- A state as a signature sees it: the plain data in it; the tokens that it names; those that it reads. -/
def Sig.getM (s : Sig) (slots : List AV) (σ : List Ob) : Option (List (Option Nat) × List Nat × s.V) :=
  (resolve slots σ s.srcs []).bind fun m =>
  let os := m.map fun | some t => σ[t]? | none => none
  let vs := s.idx.map fun i => slots.getD i .any
  let rd := readToksO σ s.objs os ++ readToks σ s.vals vs
  if apart m rd && decide (s.n ≤ slots.length) then
    (prepO σ s.objs os).bind fun os' => (getO m s.objs os').bind fun a =>
      (prep σ s.vals vs).bind fun vs' => (getF m s.vals vs').bind fun b => some (m, rd, (a, b))
  else none

def Sig.get (s : Sig) (slots : List AV) (σ : List Ob) : Option s.V := (s.getM slots σ).bind fun x => some x.2.2

def setAll : List Nat → List AV → List AV → List AV
  | i :: is, x :: xs, l => setAll is xs (l.set i x)
  | _, _, l => l

def idRen (s : Sig) : List Nat := List.range s.srcs.length

def Sig.put (s : Sig) (x : s.V) : St :=
  ⟨setAll s.idx (putF (idRen s) s.vals x.2) (List.replicate s.n .any), putO (idRen s) s.objs x.1⟩

/-! Contracts of functions, pieces of code. -/
inductive Ex where
  | normal | ret | exit (id : Nat) | pan

/-- A way out: where to, in what state. -/
structure Out where
  e : Ex
  R : Sig
  Y : Type
  mk1 : Y → R.V
  un : R.V → Y

@[reducible] def OutsV : List Out → Type
  | [] => Empty
  | [o] => o.Y
  | o :: o' :: r => o.Y ⊕ OutsV (o' :: r)

structure Ent where
  A : Sig
  outs : List Out
  f : A.V → Option (OutsV outs)

structure Pc where
  A : Sig
  outs : List Out
  f : A.V → Option (OutsV outs)

def exB : Ex → Ex → Bool
  | .normal, .normal => true
  | .ret, .ret => true
  | .exit a, .exit b => a == b
  | .pan, .pan => true
  | _, _ => false

/-- On with what came out. -/
def elimO {α : Type} : (l : List Out) → OutsV l → (Ex → St → Option α) → Option α
  | [], y, _ => Empty.elim y
  | [o], y, K => K o.e (o.R.put (o.mk1 y))
  | o :: o' :: r, y, K => Sum.casesOn (motive := fun _ => Option α) y (fun y => K o.e (o.R.put (o.mk1 y))) (fun z => elimO (o' :: r) z K)

/-- The first way out that fits. -/
def pickO : (l : List Out) → Ex → List AV → List Ob → Option (OutsV l)
  | [], _, _, _ => none
  | [o], e, sl, σ => if exB e o.e then (o.R.get sl σ).bind fun v => some (o.un v) else none
  | o :: o' :: r, e, sl, σ => if exB e o.e && (o.R.get sl σ).isSome then (o.R.get sl σ).bind fun v => some (.inl (o.un v)) else (pickO (o' :: r) e sl σ).bind fun z => some (.inr z)

structure Cfg where
  P : Program
  sh : TypeId → Option Sh
  orc : FuncId → List FuncId → Option Ent
  pcs : Nat → Option Pc

/-- The functions among arguments; nil interfaces among them. -/
def fnsOf : List AV → List FuncId
  | [] => []
  | .fn f _ :: r => f :: fnsOf r
  | .cst v :: r => if isNilI v then 999999 :: fnsOf r else fnsOf r
  | _ :: r => fnsOf r

/-! Small words of the operations. -/
def leaf : AV → Bool
  | .any | .agg _ | .tup _ => false
  | _ => true

def avCells : AV → Option (List AV)
  | .agg l => some l
  | v => if leaf v then some [v] else none

def splice (cells : List AV) (off : Nat) (new : List AV) : List AV := cells.take off ++ new ++ cells.drop (off + new.length)

def szT (P : Program) (T : TypeId) : Option Nat := (P.info? T).bind fun i => some i.size
def aggT (P : Program) (T : TypeId) : Bool :=
  match P.underlying T with
  | some (.struct _) => true
  | some (.array _ _) => true
  | _ => false
def fldT (P : Program) (T : TypeId) (f : Nat) : Option (Nat × TypeId) :=
  match P.underlying T with
  | some (.struct fs) => (fs[f]?).bind fun x => some (x.offset, x.type)
  | _ => none
def elemT (P : Program) (T : TypeId) : Option TypeId :=
  match P.underlying T with
  | some (.slice e) => some e
  | _ => none

/-- Cells that a load of type T takes. -/
def takeT (P : Program) (T : TypeId) (cells : List AV) : Option AV :=
  match P.underlying T with
  | none => none
  | some _ => if aggT P T then (szT P T).bind fun n => if n ≤ cells.length then some (.agg (cells.take n)) else none
    else cells.head?

/-- Is an element type's zero value the shape's? -/
def zok : Sh → List Value → Option (List Value)
  | .int k, l => match l with
    | .int k' n :: r => if k == k' && n == 0 then some r else none
    | _ => none
  | .bool, l => match l with
    | .bool b :: r => if b then none else some r
    | _ => none
  | .str, l => match l with
    | .string s :: r => if s.size == 0 then some r else none
    | _ => none
  | .sl _, l => match l with
    | .slice _ n _ :: r => if n == 0 then some r else none
    | _ => none
  | .pr a b, l => (zok a l).bind fun r => zok b r
  | .node, l => match l with
    | .int k0 a :: .int k1 b :: .int k2 c :: .string s :: .slice _ n _ :: r =>
      if k0 == .i64 && k1 == .i64 && k2 == .i64 && a == 0 && b == 0 && c == 0 && s.size == 0 && n == 0 then some r else none
    | _ => none

structure ElI where
  size : Nat
  bytes : Nat

/-- An element type that has the shape e: its size and bytes. -/
def elOk (P : Program) (E : TypeId) (e : Sh) : Option ElI :=
  (P.info? E).bind fun i => i.zero.bind fun z =>
    if i.size == e.size && z.cells.size == e.size && decide (0 < e.size) && decide (0 < i.bytes) then
      match zok e z.cells.toList with
      | some [] => some ⟨i.size, i.bytes⟩
      | _ => none
    else none

def inB (i : Int) (n : Nat) : Bool := decide (0 ≤ i) && decide (i < n)
def rdL (e : Sh) (l : List e.T) (i : Int) : e.T := l.getD i.toNat e.dflt
def byteAt (s : ByteArray) (i : Int) : Int := ((s.data.toList.getD i.toNat 0).toNat : Int)
def fits (n bytes : Nat) : Bool := decide (n * bytes ≤ 140737488355328)

def invA (t : Nat) : Nat → AV → AV
  | 0, _ => .any
  | d + 1, av => match av with
    | .row t' => if t' == t then .any else .row t'
    | .rptr t' i z o => if t' == t then .any else .rptr t' i z o
    | .box t' o => if t' == t then .any else .box t' o
    | .agg l => .agg (l.map (invA t d))
    | .tup l => .tup (l.map (invA t d))
    | .cptr l => .cptr (l.map (invA t d))
    | .fn f l => .fn f (l.map (invA t d))
    | .ifc T v => .ifc T (invA t d v)
    | v => v
def invO (t : Nat) : Ob → Ob
  | .box o l => .box o (l.map (invA t 6))
  | o => o
def inv (t : Nat) (st : St) : St := ⟨st.slots.map (invA t 6), st.σ.map (invO t)⟩

def frz : Ob → Ob
  | .box _ l => .box false l
  | .row _ T e l => .row false T e l
  | .gone => .gone
def freeze (σ : List Ob) : List Nat → List Ob
  | [] => σ
  | t :: r => freeze (σ.modify t frz) r

def scal : Nat → AV → Bool
  | 0, _ => false
  | d + 1, av => match av with
    | .dat (.int _) _ | .dat .bool _ | .dat .str _ | .nil => true
    | .agg l | .tup l => l.all (scal d)
    | _ => false

section
variable {α : Type}

def intOp (op : BinOp) (k : IntKind) (a b : Int) (K : AV → Option α) : Option α :=
  match op with
  | .add => K (.dat (.int k) (k.wrap (a + b)))
  | .sub => K (.dat (.int k) (k.wrap (a - b)))
  | .mul => K (.dat (.int k) (k.wrap (a * b)))
  | .quo => cond (b == 0) none (K (.dat (.int k) (k.wrap (a.tdiv b))))
  | .rem => cond (b == 0) none (K (.dat (.int k) (a.tmod b)))
  | .and => K (.dat (.int k) (k.wrap (BitVec.ofInt k.bits a &&& BitVec.ofInt k.bits b).toNat))
  | .or => K (.dat (.int k) (k.wrap (BitVec.ofInt k.bits a ||| BitVec.ofInt k.bits b).toNat))
  | .xor => K (.dat (.int k) (k.wrap (BitVec.ofInt k.bits a ^^^ BitVec.ofInt k.bits b).toNat))
  | .andNot => K (.dat (.int k) (k.wrap (BitVec.ofInt k.bits a &&& ~~~ BitVec.ofInt k.bits b).toNat))
  | .eql => K (.dat .bool (a == b))
  | .neq => K (.dat .bool (a != b))
  | .lss => K (.dat .bool (decide (a < b)))
  | .leq => K (.dat .bool (decide (a ≤ b)))
  | .gtr => K (.dat .bool (decide (a > b)))
  | .geq => K (.dat .bool (decide (a ≥ b)))
  | _ => none

def shiftOp (op : BinOp) (k : IntKind) (a b : Int) (K : AV → Option α) : Option α :=
  match op with
  | .shl => cond (decide (b < 0)) none (K (.dat (.int k) (k.wrap (a * 2 ^ (min b.toNat k.bits)))))
  | .shr => cond (decide (b < 0)) none (K (.dat (.int k) (a.fdiv (2 ^ (min b.toNat k.bits)))))
  | _ => none

def strOp (op : BinOp) (a b : ByteArray) (K : AV → Option α) : Option α :=
  match op with
  | .eql => K (.dat .bool (a.toList == b.toList))
  | .neq => K (.dat .bool (!(a.toList == b.toList)))
  | .lss => K (.dat .bool (Op.bytesLess a.toList b.toList))
  | .leq => K (.dat .bool (Op.bytesLess a.toList b.toList || a.toList == b.toList))
  | .gtr => K (.dat .bool (!(Op.bytesLess a.toList b.toList || a.toList == b.toList)))
  | .geq => K (.dat .bool (!Op.bytesLess a.toList b.toList))
  | .add => cond (decide (a.size + b.size ≤ 140737488355328)) (K (.dat .str (a ++ b))) none
  | _ => none

def isShift : BinOp → Bool
  | .shl | .shr => true
  | _ => false

/-- '==' of two values of a type, cell by cell. -/
def eqFs (P : Program) (eq : TypeId → List AV → List AV → Option Bool) : List Field → Nat → List AV → List AV → Option Bool
  | [], _, A, B => if A.isEmpty && B.isEmpty then some true else none
  | f :: r, n, A, B => if f.name != "_" && f.offset == n then (szT P f.type).bind fun k =>
      if decide (0 < k) && decide (k ≤ A.length) && decide (k ≤ B.length) then (eq f.type (A.take k) (B.take k)).bind fun c => (eqFs P eq r (n + k) (A.drop k) (B.drop k)).bind fun c' => some (c && c') else none
    else none
def eqV (P : Program) : Nat → TypeId → List AV → List AV → Option Bool
  | 0, _, _, _ => none
  | d + 1, T, A, B => match P.underlying T with
    | some (.int _) => match A, B with
      | [.dat (.int k) a], [.dat (.int k') b] => if k == k' then some (a == b) else none
      | _, _ => none
    | some .bool => match A, B with
      | [.dat .bool a], [.dat .bool b] => some (a == b)
      | _, _ => none
    | some .string => match A, B with
      | [.dat .str a], [.dat .str b] => some (a.toList == b.toList)
      | _, _ => none
    | some (.struct fs) => if P.stoodInHeld T then none else eqFs P (eqV P d) fs.toList 0 A B
    | _ => none

def binK (P : Program) (T : TypeId) (op : BinOp) (x y : AV) (K : AV → Option α) : Option α :=
  match x, y with
  | .dat (.int k) a, .dat (.int k') b => if isShift op then shiftOp op k a b K else if k == k' then intOp op k a b K else none
  | .dat .bool a, .dat .bool b => match P.underlying T, op with
    | some .bool, .eql => K (.dat .bool (a == b))
    | some .bool, .neq => K (.dat .bool (!(a == b)))
    | _, _ => none
  | .dat .str a, .dat .str b => strOp op a b K
  | .agg a, .agg b => if aggT P T && !P.eqGuardType P.depth T then (eqV P 8 T a b).bind fun c => match op with
    | .eql => K (.dat .bool c)
    | .neq => K (.dat .bool (!c))
    | _ => none
    else none
  | _, _ => none

def isConstO : Operand → Bool
  | .const _ => true
  | _ => false
def isIfT (P : Program) (T : TypeId) : Bool :=
  match P.underlying T with
  | some (.interface _) => true
  | _ => false
def isSlT (P : Program) (T : TypeId) : Bool :=
  match P.underlying T with
  | some (.slice _) => true
  | _ => false
def cmpK (op : BinOp) (b : Bool) (K : AV → Option α) : Option α :=
  match op with
  | .eql => K (.dat .bool b)
  | .neq => K (.dat .bool (!b))
  | _ => none
/-- '==' with nil: of an interface value, of a slice. -/
def isSpc : AV → AV → Bool
  | .ifc _ _, .cst _ | .cst _, .ifc _ _ | .cst _, .cst _ | .nil, .nil | .dat (.sl _) _, .nil => true
  | _, _ => false
def spcK (P : Program) (T : TypeId) (lit : Bool) (op : BinOp) (x y : AV) (K : AV → Option α) : Option α :=
  match x, y with
  | .ifc _ _, .cst v => if isNilI v && isIfT P T then cmpK op false K else none
  | .cst v, .ifc _ _ => if isNilI v && isIfT P T then cmpK op false K else none
  | .cst v, .cst u => if isNilI v && (isNilI u && (isIfT P T && lit)) then cmpK op true K else none
  | .nil, .nil => if isSlT P T then cmpK op true K else none
  | .dat (.sl _) l, .nil => if isSlT P T then cond (decide (0 < l.length)) (cmpK op false K) none else none
  | _, _ => none

/-- The string of bytes. -/
def bytesOf (l : List Int) : ByteArray := l.foldl (fun r n => r.push (UInt8.ofNat n.toNat)) ByteArray.empty
def isBytesT (P : Program) (T : TypeId) : Bool :=
  match P.underlying T with
  | some (.slice E) => (match P.underlying E with
    | some (.int .u8) => true
    | _ => false)
  | _ => false
def isStrT (P : Program) (T : TypeId) : Bool :=
  match P.underlying T with
  | some .string => true
  | _ => false

def unK (op : UnOp) (x : AV) (K : AV → Option α) : Option α :=
  match op, x with
  | .neg, .dat (.int k) n => K (.dat (.int k) (k.wrap (0 - n)))
  | .not, .dat .bool b => K (.dat .bool (!b))
  | .xor, .dat (.int k) n => K (.dat (.int k) (k.wrap (BitVec.ofInt k.bits (if k.signed then -1 else k.max) ^^^ BitVec.ofInt k.bits n).toNat))
  | _, _ => none

def convK (P : Program) (src dst : TypeId) (x : AV) (K : AV → Option α) : Option α :=
  match P.underlying src, P.underlying dst, x with
  | some _, some (.int k), .dat (.int _) n => K (.dat (.int k) (k.wrap n))
  | some _, some .string, .dat .str s => K (.dat .str s)
  | _, _, _ => none

def lenK (P : Program) (T : TypeId) (x : AV) (σ : List Ob) (K : AV → Option α) : Option α :=
  match P.underlying T, x with
  | some (.slice _), .dat (.sl _) l => K (.dat (.int .i64) (l.length : Int))
  | some .string, .dat .str s => K (.dat (.int .i64) (s.size : Int))
  | some (.slice _), .nil => K (.dat (.int .i64) 0)
  | some (.slice _), .row t => match σ[t]? with
    | some (.row _ _ _ l) => K (.dat (.int .i64) (l.length : Int))
    | _ => none
  | _, _ => none

def minF (mx : Bool) (k : IntKind) : Int → List AV → (AV → Option α) → Option α
  | a, [], K => K (.dat (.int k) a)
  | a, .dat (.int _) b :: r, K => minF mx k (if mx then (if b > a then b else a) else (if b < a then b else a)) r K
  | _, _, _ => none
def minK (mx : Bool) (l : List AV) (K : AV → Option α) : Option α :=
  match l with
  | .dat (.int k) a :: r => minF mx k a r K
  | _ => none

/-- A struct's cells, part by part. -/
def fillA (ρ : Operand → AV) (pl : List (Nat × Nat)) : List AV → List (Nat × Operand) → Option (List AV)
  | cells, [] => some cells
  | cells, (i, x) :: r => (pl[i]?).bind fun p => (avCells (ρ x)).bind fun new =>
      if new.length == p.2 && decide (p.1 + new.length ≤ cells.length) then fillA ρ pl (splice cells p.1 new) r else none

/-- The operations that change nothing: a value out of values. -/
def opN (C : Cfg) (σ : List Ob) (ρ : Operand → AV) (o : Oper) (K : AV → Option α) : Option α :=
  match o.op with
  | .move x | .assign x => K (ρ x)
  | .binOp op T x y _ => if isSpc (ρ x) (ρ y) then spcK C.P T (isConstO x || isConstO y) op (ρ x) (ρ y) K else binK C.P T op (ρ x) (ρ y) K
  | .unOp op _ x => unK op (ρ x) K
  | .convert src dst x => if isBytesT C.P src && isStrT C.P dst then (closeRd σ 6 (ρ x)).bind fun v => (asDat (.sl (.int .u8)) v).bind fun l => K (.dat .str (bytesOf l)) else convK C.P src dst (ρ x) K
  | .nilCheck x => match ρ x with
    | .box t o => K (.box t o)
    | .cptr l => K (.cptr l)
    | .rptr t i z o => K (.rptr t i z o)
    | .fn f l => K (.fn f l)
    | .ifc T v => K (.ifc T v)
    | _ => none
  | .makeInterface T x => match C.P.underlying T with
    | some (.interface _) => none
    | some _ => K (.ifc T (ρ x))
    | none => none
  | .makeFunc (.func f) first captured => if first.isEmpty then K (.fn f (captured.toList.map ρ)) else none
  | .build T parts => match C.P.underlying T with
    | some (.struct fs) => (C.P.info? T).bind fun i => i.zero.bind fun z =>
      (fs.toList.mapM fun f => (C.P.info? f.type).map fun i => (f.offset, i.size)).bind fun pl =>
        (fillA ρ pl (z.cells.toList.map ofVal) parts.toList).bind fun cells => K (.agg cells)
    | _ => none
  | .load T a => match ρ a with
    | .box t off => match σ[t]? with
      | some (.box _ cells) => (takeT C.P T (cells.drop off)).bind K
      | _ => none
    | .cptr cells => (takeT C.P T cells).bind K
    | .rptr t i z off => match σ[t]? with
      | some (.row _ _ e l) => if z == e.size && decide (off < z) then (takeT C.P T ((cellsOf e (l.getD i e.dflt)).drop off)).bind K else none
      | _ => none
    | _ => none
  | .fieldAddr T x f => (fldT C.P T f).bind fun p => (szT C.P p.2).bind fun n => if n == 0 then none else
    match ρ x with
    | .box t off => K (.box t (off + p.1))
    | .cptr l => K (.cptr (l.drop p.1))
    | .rptr t i z off => K (.rptr t i z (off + p.1))
    | _ => none
  | .field T x f => (fldT C.P T f).bind fun p => (szT C.P p.2).bind fun k => match ρ x with
    | .agg l => if decide (0 < k) && decide (p.1 + k ≤ l.length) then (takeT C.P p.2 (l.drop p.1)).bind K else none
    | _ => none
  | .indexAddr T x i => (elemT C.P T).bind fun E => (szT C.P E).bind fun n => match ρ x, ρ i with
    | .dat (.sl e) l, .dat (.int _) j => if n == e.size then cond (inB j l.length) (K (.cptr (cellsOf e (rdL e l j)))) none else none
    | .row t, .dat (.int _) j => match σ[t]? with
      | some (.row _ _ e l) => if n == e.size then cond (inB j l.length) (K (.rptr t j.toNat n 0)) none else none
      | _ => none
    | _, _ => none
  | .index T x i => match C.P.underlying T, ρ x, ρ i with
    | some .string, .dat .str s, .dat (.int _) j => cond (inB j s.size) (K (.dat (.int .u8) (byteAt s j))) none
    | _, _, _ => none
  | .slice T x lo hi none => match C.P.underlying T, ρ x with
    | some .string, .dat .str s =>
      let a := match lo with
        | some y => ρ y
        | none => .dat (.int .i64) 0
      let b := match hi with
        | some y => ρ y
        | none => .dat (.int .i64) (s.size : Int)
      match a, b with
      | .dat (.int _) i, .dat (.int _) j => cond (decide (0 ≤ i) && (decide (i ≤ j) && decide (j ≤ s.size))) (K (.dat .str (s.extract i.toNat j.toNat))) none
      | _, _ => none
    | some (.slice E), .dat (.sl e) l => (szT C.P E).bind fun n => if n == e.size then
      let a := match lo with
        | some y => ρ y
        | none => .dat (.int .i64) 0
      let b := match hi with
        | some y => ρ y
        | none => .dat (.int .i64) (l.length : Int)
      match a, b with
      | .dat (.int _) i, .dat (.int _) j => cond (decide (0 ≤ i) && (decide (i ≤ j) && decide (j ≤ l.length))) (K (.dat (.sl e) ((l.take j.toNat).drop i.toNat))) none
      | _, _ => none
      else none
    | some (.slice E), .row t => match lo, hi with
      | none, none => (szT C.P E).bind fun _ => K (.row t)
      | _, _ => none
    | _, _ => none
  | .extract x i => match ρ x with
    | .tup l => (l[i]?).bind K
    | _ => none
  | .call c => match c.callee with
    | .builtin .len => match c.args.toList, c.argTypes.toList with
      | [x], [T] => lenK C.P T (ρ x) σ K
      | _, _ => none
    | .builtin .min => minK false (c.args.toList.map ρ) K
    | .builtin .max => minK true (c.args.toList.map ρ) K
    | _ => none
  | _ => none

end
end Gv
