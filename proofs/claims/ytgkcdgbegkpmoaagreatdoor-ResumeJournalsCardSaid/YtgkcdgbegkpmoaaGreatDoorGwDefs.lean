/- A small abstract interpreter for Go code: its values, its states, its rules. Nothing here is trusted; what it says of the model is proved in the texts behind this one. -/
import Derived.Calls
import Derived.WalkKit
namespace Gv
open Go

/-- The recursive record of the program (api.Node): tag, kind, number, string, kids. -/
structure Nd where
  tag : Int
  kind : Int
  n : Int
  s : ByteArray
  kids : List Nd

/-- Shapes of data: one cell (int, bool, str, sl), cells in a row (pr), the recursive record (node: five cells). -/
inductive Sh where
  | int (k : IntKind) | bool | str | sl (e : Sh) | pr (a b : Sh) | node
  deriving DecidableEq

@[reducible] def Sh.T : Sh → Type
  | .int _ => Int
  | .bool => Bool
  | .str => ByteArray
  | .sl e => List e.T
  | .pr a b => a.T × b.T
  | .node => Nd

def Sh.size : Sh → Nat
  | .pr a b => a.size + b.size
  | .node => 5
  | _ => 1

def Sh.dflt : (s : Sh) → s.T
  | .int _ => (0 : Int)
  | .bool => false
  | .str => (⟨#[]⟩ : ByteArray)
  | .sl _ => []
  | .pr a b => (a.dflt, b.dflt)
  | .node => (⟨0, 0, 0, ⟨#[]⟩, []⟩ : Nd)

/-- Abstract values. -/
inductive AV where
  | any
  | dat (s : Sh) (x : s.T)
  | nil
  | agg (l : List AV)
  | tup (l : List AV)
  | box (t off : Nat)
  | row (t : Nat)
  | cptr (l : List AV)
  | rptr (t : Nat) (i sz off : Nat)
  | fn (f : FuncId) (caps : List AV)
  | ifc (T : TypeId) (v : AV)
  | cst (v : Value)

/-- What a token stands for: a box of cells, a row of elements; the call's own (it may be written), or read alone. -/
inductive Ob where
  | box (own : Bool) (cells : List AV)
  | row (own : Bool) (T : TypeId) (e : Sh) (l : List e.T)
  | gone

structure St where
  slots : List AV
  σ : List Ob

def St.get (st : St) (i : Nat) : AV := st.slots.getD i .any
def St.put (st : St) (d : Option Tmp) (v : AV) : St :=
  match d with
  | some i => ⟨st.slots.set i v, st.σ⟩
  | none => st

/-- The cells of an element. -/
def cellsOf : (s : Sh) → s.T → List AV
  | .pr a b, x => cellsOf a x.1 ++ cellsOf b x.2
  | .node, x => [.dat (.int .i64) x.tag, .dat (.int .i64) x.kind, .dat (.int .i64) x.n, .dat .str x.s, .dat (.sl .node) x.kids]
  | s, x => [.dat s x]

def castT {s s' : Sh} (h : s' = s) (x : s'.T) : s.T := h ▸ x

/-- A cell read as a shape. -/
def asDat (s : Sh) : AV → Option s.T
  | .dat s' x => if h : s' = s then some (castT h x) else none
  | .nil => match s with
    | .sl _ => some []
    | _ => none
  | _ => none

/-- Cells read as an element; what is left over. -/
def ofCells : (s : Sh) → List AV → Option (s.T × List AV)
  | .pr a b, l => (ofCells a l).bind fun x => (ofCells b x.2).bind fun y => some ((x.1, y.1), y.2)
  | .node, l => match l with
    | a :: b :: c :: d :: e :: r => (asDat (.int .i64) a).bind fun x0 => (asDat (.int .i64) b).bind fun x1 => (asDat (.int .i64) c).bind fun x2 => (asDat .str d).bind fun x3 => (asDat (.sl .node) e).bind fun x4 => some ((⟨x0, x1, x2, x3, x4⟩ : Nd), r)
    | _ => none
  | s, l => match l with
    | a :: r => (asDat s a).bind fun x => some (x, r)
    | [] => none

def ofVal : Value → AV
  | .int k n => .dat (.int k) n
  | .bool b => .dat .bool b
  | .string s => .dat .str s
  | .slice a n c => if a.isNone && n == 0 && c == 0 then .nil else .cst (.slice a n c)
  | .agg _ => .any
  | .tuple _ => .any
  | v => .cst v

def evOp (st : St) : Operand → AV
  | .tmp t => st.get t
  | .const v => ofVal v
  | .func f => .fn f []
  | .global g => .cst (.pointer (some ⟨g, 0, none⟩))

def mapO {α β : Type} (f : α → Option β) : List α → Option (List β)
  | [] => some []
  | x :: r => (f x).bind fun y => (mapO f r).bind fun ys => some (y :: ys)

/-- What a callee sees of a value: rows as data, boxes as pointers to cells that nobody writes. -/
def closeRd (σ : List Ob) : Nat → AV → Option AV
  | 0, _ => none
  | d + 1, av => match av with
    | .dat s x => some (.dat s x)
    | .nil => some .nil
    | .any => some .any
    | .cst v => some (.cst v)
    | .agg l => (mapO (closeRd σ d) l).bind fun l => some (.agg l)
    | .tup l => (mapO (closeRd σ d) l).bind fun l => some (.tup l)
    | .cptr l => (mapO (closeRd σ d) l).bind fun l => some (.cptr l)
    | .fn f l => (mapO (closeRd σ d) l).bind fun l => some (.fn f l)
    | .ifc T v => (closeRd σ d v).bind fun v => some (.ifc T v)
    | .box t off => match σ[t]? with
      | some (.box _ cells) => (mapO (closeRd σ d) (cells.drop off)).bind fun l => some (.cptr l)
      | _ => none
    | .row t => match σ[t]? with
      | some (.row _ _ e l) => some (.dat (.sl e) l)
      | _ => none
    | .rptr _ _ _ _ => none

end Gv
