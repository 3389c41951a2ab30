/- The abstract interpreter: regions, code, functions. -/
import Derived.Test.YtgkcdgbegkpmoaaGvEval
namespace Gv
open Go

section
variable {α : Type}

/-- Forms without a token. -/
def plainF : Form → Bool
  | .boxr _ _ | .rowr _ | .obox _ | .orow _ _ => false
  | .ifc _ (.cons _ _) => false
  | .agg l | .tup l | .cp l | .fn _ l | .ifc _ l => plainF l
  | .cons h t => plainF h && plainF t
  | _ => true

def lenIs : List AV → Nat → Bool
  | [], 0 => true
  | _ :: l, n + 1 => lenIs l n
  | _, _ => false

def isL0 : List Nat → Bool
  | [0] => true
  | _ => false

/-- A call by the callee's contract: data in, data out. -/
def callE (E : Ent) (st : St) (avs : List AV) (K : AV → St → Option α) : Option α :=
  if E.A.srcs.isEmpty && (E.R.srcs.isEmpty && (plainF E.R.vals && (isL0 E.R.idx && (E.R.n == 1 && lenIs avs E.A.n)))) then
  (E.A.getM avs st.σ).bind fun g =>
  (E.f g.2.2).bind fun y =>
    let ret := (putF [] E.R.vals (E.mkR y).2).headD .any
    K ret ⟨st.slots, if scal 6 ret then st.σ else freeze st.σ g.2.1⟩
  else none

/-- The operations that make something new: a value, and the state behind. -/
def opA (C : Cfg) (st : St) (ρ : Operand → AV) (o : Oper) (K : AV → St → Option α) : Option α :=
  let n := st.σ.length
  match o.op with
  | .alloc T => (C.P.info? T).bind fun i => i.zero.bind fun z => K (.box n 0) ⟨st.slots, st.σ ++ [.box true (z.cells.toList.map ofVal)]⟩
  | .box T x => (avCells (ρ x)).bind fun cells => (szT C.P T).bind fun k => if k == cells.length then K (.box n 0) ⟨st.slots, st.σ ++ [.box true cells]⟩ else none
  | .buildSlice T len parts => (elemT C.P T).bind fun E => (C.sh E).bind fun e => (elOk C.P E e).bind fun _ =>
      if (parts.toList.map (·.1)) == List.range len && decide (len * e.size ≤ 16777216) then
        let σf := freeze st.σ ((parts.toList.map fun (p : Nat × Operand) => ownToks st.σ 6 (ρ p.2)).flatten)
        (mapO (fun (p : Nat × Operand) => (closeRd σf 6 (ρ p.2)).bind fun x => (avCells x).bind fun cs => (ofCells e cs).bind fun y => if y.2.isEmpty then some y.1 else none) parts.toList).bind fun l =>
          K (.row n) ⟨st.slots, σf ++ [.row true E e l]⟩
      else none
  | .makeSlice T a b => (elemT C.P T).bind fun E => (C.sh E).bind fun e => (elOk C.P E e).bind fun i =>
      match ρ a, ρ b with
      | .dat (.int _) x, .dat (.int _) y => cond (decide (0 ≤ x) && (decide (x ≤ y) && fits y.toNat i.bytes)) (K (.row n) ⟨st.slots, st.σ ++ [.row true E e (List.replicate x.toNat e.dflt)]⟩) none
      | _, _ => none
  | _ => none

/-- The operations that write. -/
def opM (C : Cfg) (st : St) (o : Oper) (K : AV → St → Option α) : Option α :=
  match o.op with
  | .store T a x => (szT C.P T).bind fun k => (avCells (evOp st x)).bind fun new => if new.length == k && new.all leaf then
      match evOp st a with
      | .box t off => match st.σ[t]? with
        | some (.box true cells) => if decide (off + k ≤ cells.length) then K .any ⟨st.slots, st.σ.set t (.box true (splice cells off new))⟩ else none
        | _ => none
      | .rptr t i z off => match st.σ[t]? with
        | some (.row true _ _ _) =>
          let σf := freeze st.σ ((new.map (ownToks st.σ 6)).flatten)
          match σf[t]? with
          | some (.row true E e l) => if z == e.size then (mapO (closeRd σf 6) new).bind fun cs => (ofCells e (splice (cellsOf e (l.getD i e.dflt)) off cs)).bind fun y =>
            if y.2.isEmpty && decide (off + k ≤ e.size) then K .any ⟨st.slots, σf.set t (.row true E e (l.set i y.1))⟩ else none
            else none
          | _ => none
        | _ => none
      | _ => none
    else none
  | .call c => match c.callee, c.args.toList, c.argTypes.toList with
    | .builtin .append, [x, y], [t, u] => if t == u then (elemT C.P t).bind fun E => (C.sh E).bind fun e => (elOk C.P E e).bind fun i =>
        (closeRd st.σ 6 (evOp st y)).bind fun v => (asDat (.sl e) v).bind fun ly =>
          match evOp st x with
          | .nil => cond (fits ly.length i.bytes) (K (.row st.σ.length) ⟨st.slots, st.σ ++ [.row true E e ly]⟩) none
          | .row t => match st.σ[t]? with
            | some (.row true E' e' l) => if E == E' then (if h : e' = e then
                cond (fits (l.length + ly.length) i.bytes) (let st' := inv t st; K (.row t) ⟨st'.slots, st'.σ.set t (.row true E e (castT (s := .sl e) (s' := .sl e') (h ▸ rfl) l ++ ly))⟩) none else none) else none
            | _ => none
          | _ => none
        else none
    | .value f, l, _ => match evOp st f with
      | .fn g caps => (C.orc g).bind fun E => callE E st (l.map (evOp st) ++ caps) K
      | _ => none
    | _, _, _ => none
  | _ => none

def isN : Op → Bool
  | .move _ | .assign _ | .binOp .. | .unOp .. | .convert .. | .nilCheck _ | .makeInterface .. | .makeFunc .. | .build .. | .load .. | .fieldAddr .. | .field .. | .indexAddr .. | .index .. | .slice .. | .extract .. => true
  | .call { callee := .builtin .len, .. } | .call { callee := .builtin .min, .. } | .call { callee := .builtin .max, .. } => true
  | _ => false
def isA : Op → Bool
  | .alloc _ | .box .. | .buildSlice .. | .makeSlice .. => true
  | _ => false

/-- One operation. -/
def op1 (C : Cfg) (st : St) (o : Oper) (K : St → Option α) : Option α :=
  if isN o.op then opN C st.σ (evOp st) o fun v => K (st.put o.dst v)
  else if isA o.op then opA C st (evOp st) o fun v st' => K (st'.put o.dst v)
  else opM C st o fun v st' => K (st'.put o.dst v)

def dstOf (ops : Array Oper) (j : Nat) : Option Nat := (ops[j]?).bind fun (o : Oper) => o.dst

def gEq (x y : Nat × Bool) : Bool := x.1 == y.1 && x.2 == y.2
/-- Is an operation's guard known to hold? -/
def gOk (kn : List (Nat × Bool)) : Option (Nat × Bool) → Bool
  | none => true
  | some g => kn.any (gEq g)

/-- The 'pick' that a group of guarded operations ends with. -/
def splitPick (kn : List (Nat × Bool)) (s : Nat) : List Oper → Option (List Oper × Oper × List Oper)
  | [] => none
  | o :: r => match o.op with
    | .pick (.tmp t) _ _ => if t == s && gOk kn o.guard then some ([], o, r) else (splitPick kn s r).bind fun x => some (o :: x.1, x.2.1, x.2.2)
    | _ => (splitPick kn s r).bind fun x => some (o :: x.1, x.2.1, x.2.2)

def dIs (d : Option Nat) (s : Nat) : Bool :=
  match d with
  | some d => d == s
  | none => false

/-- Where the guard does not hold, the group's operations do nothing: each hangs on it, or on one of the group that did nothing. -/
def skips (ops : Array Oper) (g : Nat × Bool) : List Nat → List Oper → Bool
  | _, [] => true
  | ds, o :: r => (match o.guard with
    | none => false
    | some h => gEq h g || (match dstOf ops h.1 with
      | some d => ds.contains d
      | none => true)) && skips ops g (match o.dst with
        | some d => d :: ds
        | none => ds) r

def grpOk (ops : Array Oper) (g : Nat × Bool) (s : Nat) (l : List Oper) : Bool := (l.all fun o => !dIs o.dst s) && skips ops g [] l

/-- A group in a region of drawn order: each operation hangs on the one condition. -/
def grpAll (g : Nat × Bool) (s : Nat) (l : List Oper) : Bool := l.all fun o => !dIs o.dst s && (match o.guard with
  | some h => gEq h g
  | none => false)

def asB : AV → Option Bool
  | .dat .bool b => some b
  | _ => none

def pickV (st : St) (lit : Bool) : Op → Option Bool
  | .pick _ x y => asB (evOp st (if lit then x else y))
  | _ => none

def anys (l : List Oper) (st : St) : St := l.foldl (fun st x => st.put x.dst .any) st

/-- A call within a group, or a region of drawn order: by contract. -/
def callV (C : Cfg) (st : St) (ρ : Operand → AV) (c : Call) (K : AV → St → Option α) : Option α :=
  match c.callee with
  | .value f => match ρ f with
    | .fn g caps => (C.orc g).bind fun N => callE N st (c.args.toList.map ρ ++ caps) K
    | _ => none
  | _ => none

/-- Operations that change nothing, guarded ones among them: the state's slots alone. -/
def evG (C : Cfg) (ops : Array Oper) : Nat → List (Nat × Bool) → List Oper → St → (St → Option Bool) → Option Bool
  | 0, _, _, _, _ => none
  | _ + 1, _, [], st, K => K st
  | n + 1, kn, o :: r, st, K =>
    if gOk kn o.guard then
      if isN o.op then opN C st.σ (evOp st) o fun v => evG C ops n kn r (st.put o.dst v) K
      else (match o.op with
        | .pick c a b => (asB (evOp st c)).bind fun x => cond x (evG C ops n kn r (st.put o.dst (evOp st a)) K) (evG C ops n kn r (st.put o.dst (evOp st b)) K)
        | .call c => callV C st (evOp st) c fun v _ => if scal 6 v then evG C ops n kn r (st.put o.dst v) K else none
        | _ => none)
    else match o.guard with
    | none => none
    | some (j, want) => (dstOf ops j).bind fun s => (asB (st.get s)).bind fun b =>
        match splitPick kn s (o :: r) with
        | some (g, p, r') => if grpOk ops (j, want) s g then
            (cond b
              (if want then evG C ops n ((j, want) :: kn) g (st.put (some s) (.dat .bool true)) fun st' => pickV st' true p.op else pickV (anys g st) true p.op)
              (if want then pickV (anys g st) false p.op else evG C ops n ((j, want) :: kn) g (st.put (some s) (.dat .bool false)) fun st' => pickV st' false p.op)).bind fun c =>
              evG C ops n kn r' ((anys g st).put p.dst (.dat .bool c)) K
          else none
        | none => none

/-- The operations of a region, in the order of the text. -/
def evOps (C : Cfg) (ops : Array Oper) : Nat → List Oper → St → (St → Option α) → Option α
  | 0, _, _, _ => none
  | _ + 1, [], st, K => K st
  | n + 1, o :: r, st, K => match o.guard with
    | none => (match o.op with
      | .pick c a b => (asB (evOp st c)).bind fun x => cond x (evOps C ops n r (st.put o.dst (evOp st a)) K) (evOps C ops n r (st.put o.dst (evOp st b)) K)
      | _ => op1 C st o fun st' => evOps C ops n r st' K)
    | some (j, want) => (dstOf ops j).bind fun s => (asB (st.get s)).bind fun b =>
        match splitPick [] s (o :: r) with
        | some (g, p, r') => if grpOk ops (j, want) s g then
            (cond b
              (if want then evG C ops n [(j, want)] g (st.put (some s) (.dat .bool true)) fun st' => pickV st' true p.op else pickV (anys g st) true p.op)
              (if want then pickV (anys g st) false p.op else evG C ops n [(j, want)] g (st.put (some s) (.dat .bool false)) fun st' => pickV st' false p.op)).bind fun c =>
              evOps C ops n r' ((anys g st).put p.dst (.dat .bool c)) K
          else none
        | none =>
          cond b (let st1 := st.put (some s) (.dat .bool true); if want then op1 C st1 o fun st' => evOps C ops n r st' K else evOps C ops n r (st1.put o.dst .any) K)
                 (let st1 := st.put (some s) (.dat .bool false); if want then evOps C ops n r (st1.put o.dst .any) K else op1 C st1 o fun st' => evOps C ops n r st' K)

/-! Regions of drawn order. -/
def depsM (o : Oper) : Nat := o.after.toList.foldl (fun m e => if Region.binds .any e then m ||| (1 <<< e.on) else m) 0
/-- What comes before an operation, in every order: a set of places, as the bits of a number. -/
def closes : List Oper → List Nat → List Nat
  | [], acc => acc
  | o :: r, acc => closes r (acc ++ [(List.range acc.length).foldl (fun s i => if s.testBit i then s ||| acc.getD i 0 else s) (depsM o)])
/-- May all that lies before a place be done before all that lies behind it? -/
def cutAt (cl : List Nat) (m : Nat) : Bool := (cl.drop m).all fun s => (s &&& (2 ^ m - 1)) == 2 ^ m - 1
/-- The blocks of a region. -/
def blocks (cl : List Nat) : Nat → List Oper → List Oper → List (List Oper)
  | _, [], cur => if cur.isEmpty then [] else [cur]
  | m, o :: r, cur => if cutAt cl (m + 1) then (cur ++ [o]) :: blocks cl (m + 1) r [] else blocks cl (m + 1) r (cur ++ [o])
def back : Nat → List Oper → Bool
  | _, [] => true
  | m, o :: r => decide (depsM o < 2 ^ m) && back (m + 1) r

/-- An operand in a block: what the block's operations put down is seen only by those that come behind them in every order. -/
def mev (bd : List (Nat × Option Nat)) (o : Oper) (st : St) : Operand → AV
  | .tmp t => if bd.any fun p => dIs p.2 t && !(depsM o).testBit p.1 then .any else st.get t
  | y => evOp st y

def evAB (C : Cfg) (pure : Bool) (kn : List (Nat × Bool)) (bd : List (Nat × Option Nat)) : List Oper → St → (St → Option α) → Option α
  | [], st, K => K st
  | o :: r, st, K => if gOk kn o.guard then
      if isN o.op then opN C st.σ (mev bd o st) o fun v => evAB C pure kn bd r (st.put o.dst v) K
      else if isA o.op then (if pure then none else opA C st (mev bd o st) o fun v st' => evAB C pure kn bd r ⟨(st.put o.dst v).slots, st'.σ⟩ K)
      else (match o.op with
        | .call c => callV C st (mev bd o st) c fun v st' => if pure && !scal 6 v then none else evAB C pure kn bd r ⟨(st.put o.dst v).slots, st'.σ⟩ K
        | _ => none)
    else none

def zipFrom : Nat → List Oper → List (Nat × Option Nat)
  | _, [] => []
  | m, o :: r => (m, o.dst) :: zipFrom (m + 1) r

def distinct : List Nat → Bool
  | [] => true
  | d :: r => !(r.contains d) && distinct r

/-- One block: an operation by itself, or some in whatever order. -/
def blkOk (l : List Oper) : Bool := distinct (l.filterMap fun o => o.dst)

def evGB (C : Cfg) (kn : List (Nat × Bool)) : Nat → List (List Oper) → St → (St → Option Bool) → Option Bool
  | _, [], st, K => K st
  | m, b :: bs, st, K => if blkOk b then evAB C true kn (zipFrom m b) b st fun st' => evGB C kn (m + b.length) bs st' K else none

def splitB (s : Nat) : List (List Oper) → Option (List (List Oper) × Oper × List (List Oper))
  | [] => none
  | b :: bs => match b with
    | [o] => (match o.op, o.guard with
      | .pick (.tmp t) _ _, none => if t == s then some ([], o, bs) else (splitB s bs).bind fun x => some (b :: x.1, x.2.1, x.2.2)
      | _, _ => (splitB s bs).bind fun x => some (b :: x.1, x.2.1, x.2.2))
    | _ => (splitB s bs).bind fun x => some (b :: x.1, x.2.1, x.2.2)

def evDr (C : Cfg) (ops : Array Oper) : Nat → Nat → List (List Oper) → St → (St → Option α) → Option α
  | 0, _, _, _, _ => none
  | _ + 1, _, [], st, K => K st
  | n + 1, m, b :: bs, st, K => match b with
    | [] => none
    | o :: r => match o.guard with
      | none => (match r with
        | [] => (match o.op with
          | .pick c a b => (asB (evOp st c)).bind fun x => cond x (evDr C ops n (m + 1) bs (st.put o.dst (evOp st a)) K) (evDr C ops n (m + 1) bs (st.put o.dst (evOp st b)) K)
          | _ => op1 C st o fun st' => evDr C ops n (m + 1) bs st' K)
        | _ => if blkOk b then evAB C false [] (zipFrom m b) b st fun st' => evDr C ops n (m + b.length) bs st' K else none)
      | some (j, want) => (dstOf ops j).bind fun s => (asB (st.get s)).bind fun v =>
        match splitB s (b :: bs) with
        | some (gs, p, bs') => let g := gs.flatten; if grpAll (j, want) s g then
            (cond v
              (if want then evGB C [(j, want)] m gs (st.put (some s) (.dat .bool true)) fun st' => pickV st' true p.op else pickV (anys g st) true p.op)
              (if want then pickV (anys g st) false p.op else evGB C [(j, want)] m gs (st.put (some s) (.dat .bool false)) fun st' => pickV st' false p.op)).bind fun c =>
              evDr C ops n (m + g.length + 1) bs' ((anys g st).put p.dst (.dat .bool c)) K
          else none
        | none => none

def evDraw (C : Cfg) (ops : Array Oper) (st : St) (K : St → Option α) : Option α :=
  if back 0 ops.toList then evDr C ops (ops.size + 1) 0 (blocks (closes ops.toList []) 0 ops.toList []) st K else none

/-- Code, at a place of the function's body; pieces by their contracts. -/
def evC (C : Cfg) : Code → Nat → St → (Ex → St → Option α) → Option α
  | c, p, st, K =>
    match C.pcs p with
    | some (.one A e R _ f mk) => (A.get st.slots st.σ).bind fun x => (f x).bind fun y => K e (R.put (mk y))
    | some (.two A e R _ mk e' R' _ mk' f) => (A.get st.slots st.σ).bind fun x => (f x).bind fun y => Sum.casesOn y (fun y => K e (R.put (mk y))) (fun y => K e' (R'.put (mk' y)))
    | none => match c with
      | .skip => K .normal st
      | .region _ ops false => evOps C ops (2 * ops.size + 2) ops.toList st (K .normal)
      | .region _ ops true => evDraw C ops st (K .normal)
      | .seq a b => evC C a (2 * p) st fun e st' => match e with
        | .normal => evC C b (2 * p + 1) st' K
        | e => K e st'
      | .cond c a b => (asB (evOp st c)).bind fun x => cond x (evC C a (2 * p) st K) (evC C b (2 * p + 1) st K)
      | .block id a => evC C a (2 * p) st fun e st' => match e with
        | .exit id' => if id' == id then K .normal st' else K (.exit id') st'
        | e => K e st'
      | .exit id => K (.exit id) st
      | .ret => K .ret st
      | _ => none

def resOf (C : Cfg) (st : St) : ResultVar → Option AV
  | .tmp t => some (st.get t)
  | .cell a T => match st.get a with
    | .box t off => match st.σ[t]? with
      | some (.box _ cells) => takeT C.P T (cells.drop off)
      | _ => none
    | _ => none

def retOf (C : Cfg) (fn : Func) (st : St) : Option AV :=
  (mapO (resOf C st) fn.results.toList).bind fun l => match l with
    | [x] => some x
    | l => some (.tup l)

/-- The end of a function: its result, and the arguments that were handed over. -/
def finish (C : Cfg) (fn : Func) (args : List AV) (R : Sig) (st : St) : Option R.V :=
  (retOf C fn st).bind fun r => R.get (r :: args) st.σ

def bodyOf (fn : Func) : Code := (fn.body).getD (.refuse "")

def evF (C : Cfg) (fn : Func) (A R : Sig) (Y : Type) (un : R.V → Y) (x : A.V) : Option Y :=
  let st := A.put x
  evC C (bodyOf fn) 1 ⟨st.slots ++ List.replicate (fn.ntmps - st.slots.length) .any, st.σ⟩ fun e st' => match e with
    | .normal | .ret => (finish C fn st'.slots R st').bind fun y => some (un y)
    | .exit _ => none

/-- A piece of code with one way out; a loop's round. -/
def exB : Ex → Ex → Bool
  | .normal, .normal => true
  | .ret, .ret => true
  | .exit a, .exit b => a == b
  | _, _ => false

def evP1 (C : Cfg) (c : Code) (p : Nat) (A : Sig) (e : Ex) (R : Sig) (Y : Type) (un : R.V → Y) (x : A.V) : Option Y :=
  evC { C with pcs := fun q => if q == p then none else C.pcs q } c p (A.put x) fun e1 st => if exB e1 e then (R.get st.slots st.σ).bind fun y => some (un y) else none

def evP2 (C : Cfg) (c : Code) (p : Nat) (A : Sig) (e : Ex) (R : Sig) (Y : Type) (un : R.V → Y) (e' : Ex) (R' : Sig) (Y' : Type) (un' : R'.V → Y') (x : A.V) : Option (Y ⊕ Y') :=
  evC { C with pcs := fun q => if q == p then none else C.pcs q } c p (A.put x) fun e1 st => if exB e1 e then (R.get st.slots st.σ).bind fun y => some (.inl (un y))
    else if exB e1 e' then (R'.get st.slots st.σ).bind fun y => some (.inr (un' y)) else none

/-- One round of a loop's body: on with the loop's own function, or out. -/
def evL1 (C : Cfg) (body : Code) (p : Nat) (A : Sig) (e : Ex) (R : Sig) (Y : Type) (un : R.V → Y) (next : A.V → Option Y) (x : A.V) : Option Y :=
  evC C body (2 * p) (A.put x) fun e1 st => match e1 with
    | .normal => (A.get st.slots st.σ).bind next
    | e1 => if exB e1 e then (R.get st.slots st.σ).bind fun y => some (un y) else none

def evL2 (C : Cfg) (body : Code) (p : Nat) (A : Sig) (e : Ex) (R : Sig) (Y : Type) (un : R.V → Y) (e' : Ex) (R' : Sig) (Y' : Type) (un' : R'.V → Y') (next : A.V → Option (Y ⊕ Y')) (x : A.V) : Option (Y ⊕ Y') :=
  evC C body (2 * p) (A.put x) fun e1 st => match e1 with
    | .normal => (A.get st.slots st.σ).bind next
    | e1 => if exB e1 e then (R.get st.slots st.σ).bind fun y => some (.inl (un y))
      else if exB e1 e' then (R'.get st.slots st.σ).bind fun y => some (.inr (un' y)) else none

def loopOf : Code → Option Code
  | .loop c => some c
  | _ => none

def look {A : Type 1} : List (Nat × A) → Nat → Option A
  | [], _ => none
  | (n, a) :: r, m => if n == m then some a else look r m
def lookS : List (Nat × Sh) → Nat → Option Sh
  | [], _ => none
  | (n, a) :: r, m => if n == m then some a else lookS r m

/-- The code at a place of a body. -/
def codeAt : Nat → Code → Nat → Option Code
  | 0, _, _ => none
  | n + 1, c, p => if p == 1 then some c else
    (codeAt n c (p / 2)).bind fun d => match d with
      | .seq a b => some (if p % 2 == 0 then a else b)
      | .cond _ a b => some (if p % 2 == 0 then a else b)
      | .block _ a => some a
      | .loop a => some a
      | _ => none

end
end Gv
