/- The abstract interpreter: regions, code, functions. -/
import Derived.Test.YtgkcdgbegkpmoaaGreatDoorGwEval
namespace Gv
open Go

section
variable {α : Type}

/-- Forms without a token. -/
def plainF : Form → Bool
  | .boxr _ _ | .rowr _ | .obox _ | .orow _ _ => false
  | .ifc _ (.cons _ _) => false
  | .agg l | .tup l | .cp l | .fn _ l | .ifc _ l => plainF l
  | .cons h t => plainF h && plainF t
  | _ => true

def lenIs {β : Type} : List β → Nat → Bool
  | [], 0 => true
  | _ :: l, n + 1 => lenIs l n
  | _, _ => false

def isL0 : List Nat → Bool
  | [0] => true
  | _ => false

/-- A call by the callee's contract: data in, data out. -/
structure EntP where
  A : Sig
  R : Sig
  Y : Type
  f : A.V → Option Y
  mkR : Y → R.V
  un : R.V → Y
@[reducible] def EntP.ent (N : EntP) : Ent := ⟨N.A, [⟨.ret, N.R, N.Y, N.mkR, N.un⟩], N.f⟩
def toP : Ent → Option EntP
  | ⟨A, [⟨.ret, R, Y, mk, un⟩], f⟩ => some ⟨A, R, Y, f, mk, un⟩
  | _ => none
def callE1 (E : EntP) (st : St) (avs : List AV) (K : AV → St → Option α) : Option α :=
  if E.A.srcs.isEmpty && (E.R.srcs.isEmpty && (plainF E.R.vals && (isL0 E.R.idx && (E.R.n == 1 && lenIs avs E.A.n)))) then
  (E.A.getM avs st.σ).bind fun g =>
  (E.f g.2.2).bind fun y =>
    let ret := (putF [] E.R.vals (E.mkR y).2).headD .any
    K ret ⟨st.slots, if scal 6 ret then st.σ else freeze st.σ g.2.1⟩
  else none
def callE (E : Ent) (st : St) (avs : List AV) (K : AV → St → Option α) : Option α := (toP E).bind fun N => callE1 N st avs K

/-- Do the tokens of a form lie below k? -/
def tokLt (k : Nat) : Form → Bool
  | .boxr j _ => decide (j < k)
  | .rowr j => decide (j < k)
  | .ifc _ (.cons _ _) => false
  | .agg l | .tup l | .cp l | .fn _ l | .ifc _ l | .obox l => tokLt k l
  | .cons h t => tokLt k h && tokLt k t
  | _ => true

def slotAt (i : Nat) : List Src → Nat → Option Nat
  | [], _ => none
  | .slot j :: r, n => if i == j then some n else slotAt i r (n + 1)
  | .cell _ _ :: r, n => slotAt i r (n + 1)

def isTok (j : Nat) : AV → Bool
  | .box t 0 => t == j
  | .row t => t == j
  | _ => false

/-- The caller's token of an object that comes back in the very argument in which it was handed over. -/
def keepOf (A : Sig) (rs : List AV) (m : List (Option Nat)) (j : Nat) : Src → Option Nat
  | .slot (i + 1) => if isTok j (rs.getD (i + 1) .any) then (slotAt i A.srcs 0).bind fun a => m.getD a none else none
  | _ => none
def keeps (A : Sig) (rs : List AV) (m : List (Option Nat)) : Nat → List Src → List (Option Nat)
  | _, [] => []
  | j, s :: r => keepOf A rs m j s :: keeps A rs m (j + 1) r
def rens (n : Nat) : List (Option Nat) → List Nat
  | [] => []
  | some t :: r => t :: rens (n + 1) r
  | none :: r => n :: rens (n + 1) r
def goneAll : List (Option Nat) → List Ob → List Ob
  | [], σ => σ
  | some t :: r, σ => goneAll r (σ.set t .gone)
  | none :: r, σ => goneAll r σ
def setKept : List (Option Nat) → List Ob → List Ob → List Ob
  | some t :: ks, o :: os, σ => setKept ks os (σ.set t o)
  | none :: ks, _ :: os, σ => setKept ks os σ
  | _, _, σ => σ
def newObs : List (Option Nat) → List Ob → List Ob
  | some _ :: ks, _ :: os => .gone :: newObs ks os
  | none :: ks, o :: os => o :: newObs ks os
  | _, os => os

def headIs0 : List Nat → Bool
  | 0 :: r => !(r.contains 0)
  | _ => false
def one : Form → Bool
  | .v _ | .agg _ | .tup _ | .cp _ | .fn _ _ | .ifc _ _ | .boxr _ _ | .rowr _ | .any | .nili => true
  | _ => false
def hdOk : Form → Bool
  | .cons f _ => one f
  | _ => false

/-- The state behind such a call. -/
def afterR (A R : Sig) (v : R.V) (σ : List Ob) (m : List (Option Nat)) (rd : List Nat) : List Ob :=
  let ks := keeps A (R.put v).slots m 0 R.srcs
  let obs := putO (rens σ.length ks) R.objs v.1
  setKept ks obs (goneAll m (freeze σ rd)) ++ newObs ks obs
def retR (A R : Sig) (v : R.V) (σ : List Ob) (m : List (Option Nat)) : AV :=
  (putF (rens σ.length (keeps A (R.put v).slots m 0 R.srcs)) R.vals v.2).headD .any
def okR (A R : Sig) (v : R.V) : Bool :=
  headIs0 R.idx && (hdOk R.vals && (decide (0 < R.n) && (decide (R.n ≤ A.n + 1) && (tokLt R.srcs.length R.vals && (tokLt R.srcs.length R.objs && lenIs (putO [] R.objs v.1) R.srcs.length)))))

def elimR (A : Sig) (σ : List Ob) (m : List (Option Nat)) (rd : List Nat) (slots : List AV) (K : AV → St → Option α) (KP : St → Option α) : (l : List Out) → OutsV l → Option α
  | [], y => Empty.elim y
  | [o], y => elim1 A σ m rd slots K KP o y
  | o :: o' :: r, y => Sum.casesOn (motive := fun _ => Option α) y (fun y => elim1 A σ m rd slots K KP o y) (fun z => elimR A σ m rd slots K KP (o' :: r) z)
where elim1 (A : Sig) (σ : List Ob) (m : List (Option Nat)) (rd : List Nat) (slots : List AV) (K : AV → St → Option α) (KP : St → Option α) (o : Out) (y : o.Y) : Option α :=
  if okR A o.R (o.mk1 y) then
    match o.e with
    | .ret => K (retR A o.R (o.mk1 y) σ m) ⟨slots, afterR A o.R (o.mk1 y) σ m rd⟩
    | .pan => KP ⟨retR A o.R (o.mk1 y) σ m :: slots, afterR A o.R (o.mk1 y) σ m rd⟩
    | _ => none
  else none

/-- A call by the callee's contract: objects are handed over, and come back. -/
def callR (E : Ent) (st : St) (avs : List AV) (K : AV → St → Option α) (KP : St → Option α) : Option α :=
  if lenIs avs E.A.n then
  (E.A.getM avs st.σ).bind fun g =>
  (E.f g.2.2).bind fun y => elimR E.A st.σ g.1 g.2.1 st.slots K KP E.outs y
  else none

def isPlain (E : Ent) : Bool :=
  match toP E with
  | some N => N.A.srcs.isEmpty && N.R.srcs.isEmpty
  | none => false

/-- The operations that make something new: a value, and the state behind. -/
def opA (C : Cfg) (st : St) (ρ : Operand → AV) (o : Oper) (K : AV → St → Option α) : Option α :=
  let n := st.σ.length
  match o.op with
  | .alloc T => (C.P.info? T).bind fun i => i.zero.bind fun z => K (.box n 0) ⟨st.slots, st.σ ++ [.box true (z.cells.toList.map ofVal)]⟩
  | .box T x => (avCells (ρ x)).bind fun cells => (szT C.P T).bind fun k => if k == cells.length then K (.box n 0) ⟨st.slots, st.σ ++ [.box true cells]⟩ else none
  | .buildSlice T len parts => (elemT C.P T).bind fun E => (C.sh E).bind fun e => (elOk C.P E e).bind fun _ =>
      if (parts.toList.map (·.1)) == List.range len && decide (len * e.size ≤ 16777216) then
        let σf := freeze st.σ ((parts.toList.map fun (p : Nat × Operand) => ownToks st.σ 6 (ρ p.2)).flatten)
        (mapO (fun (p : Nat × Operand) => (closeRd σf 6 (ρ p.2)).bind fun x => (avCells x).bind fun cs => (ofCells e cs).bind fun y => if y.2.isEmpty then some y.1 else none) parts.toList).bind fun l =>
          K (.row n) ⟨st.slots, σf ++ [.row true E e l]⟩
      else none
  | .makeSlice T a b => (elemT C.P T).bind fun E => (C.sh E).bind fun e => (elOk C.P E e).bind fun i =>
      match ρ a, ρ b with
      | .dat (.int _) x, .dat (.int _) y => cond (decide (0 ≤ x) && (decide (x ≤ y) && fits y.toNat i.bytes)) (K (.row n) ⟨st.slots, st.σ ++ [.row true E e (List.replicate x.toNat e.dflt)]⟩) none
      | _, _ => none
  | _ => none

def strList (s : ByteArray) : List Int := s.data.toList.map fun b => (b.toNat : Int)
def appK (st : St) (E : TypeId) (e : Sh) (bytes : Nat) (ly : List e.T) (x : AV) (K : AV → St → Option α) : Option α :=
  match x with
  | .nil => cond (fits ly.length bytes) (K (.row st.σ.length) ⟨st.slots, st.σ ++ [.row true E e ly]⟩) none
  | .row t => match st.σ[t]? with
    | some (.row true E' e' l) => if E == E' then (if h : e' = e then
        cond (fits (l.length + ly.length) bytes) (let st' := inv t st; K (.row t) ⟨st'.slots, st'.σ.set t (.row true E e (castT (s := .sl e) (s' := .sl e') (h ▸ rfl) l ++ ly))⟩) none else none) else none
    | _ => none
  | _ => none

/-- The operations that write. -/
def opM (C : Cfg) (st : St) (o : Oper) (K : AV → St → Option α) (KP : St → Option α) : Option α :=
  match o.op with
  | .store T a x => (szT C.P T).bind fun k => (avCells (evOp st x)).bind fun new => if new.length == k && new.all leaf then
      match evOp st a with
      | .box t off => match st.σ[t]? with
        | some (.box true cells) => if decide (off + k ≤ cells.length) then K .any ⟨st.slots, st.σ.set t (.box true (splice cells off new))⟩ else none
        | _ => none
      | .rptr t i z off => match st.σ[t]? with
        | some (.row true _ _ _) =>
          let σf := freeze st.σ ((new.map (ownToks st.σ 6)).flatten)
          match σf[t]? with
          | some (.row true E e l) => if z == e.size then (mapO (closeRd σf 6) new).bind fun cs => (ofCells e (splice (cellsOf e (l.getD i e.dflt)) off cs)).bind fun y =>
            if y.2.isEmpty && decide (off + k ≤ e.size) then K .any ⟨st.slots, σf.set t (.row true E e (l.set i y.1))⟩ else none
            else none
          | _ => none
        | _ => none
      | _ => none
    else none
  | .call c => match c.callee, c.args.toList, c.argTypes.toList with
    | .builtin .append, [x, y], [t, u] => if t == u then (elemT C.P t).bind fun E => (C.sh E).bind fun e => (elOk C.P E e).bind fun i =>
        (closeRd st.σ 6 (evOp st y)).bind fun v => (asDat (.sl e) v).bind fun ly =>
          match evOp st x with
          | .nil => cond (fits ly.length i.bytes) (K (.row st.σ.length) ⟨st.slots, st.σ ++ [.row true E e ly]⟩) none
          | .row t => match st.σ[t]? with
            | some (.row true E' e' l) => if E == E' then (if h : e' = e then
                cond (fits (l.length + ly.length) i.bytes) (let st' := inv t st; K (.row t) ⟨st'.slots, st'.σ.set t (.row true E e (castT (s := .sl e) (s' := .sl e') (h ▸ rfl) l ++ ly))⟩) none else none) else none
            | _ => none
          | _ => none
        else if isStrT C.P u then (elemT C.P t).bind fun E => (elOk C.P E (.int .u8)).bind fun i =>
          match evOp st y with
          | .dat .str s => appK st E (.int .u8) i.bytes (strList s) (evOp st x) K
          | _ => none
        else none
    | .value f, l, _ => match evOp st f with
      | .fn g caps => (C.orc g (fnsOf (l.map (evOp st) ++ caps))).bind fun E => if isPlain E then callE E st (l.map (evOp st) ++ caps) K else callR E st (l.map (evOp st) ++ caps) K KP
      | _ => none
    | _, _, _ => none
  | .panic x => (match evOp st x with
    | .ifc T v => KP ⟨.ifc T v :: st.slots, st.σ⟩
    | _ => none)
  | _ => none

def isN : Op → Bool
  | .move _ | .assign _ | .binOp .. | .unOp .. | .convert .. | .nilCheck _ | .makeInterface .. | .makeFunc .. | .build .. | .load .. | .fieldAddr .. | .field .. | .indexAddr .. | .index .. | .slice .. | .extract .. => true
  | .call { callee := .builtin .len, .. } | .call { callee := .builtin .min, .. } | .call { callee := .builtin .max, .. } => true
  | _ => false
def isA : Op → Bool
  | .alloc _ | .box .. | .buildSlice .. | .makeSlice .. => true
  | _ => false

/-- One operation. -/
def op1 (C : Cfg) (st : St) (o : Oper) (K : St → Option α) (KP : St → Option α) : Option α :=
  if isN o.op then opN C st.σ (evOp st) o fun v => K (st.put o.dst v)
  else if isA o.op then opA C st (evOp st) o fun v st' => K (st'.put o.dst v)
  else opM C st o (fun v st' => K (st'.put o.dst v)) KP

def dstOf (ops : Array Oper) (j : Nat) : Option Nat := (ops[j]?).bind fun (o : Oper) => o.dst

def gEq (x y : Nat × Bool) : Bool := x.1 == y.1 && x.2 == y.2
/-- Is an operation's guard known to hold? -/
def gOk (kn : List (Nat × Bool)) : Option (Nat × Bool) → Bool
  | none => true
  | some g => kn.any (gEq g)

/-- The 'pick' that a group of guarded operations ends with. -/
def splitPick (kn : List (Nat × Bool)) (s : Nat) : List Oper → Option (List Oper × Oper × List Oper)
  | [] => none
  | o :: r => match o.op with
    | .pick (.tmp t) _ _ => if t == s && gOk kn o.guard then some ([], o, r) else (splitPick kn s r).bind fun x => some (o :: x.1, x.2.1, x.2.2)
    | _ => (splitPick kn s r).bind fun x => some (o :: x.1, x.2.1, x.2.2)

def dIs (d : Option Nat) (s : Nat) : Bool :=
  match d with
  | some d => d == s
  | none => false

/-- Where the guard does not hold, the group's operations do nothing: each hangs on it, or on one of the group that did nothing. -/
def skips (ops : Array Oper) (g : Nat × Bool) : List Nat → List Oper → Bool
  | _, [] => true
  | ds, o :: r => (match o.guard with
    | none => false
    | some h => gEq h g || (match dstOf ops h.1 with
      | some d => ds.contains d
      | none => true)) && skips ops g (match o.dst with
        | some d => d :: ds
        | none => ds) r

def grpOk (ops : Array Oper) (g : Nat × Bool) (s : Nat) (l : List Oper) : Bool := (l.all fun o => !dIs o.dst s) && skips ops g [] l

/-- A group in a region of drawn order: each operation hangs on the one condition. -/
def grpAll (g : Nat × Bool) (s : Nat) (l : List Oper) : Bool := l.all fun o => !dIs o.dst s && (match o.guard with
  | some h => gEq h g
  | none => false)

def asB : AV → Option Bool
  | .dat .bool b => some b
  | _ => none

def pickV (st : St) (lit : Bool) : Op → Option Bool
  | .pick _ x y => asB (evOp st (if lit then x else y))
  | _ => none

def anys (l : List Oper) (st : St) : St := l.foldl (fun st x => st.put x.dst .any) st

/-- A call within a group, or a region of drawn order: by contract. -/
def callV (C : Cfg) (st : St) (ρ : Operand → AV) (c : Call) (K : AV → St → Option α) : Option α :=
  match c.callee with
  | .value f => match ρ f with
    | .fn g caps => (C.orc g (fnsOf (c.args.toList.map ρ ++ caps))).bind fun N => callE N st (c.args.toList.map ρ ++ caps) K
    | _ => none
  | _ => none

/-- Operations that change nothing, guarded ones among them: the state's slots alone. -/
def evG (C : Cfg) (ops : Array Oper) : Nat → List (Nat × Bool) → List Oper → St → (St → Option Bool) → Option Bool
  | 0, _, _, _, _ => none
  | _ + 1, _, [], st, K => K st
  | n + 1, kn, o :: r, st, K =>
    if gOk kn o.guard then
      if isN o.op then opN C st.σ (evOp st) o fun v => evG C ops n kn r (st.put o.dst v) K
      else (match o.op with
        | .pick c a b => (asB (evOp st c)).bind fun x => cond x (evG C ops n kn r (st.put o.dst (evOp st a)) K) (evG C ops n kn r (st.put o.dst (evOp st b)) K)
        | .call c => callV C st (evOp st) c fun v _ => if scal 6 v then evG C ops n kn r (st.put o.dst v) K else none
        | _ => none)
    else match o.guard with
    | none => none
    | some (j, want) => (dstOf ops j).bind fun s => (asB (st.get s)).bind fun b =>
        match splitPick kn s (o :: r) with
        | some (g, p, r') => if grpOk ops (j, want) s g then
            (cond b
              (if want then evG C ops n ((j, want) :: kn) g (st.put (some s) (.dat .bool true)) fun st' => pickV st' true p.op else pickV (anys g st) true p.op)
              (if want then pickV (anys g st) false p.op else evG C ops n ((j, want) :: kn) g (st.put (some s) (.dat .bool false)) fun st' => pickV st' false p.op)).bind fun c =>
              evG C ops n kn r' ((anys g st).put p.dst (.dat .bool c)) K
          else none
        | none => none

/-- The operations of a region, in the order of the text. -/
def evOps (C : Cfg) (ops : Array Oper) (KP : St → Option α) : Nat → List Oper → St → (St → Option α) → Option α
  | 0, _, _, _ => none
  | _ + 1, [], st, K => K st
  | n + 1, o :: r, st, K => match o.guard with
    | none => (match o.op with
      | .pick c a b => (asB (evOp st c)).bind fun x => cond x (evOps C ops KP n r (st.put o.dst (evOp st a)) K) (evOps C ops KP n r (st.put o.dst (evOp st b)) K)
      | _ => op1 C st o (fun st' => evOps C ops KP n r st' K) KP)
    | some (j, want) => (dstOf ops j).bind fun s => (asB (st.get s)).bind fun b =>
        match splitPick [] s (o :: r) with
        | some (g, p, r') => if grpOk ops (j, want) s g then
            (cond b
              (if want then evG C ops n [(j, want)] g (st.put (some s) (.dat .bool true)) fun st' => pickV st' true p.op else pickV (anys g st) true p.op)
              (if want then pickV (anys g st) false p.op else evG C ops n [(j, want)] g (st.put (some s) (.dat .bool false)) fun st' => pickV st' false p.op)).bind fun c =>
              evOps C ops KP n r' ((anys g st).put p.dst (.dat .bool c)) K
          else none
        | none =>
          cond b (let st1 := st.put (some s) (.dat .bool true); if want then op1 C st1 o (fun st' => evOps C ops KP n r st' K) KP else evOps C ops KP n r (st1.put o.dst .any) K)
                 (let st1 := st.put (some s) (.dat .bool false); if want then evOps C ops KP n r (st1.put o.dst .any) K else op1 C st1 o (fun st' => evOps C ops KP n r st' K) KP)

/-! Regions of drawn order. -/
def depsM (o : Oper) : Nat := o.after.toList.foldl (fun m e => if Region.binds .any e then m ||| (1 <<< e.on) else m) 0
/-- What comes before an operation, in every order: a set of places, as the bits of a number. -/
def closes : List Oper → List Nat → List Nat
  | [], acc => acc
  | o :: r, acc => closes r (acc ++ [(List.range acc.length).foldl (fun s i => if s.testBit i then s ||| acc.getD i 0 else s) (depsM o)])
/-- May all that lies before a place be done before all that lies behind it? -/
def cutAt (cl : List Nat) (m : Nat) : Bool := (cl.drop m).all fun s => (s &&& (2 ^ m - 1)) == 2 ^ m - 1
/-- The blocks of a region. -/
def blocks (cl : List Nat) : Nat → List Oper → List Oper → List (List Oper)
  | _, [], cur => if cur.isEmpty then [] else [cur]
  | m, o :: r, cur => if cutAt cl (m + 1) then (cur ++ [o]) :: blocks cl (m + 1) r [] else blocks cl (m + 1) r (cur ++ [o])
def back : Nat → List Oper → Bool
  | _, [] => true
  | m, o :: r => decide (depsM o < 2 ^ m) && back (m + 1) r

/-- An operand in a block: what the block's operations put down is seen only by those that come behind them in every order. -/
def mev (bd : List (Nat × Option Nat)) (o : Oper) (st : St) : Operand → AV
  | .tmp t => if bd.any fun p => dIs p.2 t && !(depsM o).testBit p.1 then .any else st.get t
  | y => evOp st y

def evAB (C : Cfg) (pure : Bool) (kn : List (Nat × Bool)) (bd : List (Nat × Option Nat)) : List Oper → St → (St → Option α) → Option α
  | [], st, K => K st
  | o :: r, st, K => if gOk kn o.guard then
      if isN o.op then opN C st.σ (mev bd o st) o fun v => evAB C pure kn bd r (st.put o.dst v) K
      else if isA o.op then (if pure then none else opA C st (mev bd o st) o fun v st' => evAB C pure kn bd r ⟨(st.put o.dst v).slots, st'.σ⟩ K)
      else (match o.op with
        | .call c => callV C st (mev bd o st) c fun v st' => if pure && !scal 6 v then none else evAB C pure kn bd r ⟨(st.put o.dst v).slots, st'.σ⟩ K
        | _ => none)
    else none

def zipFrom : Nat → List Oper → List (Nat × Option Nat)
  | _, [] => []
  | m, o :: r => (m, o.dst) :: zipFrom (m + 1) r

def distinct : List Nat → Bool
  | [] => true
  | d :: r => !(r.contains d) && distinct r

/-- One block: an operation by itself, or some in whatever order. -/
def blkOk (l : List Oper) : Bool := distinct (l.filterMap fun o => o.dst)

def evGB (C : Cfg) (kn : List (Nat × Bool)) : Nat → List (List Oper) → St → (St → Option Bool) → Option Bool
  | _, [], st, K => K st
  | m, b :: bs, st, K => if blkOk b then evAB C true kn (zipFrom m b) b st fun st' => evGB C kn (m + b.length) bs st' K else none

def splitB (s : Nat) : List (List Oper) → Option (List (List Oper) × Oper × List (List Oper))
  | [] => none
  | b :: bs => match b with
    | [o] => (match o.op, o.guard with
      | .pick (.tmp t) _ _, none => if t == s then some ([], o, bs) else (splitB s bs).bind fun x => some (b :: x.1, x.2.1, x.2.2)
      | _, _ => (splitB s bs).bind fun x => some (b :: x.1, x.2.1, x.2.2))
    | _ => (splitB s bs).bind fun x => some (b :: x.1, x.2.1, x.2.2)

/-! A block with one call that is handed objects to write. -/
def spPos (C : Cfg) : List Oper → Nat → Option Nat
  | [], _ => none
  | o :: r, k => match o.op with
    | .call c => (match c.callee with
      | .value (.func g) => (match C.orc g [] with
        | some N => if isPlain N then spPos C r (k + 1) else some k
        | none => spPos C r (k + 1))
      | _ => spPos C r (k + 1))
    | _ => spPos C r (k + 1)

/-- What hangs on the call, directly or through others: a set of places. -/
def depMask : Nat → List Oper → Nat → Nat
  | _, [], s => s
  | i, o :: r, s => depMask (i + 1) r (if (depsM o &&& s) != 0 then s ||| (1 <<< i) else s)
/-- The operations at the places of a set, or outside it. -/
def pickL (s : Nat) (inn : Bool) : Nat → List Oper → List (Nat × Oper)
  | _, [] => []
  | i, o :: r => if s.testBit i == inn then (i, o) :: pickL s inn (i + 1) r else pickL s inn (i + 1) r

def argSrc (l : List (Nat × Oper)) : Operand → Operand
  | .tmp t => match l.find? fun p => dIs p.2.dst t with
    | some p => (match p.2.op with
      | .move x => x
      | _ => .tmp t)
    | none => .tmp t
  | y => y

def restore : List Nat → List Ob → List Ob → List Ob
  | [], _, s => s
  | t :: r, s0, s => restore r s0 (match s0[t]? with
    | some o => s.set t o
    | none => s)

def tokIn (T : List Nat) (N : Ent) (avs : List AV) (σ : List Ob) : Bool :=
  match N.A.getM avs σ with
  | some g => g.1.all fun
    | some t => T.contains t
    | none => true
  | none => false

def callOf (o : Oper) : Option (Operand × List Operand) :=
  match o.op with
  | .call c => (match c.callee with
    | .value f => some (f, c.args.toList)
    | _ => none)
  | _ => none

def evSB (C : Cfg) (b : List Oper) (m c : Nat) (st : St) (K : St → Option α) (KP : St → Option α) : Option α :=
  (b[c]?).bind fun oc => (callOf oc).bind fun fa =>
    let bd := zipFrom m b
    let mask := depMask m b (1 <<< (m + c))
    let iL := pickL mask false m b
    let dL := (pickL mask true m b).filter fun p => p.1 != m + c
    let T := ((fa.2.map fun y => ownToks st.σ 6 (evOp st (argSrc iL y))).flatten).filter fun t => decide (t < st.σ.length)
    evAB C false [] bd (iL.map (·.2)) ⟨st.slots, goneAll (T.map some) st.σ⟩ fun stI =>
      let σL := restore T st.σ stI.σ
      match mev bd oc stI fa.1 with
      | .fn g caps =>
        let avs := fa.2.map (mev bd oc stI) ++ caps
        (C.orc g (fnsOf avs)).bind fun N =>
          if oc.guard.isNone && tokIn T N avs σL then
            callR N ⟨(anys b st).slots, σL⟩ avs (fun v st' => evAB C false [] bd (dL.map (·.2)) ((⟨stI.slots, st'.σ⟩ : St).put oc.dst v) K) KP
          else none
      | _ => none

def evDr (C : Cfg) (ops : Array Oper) (KP : St → Option α) : Nat → Nat → List (List Oper) → St → (St → Option α) → Option α
  | 0, _, _, _, _ => none
  | _ + 1, _, [], st, K => K st
  | n + 1, m, b :: bs, st, K => match b with
    | [] => none
    | o :: r => match o.guard with
      | none => (match r with
        | [] => (match o.op with
          | .pick c a b => (asB (evOp st c)).bind fun x => cond x (evDr C ops KP n (m + 1) bs (st.put o.dst (evOp st a)) K) (evDr C ops KP n (m + 1) bs (st.put o.dst (evOp st b)) K)
          | _ => op1 C st o (fun st' => evDr C ops KP n (m + 1) bs st' K) KP)
        | _ => if blkOk b then (match spPos C b 0 with
            | some c => evSB C b m c st (fun st' => evDr C ops KP n (m + b.length) bs st' K) KP
            | none => evAB C false [] (zipFrom m b) b st fun st' => evDr C ops KP n (m + b.length) bs st' K) else none)
      | some (j, want) => (dstOf ops j).bind fun s => (asB (st.get s)).bind fun v =>
        match splitB s (b :: bs) with
        | some (gs, p, bs') => let g := gs.flatten; if grpAll (j, want) s g then
            (cond v
              (if want then evGB C [(j, want)] m gs (st.put (some s) (.dat .bool true)) fun st' => pickV st' true p.op else pickV (anys g st) true p.op)
              (if want then pickV (anys g st) false p.op else evGB C [(j, want)] m gs (st.put (some s) (.dat .bool false)) fun st' => pickV st' false p.op)).bind fun c =>
              evDr C ops KP n (m + g.length + 1) bs' ((anys g st).put p.dst (.dat .bool c)) K
          else none
        | none => none

def evDraw (C : Cfg) (ops : Array Oper) (st : St) (K : St → Option α) (KP : St → Option α) : Option α :=
  if back 0 ops.toList then evDr C ops KP (ops.size + 1) 0 (blocks (closes ops.toList []) 0 ops.toList []) st K else none

/-- Code, at a place of the function's body; pieces by their contracts. -/
def evC (C : Cfg) : Code → Nat → St → (Ex → St → Option α) → Option α
  | c, p, st, K =>
    match C.pcs p with
    | some pc => (pc.A.get st.slots st.σ).bind fun x => (pc.f x).bind fun y => elimO pc.outs y K
    | none => match c with
      | .skip => K .normal st
      | .region _ ops false => evOps C ops (K .pan) (2 * ops.size + 2) ops.toList st (K .normal)
      | .region _ ops true => evDraw C ops st (K .normal) (K .pan)
      | .seq a b => evC C a (2 * p) st fun e st' => match e with
        | .normal => evC C b (2 * p + 1) st' K
        | e => K e st'
      | .cond c a b => (asB (evOp st c)).bind fun x => cond x (evC C a (2 * p) st K) (evC C b (2 * p + 1) st K)
      | .block id a => evC C a (2 * p) st fun e st' => match e with
        | .exit id' => if id' == id then K .normal st' else K (.exit id') st'
        | e => K e st'
      | .exit id => K (.exit id) st
      | .ret => K .ret st
      | _ => none

def resOf (C : Cfg) (st : St) : ResultVar → Option AV
  | .tmp t => some (st.get t)
  | .cell a T => match st.get a with
    | .box t off => match st.σ[t]? with
      | some (.box _ cells) => takeT C.P T (cells.drop off)
      | _ => none
    | _ => none

def retOf (C : Cfg) (fn : Func) (st : St) : Option AV :=
  (mapO (resOf C st) fn.results.toList).bind fun l => match l with
    | [x] => some x
    | l => some (.tup l)

def bodyOf (fn : Func) : Code := (fn.body).getD (.refuse "")

/-- A function: its ways out. -/
def evF (C : Cfg) (fn : Func) (A : Sig) (outs : List Out) (x : A.V) : Option (OutsV outs) :=
  let st := A.put x
  evC C (bodyOf fn) 1 ⟨st.slots ++ List.replicate (fn.ntmps - st.slots.length) .any, st.σ⟩ fun e st' => match e with
    | .normal | .ret => (retOf C fn st').bind fun r => pickO outs .ret (r :: st'.slots) st'.σ
    | .pan => pickO outs .pan st'.slots st'.σ
    | .exit _ => none

/-- A piece of code. -/
def evP (C : Cfg) (c : Code) (p : Nat) (A : Sig) (outs : List Out) (x : A.V) : Option (OutsV outs) :=
  evC { C with pcs := fun q => if q == p then none else C.pcs q } c p (A.put x) fun e st => pickO outs e st.slots st.σ

/-- One round of a loop's body: on with the loop's own function, or out. -/
def evL (C : Cfg) (body : Code) (p : Nat) (A : Sig) (outs : List Out) (next : A.V → Option (OutsV outs)) (x : A.V) : Option (OutsV outs) :=
  evC C body (2 * p) (A.put x) fun e st => match e with
    | .normal => (A.get st.slots st.σ).bind next
    | e => pickO outs e st.slots st.σ

def loopOf : Code → Option Code
  | .loop c => some c
  | _ => none

def look {A : Type 1} : List (Nat × A) → Nat → Option A
  | [], _ => none
  | (n, a) :: r, m => if n == m then some a else look r m
def look2 : List (Nat × List Nat × Ent) → Nat → List Nat → Option Ent
  | [], _, _ => none
  | (g, l, N) :: r, m, k => if g == m && l == k then some N else look2 r m k
def lookS : List (Nat × Sh) → Nat → Option Sh
  | [], _ => none
  | (n, a) :: r, m => if n == m then some a else lookS r m

/-- The code at a place of a body. -/
def codeAt : Nat → Code → Nat → Option Code
  | 0, _, _ => none
  | n + 1, c, p => if p == 1 then some c else
    (codeAt n c (p / 2)).bind fun d => match d with
      | .seq a b => some (if p % 2 == 0 then a else b)
      | .cond _ a b => some (if p % 2 == 0 then a else b)
      | .block _ a => some a
      | .loop a => some a
      | _ => none

end
end Gv
