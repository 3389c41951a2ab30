/- The functions that the law reaches, with their contracts; printed by a program. -/
import Derived.Test.YtgkcdgbegkpmoaaGvFn
import Derived.Test.YtgkcdgbegkpmoaaProg
import Derived.KernelRfl
namespace Gv
open Go Go.Proofs
set_option linter.unusedVariables false
set_option maxRecDepth 1000000
theorem mixed : Try.prog.follows .mixedOrders = true := by kernel_rfl
def shs : TypeId → Option Sh := lookS [(2, (.int .i64)), (3, (.int .i64)), (4, .bool), (5, (.int .u8)), (6, (.int .u8)), (7, (.pr (.int .i64) (.pr (.int .i64) (.pr .bool (.int .u8))))), (8, (.pr (.int .i64) (.pr (.int .i64) (.pr .bool (.int .u8))))), (9, .str), (10, .str), (11, .str), (12, (.int .u64)), (13, (.pr .str (.int .u64))), (14, (.pr .str (.int .u64))), (21, (.int .i32)), (22, (.sl .node)), (23, .node), (24, .node), (26, (.sl (.int .i64))), (27, (.pr (.int .i64) (.pr (.sl (.int .i64)) (.pr (.int .i64) (.pr .str .bool))))), (28, (.pr (.int .i64) (.pr (.sl (.int .i64)) (.pr (.int .i64) (.pr .str .bool))))), (29, (.pr (.int .i64) (.pr (.int .i64) (.pr (.int .i64) (.int .i64))))), (30, (.pr (.int .i64) (.pr (.int .i64) (.pr (.int .i64) (.int .i64))))), (31, (.pr (.int .i64) (.pr (.int .i64) (.pr (.pr (.int .i64) (.pr (.sl (.int .i64)) (.pr (.int .i64) (.pr .str .bool)))) (.pr (.int .i64) (.pr (.int .i64) (.pr (.int .i64) (.int .i64)))))))), (32, (.pr (.int .i64) (.pr (.int .i64) (.pr (.pr (.int .i64) (.pr (.sl (.int .i64)) (.pr (.int .i64) (.pr .str .bool)))) (.pr (.int .i64) (.pr (.int .i64) (.pr (.int .i64) (.int .i64)))))))), (33, (.int .i64)), (54, (.int .u64)), (56, (.int .u64)), (64, (.int .u32)), (65, (.int .u8)), (66, (.int .u8)), (69, (.int .i32)), (70, (.int .i32))]

/-! ### law52_nodes: function 5 (examboard/examboardlaw52.nodes) -/
abbrev law52_nodes.A : Sig := ⟨2, [], (.nilL), [0, 1], (.cons (.agg (.cons (.v (.int .i64)) (.cons (.v (.int .i64)) (.cons (.v (.int .i64)) (.cons (.v .str) (.cons (.v (.sl .node)) .nilL)))))) (.cons (.v (.int .i64)) .nilL))⟩
abbrev law52_nodes.R : Sig := ⟨1, [], (.nilL), [0], (.cons (.v (.int .i64)) .nilL)⟩
abbrev law52_nodes.l122.A : Sig := ⟨37, [.slot 2], (.cons (.obox (.cons (.v (.int .i64)) (.cons (.v (.int .i64)) (.cons (.v (.int .i64)) (.cons (.v .str) (.cons (.v (.sl .node)) .nilL)))))) .nilL), [2, 1, 5, 6], (.cons (.boxr 0 0) (.cons (.v (.int .i64)) (.cons (.v (.int .i64)) (.cons (.v (.int .i64)) .nilL))))⟩
abbrev law52_nodes.l122.R0 : Sig := ⟨37, [], (.nilL), [5], (.cons (.v (.int .i64)) .nilL)⟩
def law52_nodes.l122 (self : Int → Int → Int → ByteArray → (List Nd) → Int → Option (Int)) (k : Nat) : Nat → Int → Int → Int → ByteArray → (List Nd) → Int → Int → Int → Option (Int)
  | 0, _, _, _, _, _, _, _, _ => none
  | q + 1, x0, x1, x2, x3, x4, x5, x6, x7 =>
    Option.bind (cond (decide (x7 < (x4.length : Int)))
      (some (decide (x6 ≤ 40)))
      (some false)) fun (c4 : Bool) =>
    cond c4
    (cond (inB x7 x4.length)
      ((self ((rdL .node x4 x7).tag) ((rdL .node x4 x7).kind) ((rdL .node x4 x7).n) ((rdL .node x4 x7).s) ((rdL .node x4 x7).kids) (IntKind.wrap .i64 (x5 + 1))).bind fun y5 =>
        law52_nodes.l122 self k q x0 x1 x2 x3 x4 x5 (IntKind.wrap .i64 (x6 + y5)) (IntKind.wrap .i64 (x7 + 1)))
      (none))
    (some x6)
abbrev law52_nodes.l122.pc (self : Int → Int → Int → ByteArray → (List Nd) → Int → Option (Int)) (k : Nat) : Pc := .one law52_nodes.l122.A (.exit 0) law52_nodes.l122.R0 (Int) (fun x => law52_nodes.l122 self k k x.1.1.1 x.1.1.2.1 x.1.1.2.2.1 x.1.1.2.2.2.1 x.1.1.2.2.2.2.1 x.2.2.1 x.2.2.2.1 x.2.2.2.2.1) (fun y => ((), (y, ())))
def law52_nodes.g (self : Int → Int → Int → ByteArray → (List Nd) → Int → Option (Int)) (k : Nat) (a0 : Int) (a1 : Int) (a2 : Int) (a3 : ByteArray) (a4 : List Nd) (a5 : Int) : Option (Int) :=
  Option.bind (cond (decide (a5 > 8))
    (some true)
    (some (decide ((a3.size : Int) > 3000)))) fun (c1 : Bool) =>
  cond c1
  (some 1000)
  ((law52_nodes.l122 self k k a0 a1 a2 a3 a4 a5 1 0).bind fun y6 =>
    some y6)
def law52_nodes.f : Nat → Int → Int → Int → ByteArray → (List Nd) → Int → Option (Int)
  | 0, _, _, _, _, _, _ => none
  | k + 1, a0, a1, a2, a3, a4, a5 => law52_nodes.g (law52_nodes.f k) k a0 a1 a2 a3 a4 a5
abbrev law52_nodes.ES (self : Int → Int → Int → ByteArray → (List Nd) → Int → Option (Int)) : Ent := ⟨law52_nodes.A, law52_nodes.R, Int, fun x => self x.2.1.1 x.2.1.2.1 x.2.1.2.2.1 x.2.1.2.2.2.1 x.2.1.2.2.2.2.1 x.2.2.1, fun y => ((), (y, ()))⟩
abbrev law52_nodes.E (k : Nat) : Ent := ⟨law52_nodes.A, law52_nodes.R, Int, fun x => law52_nodes.f k x.2.1.1 x.2.1.2.1 x.2.1.2.2.1 x.2.1.2.2.2.1 x.2.1.2.2.2.2.1 x.2.2.1, fun y => ((), (y, ()))⟩
noncomputable abbrev law52_nodes.C (self : Int → Int → Int → ByteArray → (List Nd) → Int → Option (Int)) (k : Nat) : Cfg := ⟨Try.prog, shs, look [(5, law52_nodes.ES self)], look [(122, law52_nodes.l122.pc self k)]⟩
theorem law52_nodes.l122.ev (self : Int → Int → Int → ByteArray → (List Nd) → Int → Option (Int)) (k q : Nat) (x : law52_nodes.l122.A.V) : ((codeAt 60 (bodyOf (Try.f5)) 122).bind fun c => (loopOf c).bind fun c1 => evL1 (law52_nodes.C self k) c1 122 law52_nodes.l122.A (.exit 0) law52_nodes.l122.R0 (Int) (fun x => x.2.1) (fun x => law52_nodes.l122 self k q x.1.1.1 x.1.1.2.1 x.1.1.2.2.1 x.1.1.2.2.2.1 x.1.1.2.2.2.2.1 x.2.2.1 x.2.2.2.1 x.2.2.2.2.1) x) = law52_nodes.l122 self k (q + 1) x.1.1.1 x.1.1.2.1 x.1.1.2.2.1 x.1.1.2.2.2.1 x.1.1.2.2.2.2.1 x.2.2.1 x.2.2.2.1 x.2.2.2.2.1 := by kernel_rfl
theorem law52_nodes.ev (self : Int → Int → Int → ByteArray → (List Nd) → Int → Option (Int)) (k : Nat) (x : law52_nodes.A.V) : evF (law52_nodes.C self k) Try.f5 law52_nodes.A law52_nodes.R (Int) (fun x => x.2.1) x = law52_nodes.g self k x.2.1.1 x.2.1.2.1 x.2.1.2.2.1 x.2.1.2.2.2.1 x.2.1.2.2.2.2.1 x.2.2.1 := by kernel_rfl
theorem law52_nodes.at : Try.prog.funcs[5]? = some Try.f5 := by kernel_rfl
theorem law52_nodes.bo : Try.f5.body = some (bodyOf (Try.f5)) := by kernel_rfl
theorem law52_nodes.nm : (Try.f5.name == "runtime.NumGoroutine") = false := by kernel_rfl
theorem law52_nodes.satS (self : Int → Int → Int → ByteArray → (List Nd) → Int → Option (Int)) (k : Nat) (hS : Sat Try.prog 5 (law52_nodes.ES self)) : Sat Try.prog 5 ⟨law52_nodes.A, law52_nodes.R, Int, fun x => law52_nodes.g self k x.2.1.1 x.2.1.2.1 x.2.1.2.2.1 x.2.1.2.2.2.1 x.2.1.2.2.2.2.1 x.2.2.1, fun y => ((), (y, ()))⟩ :=
  have hC : ∀ g N, (law52_nodes.C self k).orc g = some N → Sat Try.prog g N := satAll (satCons hS satNil)
  sat_of (C := law52_nodes.C self k) hC mixed law52_nodes.at law52_nodes.nm law52_nodes.bo (all_pieces rfl (locCons (loc_loop1 hC mixed (dstOk_zero _) (fun (q : Nat) (x : law52_nodes.l122.A.V) => law52_nodes.l122 self k q x.1.1.1 x.1.1.2.1 x.1.1.2.2.1 x.1.1.2.2.2.1 x.1.1.2.2.2.2.1 x.2.2.1 x.2.2.2.1 x.2.2.2.2.1) (fun _ => rfl) (law52_nodes.l122.ev self k) (fun _ => rfl) k) locNil)) (law52_nodes.ev self k) (fun _ => rfl) rfl
theorem law52_nodes.sat : ∀ k, Sat Try.prog 5 (law52_nodes.E k)
  | 0 => sat_none law52_nodes.at law52_nodes.nm law52_nodes.bo (fun _ => rfl)
  | k + 1 => law52_nodes.satS (law52_nodes.f k) k (law52_nodes.sat k)

/-! ### codec_clone: function 29 (examboard/codec.clone) -/
abbrev codec_clone.A : Sig := ⟨1, [], (.nilL), [0], (.cons (.agg (.cons (.v (.int .i64)) (.cons (.v (.int .i64)) (.cons (.v (.int .i64)) (.cons (.v .str) (.cons (.v (.sl .node)) .nilL)))))) .nilL)⟩
abbrev codec_clone.R : Sig := ⟨1, [], (.nilL), [0], (.cons (.agg (.cons (.v (.int .i64)) (.cons (.v (.int .i64)) (.cons (.v (.int .i64)) (.cons (.v .str) (.cons (.v (.sl .node)) .nilL)))))) .nilL)⟩
abbrev codec_clone.l122.A : Sig := ⟨24, [.slot 2, .cell 0 4, .slot 3, .cell 2 4], (.cons (.obox (.cons (.v (.int .i64)) (.cons (.v (.int .i64)) (.cons (.v (.int .i64)) (.cons (.v .str) (.cons (.rowr 1) .nilL)))))) (.cons (.orow 24 .node) (.cons (.obox (.cons (.v (.int .i64)) (.cons (.v (.int .i64)) (.cons (.v (.int .i64)) (.cons (.v .str) (.cons (.rowr 3) .nilL)))))) (.cons (.orow 24 .node) .nilL)))), [2, 3, 9, 10, 11], (.cons (.boxr 0 0) (.cons (.boxr 2 0) (.cons (.v (.sl .node)) (.cons (.v (.int .i64)) (.cons (.v (.int .i64)) .nilL)))))⟩
abbrev codec_clone.l122.R0 : Sig := ⟨24, [.slot 2, .cell 0 4, .slot 3, .cell 2 4], (.cons (.obox (.cons (.v (.int .i64)) (.cons (.v (.int .i64)) (.cons (.v (.int .i64)) (.cons (.v .str) (.cons (.rowr 1) .nilL)))))) (.cons (.orow 24 .node) (.cons (.obox (.cons (.v (.int .i64)) (.cons (.v (.int .i64)) (.cons (.v (.int .i64)) (.cons (.v .str) (.cons (.rowr 3) .nilL)))))) (.cons (.orow 24 .node) .nilL)))), [2, 3], (.cons (.boxr 0 0) (.cons (.boxr 2 0) .nilL))⟩
def codec_clone.l122 (self : Int → Int → Int → ByteArray → (List Nd) → Option (Int × Int × Int × ByteArray × List Nd)) (k : Nat) : Nat → Int → Int → Int → ByteArray → (List Nd) → Int → Int → Int → ByteArray → (List Nd) → (List Nd) → Int → Int → Option (Int × Int × Int × ByteArray × List Nd × Int × Int × Int × ByteArray × List Nd)
  | 0, _, _, _, _, _, _, _, _, _, _, _, _, _ => none
  | q + 1, x0, x1, x2, x3, x4, x5, x6, x7, x8, x9, x10, x11, x12 =>
    cond (decide (x12 < x11))
    (cond (inB x12 x10.length)
      ((self ((rdL .node x10 x12).tag) ((rdL .node x10 x12).kind) ((rdL .node x10 x12).n) ((rdL .node x10 x12).s) ((rdL .node x10 x12).kids)).bind fun y2 =>
        cond (fits (x9.length + 1) 64)
        (codec_clone.l122 self k q x0 x1 x2 x3 x4 x5 x6 x7 x8 (x9 ++ [(⟨y2.1, y2.2.1, y2.2.2.1, y2.2.2.2.1, y2.2.2.2.2⟩ : Nd)]) x10 x11 (IntKind.wrap .i64 (x12 + 1)))
        (none))
      (none))
    (some (x0, x1, x2, x3, x4, x5, x6, x7, x8, x9))
abbrev codec_clone.l122.pc (self : Int → Int → Int → ByteArray → (List Nd) → Option (Int × Int × Int × ByteArray × List Nd)) (k : Nat) : Pc := .one codec_clone.l122.A (.exit 0) codec_clone.l122.R0 (Int × Int × Int × ByteArray × List Nd × Int × Int × Int × ByteArray × List Nd) (fun x => codec_clone.l122 self k k x.1.1.1 x.1.1.2.1 x.1.1.2.2.1 x.1.1.2.2.2.1 x.1.2.1 x.1.2.2.1.1 x.1.2.2.1.2.1 x.1.2.2.1.2.2.1 x.1.2.2.1.2.2.2.1 x.1.2.2.2.1 x.2.2.2.1 x.2.2.2.2.1 x.2.2.2.2.2.1) (fun y => (((y.1, y.2.1, y.2.2.1, y.2.2.2.1, (), ()), y.2.2.2.2.1, (y.2.2.2.2.2.1, y.2.2.2.2.2.2.1, y.2.2.2.2.2.2.2.1, y.2.2.2.2.2.2.2.2.1, (), ()), y.2.2.2.2.2.2.2.2.2, ()), ((), (), ())))
def codec_clone.g (self : Int → Int → Int → ByteArray → (List Nd) → Option (Int × Int × Int × ByteArray × List Nd)) (k : Nat) (a0 : Int) (a1 : Int) (a2 : Int) (a3 : ByteArray) (a4 : List Nd) : Option (Int × Int × Int × ByteArray × List Nd) :=
  (codec_clone.l122 self k k 0 0 0 (⟨#[]⟩ : ByteArray) ([] : List Nd) a0 a1 a2 a3 ([] : List Nd) a4 (a4.length : Int) 0).bind fun y3 =>
  some (y3.2.2.2.2.2.1, y3.2.2.2.2.2.2.1, y3.2.2.2.2.2.2.2.1, y3.2.2.2.2.2.2.2.2.1, y3.2.2.2.2.2.2.2.2.2)
def codec_clone.f : Nat → Int → Int → Int → ByteArray → (List Nd) → Option (Int × Int × Int × ByteArray × List Nd)
  | 0, _, _, _, _, _ => none
  | k + 1, a0, a1, a2, a3, a4 => codec_clone.g (codec_clone.f k) k a0 a1 a2 a3 a4
abbrev codec_clone.ES (self : Int → Int → Int → ByteArray → (List Nd) → Option (Int × Int × Int × ByteArray × List Nd)) : Ent := ⟨codec_clone.A, codec_clone.R, Int × Int × Int × ByteArray × List Nd, fun x => self x.2.1.1 x.2.1.2.1 x.2.1.2.2.1 x.2.1.2.2.2.1 x.2.1.2.2.2.2.1, fun y => ((), ((y.1, y.2.1, y.2.2.1, y.2.2.2.1, y.2.2.2.2, ()), ()))⟩
abbrev codec_clone.E (k : Nat) : Ent := ⟨codec_clone.A, codec_clone.R, Int × Int × Int × ByteArray × List Nd, fun x => codec_clone.f k x.2.1.1 x.2.1.2.1 x.2.1.2.2.1 x.2.1.2.2.2.1 x.2.1.2.2.2.2.1, fun y => ((), ((y.1, y.2.1, y.2.2.1, y.2.2.2.1, y.2.2.2.2, ()), ()))⟩
noncomputable abbrev codec_clone.C (self : Int → Int → Int → ByteArray → (List Nd) → Option (Int × Int × Int × ByteArray × List Nd)) (k : Nat) : Cfg := ⟨Try.prog, shs, look [(29, codec_clone.ES self)], look [(122, codec_clone.l122.pc self k)]⟩
theorem codec_clone.l122.ev (self : Int → Int → Int → ByteArray → (List Nd) → Option (Int × Int × Int × ByteArray × List Nd)) (k q : Nat) (x : codec_clone.l122.A.V) : ((codeAt 60 (bodyOf (Try.f29)) 122).bind fun c => (loopOf c).bind fun c1 => evL1 (codec_clone.C self k) c1 122 codec_clone.l122.A (.exit 0) codec_clone.l122.R0 (Int × Int × Int × ByteArray × List Nd × Int × Int × Int × ByteArray × List Nd) (fun x => (x.1.1.1, x.1.1.2.1, x.1.1.2.2.1, x.1.1.2.2.2.1, x.1.2.1, x.1.2.2.1.1, x.1.2.2.1.2.1, x.1.2.2.1.2.2.1, x.1.2.2.1.2.2.2.1, x.1.2.2.2.1)) (fun x => codec_clone.l122 self k q x.1.1.1 x.1.1.2.1 x.1.1.2.2.1 x.1.1.2.2.2.1 x.1.2.1 x.1.2.2.1.1 x.1.2.2.1.2.1 x.1.2.2.1.2.2.1 x.1.2.2.1.2.2.2.1 x.1.2.2.2.1 x.2.2.2.1 x.2.2.2.2.1 x.2.2.2.2.2.1) x) = codec_clone.l122 self k (q + 1) x.1.1.1 x.1.1.2.1 x.1.1.2.2.1 x.1.1.2.2.2.1 x.1.2.1 x.1.2.2.1.1 x.1.2.2.1.2.1 x.1.2.2.1.2.2.1 x.1.2.2.1.2.2.2.1 x.1.2.2.2.1 x.2.2.2.1 x.2.2.2.2.1 x.2.2.2.2.2.1 := by kernel_rfl
theorem codec_clone.ev (self : Int → Int → Int → ByteArray → (List Nd) → Option (Int × Int × Int × ByteArray × List Nd)) (k : Nat) (x : codec_clone.A.V) : evF (codec_clone.C self k) Try.f29 codec_clone.A codec_clone.R (Int × Int × Int × ByteArray × List Nd) (fun x => (x.2.1.1, x.2.1.2.1, x.2.1.2.2.1, x.2.1.2.2.2.1, x.2.1.2.2.2.2.1)) x = codec_clone.g self k x.2.1.1 x.2.1.2.1 x.2.1.2.2.1 x.2.1.2.2.2.1 x.2.1.2.2.2.2.1 := by kernel_rfl
theorem codec_clone.at : Try.prog.funcs[29]? = some Try.f29 := by kernel_rfl
theorem codec_clone.bo : Try.f29.body = some (bodyOf (Try.f29)) := by kernel_rfl
theorem codec_clone.nm : (Try.f29.name == "runtime.NumGoroutine") = false := by kernel_rfl
theorem codec_clone.satS (self : Int → Int → Int → ByteArray → (List Nd) → Option (Int × Int × Int × ByteArray × List Nd)) (k : Nat) (hS : Sat Try.prog 29 (codec_clone.ES self)) : Sat Try.prog 29 ⟨codec_clone.A, codec_clone.R, Int × Int × Int × ByteArray × List Nd, fun x => codec_clone.g self k x.2.1.1 x.2.1.2.1 x.2.1.2.2.1 x.2.1.2.2.2.1 x.2.1.2.2.2.2.1, fun y => ((), ((y.1, y.2.1, y.2.2.1, y.2.2.2.1, y.2.2.2.2, ()), ()))⟩ :=
  have hC : ∀ g N, (codec_clone.C self k).orc g = some N → Sat Try.prog g N := satAll (satCons hS satNil)
  sat_of (C := codec_clone.C self k) hC mixed codec_clone.at codec_clone.nm codec_clone.bo (all_pieces rfl (locCons (loc_loop1 hC mixed (dstOk_zero _) (fun (q : Nat) (x : codec_clone.l122.A.V) => codec_clone.l122 self k q x.1.1.1 x.1.1.2.1 x.1.1.2.2.1 x.1.1.2.2.2.1 x.1.2.1 x.1.2.2.1.1 x.1.2.2.1.2.1 x.1.2.2.1.2.2.1 x.1.2.2.1.2.2.2.1 x.1.2.2.2.1 x.2.2.2.1 x.2.2.2.2.1 x.2.2.2.2.2.1) (fun _ => rfl) (codec_clone.l122.ev self k) (fun _ => rfl) k) locNil)) (codec_clone.ev self k) (fun _ => rfl) rfl
theorem codec_clone.sat : ∀ k, Sat Try.prog 29 (codec_clone.E k)
  | 0 => sat_none codec_clone.at codec_clone.nm codec_clone.bo (fun _ => rfl)
  | k + 1 => codec_clone.satS (codec_clone.f k) k (codec_clone.sat k)

/-! ### codec_Find: function 22 (examboard/codec.Find) -/
abbrev codec_Find.A : Sig := ⟨2, [], (.nilL), [0, 1], (.cons (.agg (.cons (.v (.int .i64)) (.cons (.v (.int .i64)) (.cons (.v (.int .i64)) (.cons (.v .str) (.cons (.v (.sl .node)) .nilL)))))) (.cons (.v (.int .i64)) .nilL))⟩
abbrev codec_Find.R : Sig := ⟨1, [], (.nilL), [0], (.cons (.tup (.cons (.agg (.cons (.v (.int .i64)) (.cons (.v (.int .i64)) (.cons (.v (.int .i64)) (.cons (.v .str) (.cons (.v (.sl .node)) .nilL)))))) (.cons (.v .bool) .nilL))) .nilL)⟩
abbrev codec_Find.l26.A : Sig := ⟨23, [.slot 4, .cell 0 4], (.cons (.obox (.cons (.v (.int .i64)) (.cons (.v (.int .i64)) (.cons (.v (.int .i64)) (.cons (.v .str) (.cons (.rowr 1) .nilL)))))) (.cons (.orow 24 .node) .nilL)), [4, 1, 9, 10, 11], (.cons (.boxr 0 0) (.cons (.v (.int .i64)) (.cons (.v (.sl .node)) (.cons (.v (.int .i64)) (.cons (.v (.int .i64)) .nilL)))))⟩
abbrev codec_Find.l26.R0 : Sig := ⟨23, [.slot 4, .cell 0 4], (.cons (.obox (.cons (.v (.int .i64)) (.cons (.v (.int .i64)) (.cons (.v (.int .i64)) (.cons (.v .str) (.cons (.rowr 1) .nilL)))))) (.cons (.orow 24 .node) .nilL)), [4], (.cons (.boxr 0 0) .nilL)⟩
abbrev codec_Find.l26.R1 : Sig := ⟨23, [.slot 4], (.cons (.obox (.cons (.v (.int .i64)) (.cons (.v (.int .i64)) (.cons (.v (.int .i64)) (.cons (.v .str) (.cons (.v (.sl .node)) .nilL)))))) .nilL), [4, 5], (.cons (.boxr 0 0) (.cons (.v .bool) .nilL))⟩
def codec_Find.l26 (k : Nat) : Nat → Int → Int → Int → ByteArray → (List Nd) → Int → (List Nd) → Int → Int → Option ((Int × Int × Int × ByteArray × List Nd) ⊕ (Int × Int × Int × ByteArray × List Nd × Bool))
  | 0, _, _, _, _, _, _, _, _, _ => none
  | q + 1, x0, x1, x2, x3, x4, x5, x6, x7, x8 =>
    cond (decide (x8 < x7))
    (cond (inB x8 x6.length)
      (cond ((rdL .node x6 x8).tag == x5)
        ((codec_clone.f k ((rdL .node x6 x8).tag) ((rdL .node x6 x8).kind) ((rdL .node x6 x8).n) ((rdL .node x6 x8).s) ((rdL .node x6 x8).kids)).bind fun y2 =>
          some (.inr (y2.1, y2.2.1, y2.2.2.1, y2.2.2.2.1, y2.2.2.2.2, true)))
        (codec_Find.l26 k q x0 x1 x2 x3 x4 x5 x6 x7 (IntKind.wrap .i64 (x8 + 1))))
      (none))
    (some (.inl (x0, x1, x2, x3, x4)))
abbrev codec_Find.l26.pc (k : Nat) : Pc := .two codec_Find.l26.A (.exit 0) codec_Find.l26.R0 (Int × Int × Int × ByteArray × List Nd) (fun y => (((y.1, y.2.1, y.2.2.1, y.2.2.2.1, (), ()), y.2.2.2.2, ()), ((), ()))) .ret codec_Find.l26.R1 (Int × Int × Int × ByteArray × List Nd × Bool) (fun y => (((y.1, y.2.1, y.2.2.1, y.2.2.2.1, y.2.2.2.2.1, ()), ()), ((), y.2.2.2.2.2, ()))) (fun x => codec_Find.l26 k k x.1.1.1 x.1.1.2.1 x.1.1.2.2.1 x.1.1.2.2.2.1 x.1.2.1 x.2.2.1 x.2.2.2.1 x.2.2.2.2.1 x.2.2.2.2.2.1)
def codec_Find.f (k : Nat) (a0 : Int) (a1 : Int) (a2 : Int) (a3 : ByteArray) (a4 : List Nd) (a5 : Int) : Option (Int × Int × Int × ByteArray × List Nd × Bool) :=
  (codec_Find.l26 k k 0 0 0 (⟨#[]⟩ : ByteArray) ([] : List Nd) a5 a4 (a4.length : Int) 0).bind fun y3 => Sum.casesOn y3 (fun u4 =>
  some (0, 0, 0, (⟨#[]⟩ : ByteArray), ([] : List Nd), false))
  (fun v5 =>
  some (v5.1, v5.2.1, v5.2.2.1, v5.2.2.2.1, v5.2.2.2.2.1, v5.2.2.2.2.2))
abbrev codec_Find.E (k : Nat) : Ent := ⟨codec_Find.A, codec_Find.R, Int × Int × Int × ByteArray × List Nd × Bool, fun x => codec_Find.f k x.2.1.1 x.2.1.2.1 x.2.1.2.2.1 x.2.1.2.2.2.1 x.2.1.2.2.2.2.1 x.2.2.1, fun y => ((), (((y.1, y.2.1, y.2.2.1, y.2.2.2.1, y.2.2.2.2.1, ()), y.2.2.2.2.2, ()), ()))⟩
noncomputable abbrev codec_Find.C (k : Nat) : Cfg := ⟨Try.prog, shs, look [(29, codec_clone.E k)], look [(26, codec_Find.l26.pc k)]⟩
theorem codec_Find.l26.ev (k q : Nat) (x : codec_Find.l26.A.V) : ((codeAt 60 (bodyOf (Try.f22)) 26).bind fun c => (loopOf c).bind fun c1 => evL2 (codec_Find.C k) c1 26 codec_Find.l26.A (.exit 0) codec_Find.l26.R0 (Int × Int × Int × ByteArray × List Nd) (fun x => (x.1.1.1, x.1.1.2.1, x.1.1.2.2.1, x.1.1.2.2.2.1, x.1.2.1)) .ret codec_Find.l26.R1 (Int × Int × Int × ByteArray × List Nd × Bool) (fun x => (x.1.1.1, x.1.1.2.1, x.1.1.2.2.1, x.1.1.2.2.2.1, x.1.1.2.2.2.2.1, x.2.2.1)) (fun x => codec_Find.l26 k q x.1.1.1 x.1.1.2.1 x.1.1.2.2.1 x.1.1.2.2.2.1 x.1.2.1 x.2.2.1 x.2.2.2.1 x.2.2.2.2.1 x.2.2.2.2.2.1) x) = codec_Find.l26 k (q + 1) x.1.1.1 x.1.1.2.1 x.1.1.2.2.1 x.1.1.2.2.2.1 x.1.2.1 x.2.2.1 x.2.2.2.1 x.2.2.2.2.1 x.2.2.2.2.2.1 := by kernel_rfl
theorem codec_Find.ev (k : Nat) (x : codec_Find.A.V) : evF (codec_Find.C k) Try.f22 codec_Find.A codec_Find.R (Int × Int × Int × ByteArray × List Nd × Bool) (fun x => (x.2.1.1.1, x.2.1.1.2.1, x.2.1.1.2.2.1, x.2.1.1.2.2.2.1, x.2.1.1.2.2.2.2.1, x.2.1.2.1)) x = codec_Find.f k x.2.1.1 x.2.1.2.1 x.2.1.2.2.1 x.2.1.2.2.2.1 x.2.1.2.2.2.2.1 x.2.2.1 := by kernel_rfl
theorem codec_Find.at : Try.prog.funcs[22]? = some Try.f22 := by kernel_rfl
theorem codec_Find.bo : Try.f22.body = some (bodyOf (Try.f22)) := by kernel_rfl
theorem codec_Find.nm : (Try.f22.name == "runtime.NumGoroutine") = false := by kernel_rfl
theorem codec_Find.sat (k : Nat) : Sat Try.prog 22 (codec_Find.E k) :=
  have hC : ∀ g N, (codec_Find.C k).orc g = some N → Sat Try.prog g N := satAll (satCons (codec_clone.sat k) satNil)
  sat_of (C := codec_Find.C k) hC mixed codec_Find.at codec_Find.nm codec_Find.bo (all_pieces rfl (locCons (loc_loop2 hC mixed (dstOk_zero _) (fun (q : Nat) (x : codec_Find.l26.A.V) => codec_Find.l26 k q x.1.1.1 x.1.1.2.1 x.1.1.2.2.1 x.1.1.2.2.2.1 x.1.2.1 x.2.2.1 x.2.2.2.1 x.2.2.2.2.1 x.2.2.2.2.2.1) (fun _ => rfl) (codec_Find.l26.ev k) (fun _ => rfl) (fun _ => rfl) k) locNil)) (codec_Find.ev k) (fun _ => rfl) rfl

/-! ### resume_guess_1: function 21 (examboard/resume.guess$1) -/
abbrev resume_guess_1.A : Sig := ⟨2, [], (.nilL), [0, 1], (.cons (.v (.int .i64)) (.cons (.cp (.cons (.v (.int .i64)) (.cons (.v (.int .i64)) (.cons (.v (.int .i64)) (.cons (.v .str) (.cons (.v (.sl .node)) .nilL)))))) .nilL))⟩
abbrev resume_guess_1.R : Sig := ⟨1, [], (.nilL), [0], (.cons (.v (.int .i64)) .nilL)⟩
def resume_guess_1.f (k : Nat) (a0 : Int) (a1 : Int) (a2 : Int) (a3 : Int) (a4 : ByteArray) (a5 : List Nd) : Option (Int) :=
  (codec_Find.f k a1 a2 a3 a4 a5 a0).bind fun y1 =>
  some y1.2.2.1
abbrev resume_guess_1.E (k : Nat) : Ent := ⟨resume_guess_1.A, resume_guess_1.R, Int, fun x => resume_guess_1.f k x.2.1 x.2.2.1.1 x.2.2.1.2.1 x.2.2.1.2.2.1 x.2.2.1.2.2.2.1 x.2.2.1.2.2.2.2.1, fun y => ((), (y, ()))⟩
noncomputable abbrev resume_guess_1.C (k : Nat) : Cfg := ⟨Try.prog, shs, look [(22, codec_Find.E k)], look []⟩
theorem resume_guess_1.ev (k : Nat) (x : resume_guess_1.A.V) : evF (resume_guess_1.C k) Try.f21 resume_guess_1.A resume_guess_1.R (Int) (fun x => x.2.1) x = resume_guess_1.f k x.2.1 x.2.2.1.1 x.2.2.1.2.1 x.2.2.1.2.2.1 x.2.2.1.2.2.2.1 x.2.2.1.2.2.2.2.1 := by kernel_rfl
theorem resume_guess_1.at : Try.prog.funcs[21]? = some Try.f21 := by kernel_rfl
theorem resume_guess_1.bo : Try.f21.body = some (bodyOf (Try.f21)) := by kernel_rfl
theorem resume_guess_1.nm : (Try.f21.name == "runtime.NumGoroutine") = false := by kernel_rfl
theorem resume_guess_1.sat (k : Nat) : Sat Try.prog 21 (resume_guess_1.E k) :=
  have hC : ∀ g N, (resume_guess_1.C k).orc g = some N → Sat Try.prog g N := satAll (satCons (codec_Find.sat k) satNil)
  sat_of (C := resume_guess_1.C k) hC mixed resume_guess_1.at resume_guess_1.nm resume_guess_1.bo (all_pieces rfl locNil) (resume_guess_1.ev k) (fun _ => rfl) rfl

/-! ### resume_guess: function 12 (examboard/resume.guess) -/
abbrev resume_guess.A : Sig := ⟨1, [], (.nilL), [0], (.cons (.agg (.cons (.v (.int .i64)) (.cons (.v (.int .i64)) (.cons (.v (.int .i64)) (.cons (.v .str) (.cons (.v (.sl .node)) .nilL)))))) .nilL)⟩
abbrev resume_guess.R : Sig := ⟨1, [], (.nilL), [0], (.cons (.agg (.cons (.v (.int .i64)) (.cons (.v (.int .i64)) (.cons (.v (.int .i64)) (.cons (.v (.sl (.int .i64))) (.cons (.v (.int .i64)) (.cons (.v .str) (.cons (.v .bool) (.cons (.v (.int .i64)) (.cons (.v (.int .i64)) (.cons (.v (.int .i64)) (.cons (.v (.int .i64)) .nilL)))))))))))) .nilL)⟩
abbrev resume_guess.l15710.A : Sig := ⟨72, [.slot 2, .cell 0 3, .slot 4, .cell 2 3], (.cons (.obox (.cons (.v (.int .i64)) (.cons (.v (.int .i64)) (.cons (.v (.int .i64)) (.cons (.rowr 1) (.cons (.v (.int .i64)) (.cons (.v .str) (.cons (.v .bool) (.cons (.v (.int .i64)) (.cons (.v (.int .i64)) (.cons (.v (.int .i64)) (.cons (.v (.int .i64)) .nilL)))))))))))) (.cons (.orow 3 (.int .i64)) (.cons (.obox (.cons (.v (.int .i64)) (.cons (.v (.int .i64)) (.cons (.v (.int .i64)) (.cons (.rowr 3) (.cons (.v (.int .i64)) (.cons (.v .str) (.cons (.v .bool) (.cons (.v (.int .i64)) (.cons (.v (.int .i64)) (.cons (.v (.int .i64)) (.cons (.v (.int .i64)) .nilL)))))))))))) (.cons (.orow 3 (.int .i64)) .nilL)))), [2, 4, 43, 44, 45], (.cons (.boxr 0 0) (.cons (.boxr 2 0) (.cons (.v (.sl .node)) (.cons (.v (.int .i64)) (.cons (.v (.int .i64)) .nilL)))))⟩
abbrev resume_guess.l15710.R0 : Sig := ⟨72, [.slot 2, .cell 0 3, .slot 4, .cell 2 3], (.cons (.obox (.cons (.v (.int .i64)) (.cons (.v (.int .i64)) (.cons (.v (.int .i64)) (.cons (.rowr 1) (.cons (.v (.int .i64)) (.cons (.v .str) (.cons (.v .bool) (.cons (.v (.int .i64)) (.cons (.v (.int .i64)) (.cons (.v (.int .i64)) (.cons (.v (.int .i64)) .nilL)))))))))))) (.cons (.orow 3 (.int .i64)) (.cons (.obox (.cons (.v (.int .i64)) (.cons (.v (.int .i64)) (.cons (.v (.int .i64)) (.cons (.rowr 3) (.cons (.v (.int .i64)) (.cons (.v .str) (.cons (.v .bool) (.cons (.v (.int .i64)) (.cons (.v (.int .i64)) (.cons (.v (.int .i64)) (.cons (.v (.int .i64)) .nilL)))))))))))) (.cons (.orow 3 (.int .i64)) .nilL)))), [2, 4], (.cons (.boxr 0 0) (.cons (.boxr 2 0) .nilL))⟩
def resume_guess.l15710 (k : Nat) : Nat → Int → Int → Int → Int → ByteArray → Bool → Int → Int → Int → Int → (List Int) → Int → Int → Int → Int → ByteArray → Bool → Int → Int → Int → Int → (List Int) → (List Nd) → Int → Int → Option (Int × Int × Int × Int × ByteArray × Bool × Int × Int × Int × Int × List Int × Int × Int × Int × Int × ByteArray × Bool × Int × Int × Int × Int × List Int)
  | 0, _, _, _, _, _, _, _, _, _, _, _, _, _, _, _, _, _, _, _, _, _, _, _, _, _ => none
  | q + 1, x0, x1, x2, x3, x4, x5, x6, x7, x8, x9, x10, x11, x12, x13, x14, x15, x16, x17, x18, x19, x20, x21, x22, x23, x24 =>
    cond (decide (x24 < x23))
    (cond (inB x24 x22.length)
      (cond (fits (x21.length + 1) 8)
        (resume_guess.l15710 k q x0 x1 x2 x3 x4 x5 x6 x7 x8 x9 x10 x11 x12 x13 x14 x15 x16 x17 x18 x19 x20 (x21 ++ [(rdL .node x22 x24).n]) x22 x23 (IntKind.wrap .i64 (x24 + 1)))
        (none))
      (none))
    (some (x0, x1, x2, x3, x4, x5, x6, x7, x8, x9, x10, x11, x12, x13, x14, x15, x16, x17, x18, x19, x20, x21))
abbrev resume_guess.l15710.pc (k : Nat) : Pc := .one resume_guess.l15710.A (.exit 1) resume_guess.l15710.R0 (Int × Int × Int × Int × ByteArray × Bool × Int × Int × Int × Int × List Int × Int × Int × Int × Int × ByteArray × Bool × Int × Int × Int × Int × List Int) (fun x => resume_guess.l15710 k k x.1.1.1 x.1.1.2.1 x.1.1.2.2.1 x.1.1.2.2.2.2.1 x.1.1.2.2.2.2.2.1 x.1.1.2.2.2.2.2.2.1 x.1.1.2.2.2.2.2.2.2.1 x.1.1.2.2.2.2.2.2.2.2.1 x.1.1.2.2.2.2.2.2.2.2.2.1 x.1.1.2.2.2.2.2.2.2.2.2.2.1 x.1.2.1 x.1.2.2.1.1 x.1.2.2.1.2.1 x.1.2.2.1.2.2.1 x.1.2.2.1.2.2.2.2.1 x.1.2.2.1.2.2.2.2.2.1 x.1.2.2.1.2.2.2.2.2.2.1 x.1.2.2.1.2.2.2.2.2.2.2.1 x.1.2.2.1.2.2.2.2.2.2.2.2.1 x.1.2.2.1.2.2.2.2.2.2.2.2.2.1 x.1.2.2.1.2.2.2.2.2.2.2.2.2.2.1 x.1.2.2.2.1 x.2.2.2.1 x.2.2.2.2.1 x.2.2.2.2.2.1) (fun y => (((y.1, y.2.1, y.2.2.1, (), y.2.2.2.1, y.2.2.2.2.1, y.2.2.2.2.2.1, y.2.2.2.2.2.2.1, y.2.2.2.2.2.2.2.1, y.2.2.2.2.2.2.2.2.1, y.2.2.2.2.2.2.2.2.2.1, ()), y.2.2.2.2.2.2.2.2.2.2.1, (y.2.2.2.2.2.2.2.2.2.2.2.1, y.2.2.2.2.2.2.2.2.2.2.2.2.1, y.2.2.2.2.2.2.2.2.2.2.2.2.2.1, (), y.2.2.2.2.2.2.2.2.2.2.2.2.2.2.1, y.2.2.2.2.2.2.2.2.2.2.2.2.2.2.2.1, y.2.2.2.2.2.2.2.2.2.2.2.2.2.2.2.2.1, y.2.2.2.2.2.2.2.2.2.2.2.2.2.2.2.2.2.1, y.2.2.2.2.2.2.2.2.2.2.2.2.2.2.2.2.2.2.1, y.2.2.2.2.2.2.2.2.2.2.2.2.2.2.2.2.2.2.2.1, y.2.2.2.2.2.2.2.2.2.2.2.2.2.2.2.2.2.2.2.2.1, ()), y.2.2.2.2.2.2.2.2.2.2.2.2.2.2.2.2.2.2.2.2.2, ()), ((), (), ())))
def resume_guess.f (k : Nat) (a0 : Int) (a1 : Int) (a2 : Int) (a3 : ByteArray) (a4 : List Nd) : Option (Int × Int × Int × List Int × Int × ByteArray × Bool × Int × Int × Int × Int) :=
  (resume_guess_1.f k 1 a0 a1 a2 a3 a4).bind fun y1 =>
  (resume_guess_1.f k 2 a0 a1 a2 a3 a4).bind fun y2 =>
  cond (y1 == 2)
  ((codec_Find.f k a0 a1 a2 a3 a4 4).bind fun y3 =>
    (codec_Find.f k a0 a1 a2 a3 a4 6).bind fun y4 =>
    (resume_guess_1.f k 3 a0 a1 a2 a3 a4).bind fun y5 =>
    (resume_guess_1.f k 5 a0 a1 a2 a3 a4).bind fun y6 =>
    (resume_guess_1.f k 7 a0 a1 a2 a3 a4).bind fun y7 =>
    (resume_guess.l15710 k k 0 0 0 0 (⟨#[]⟩ : ByteArray) false 0 0 0 0 ([] : List Int) y1 y2 y5 y6 y4.2.2.2.1 (y7 == 1) 0 0 0 0 ([] : List Int) y3.2.2.2.2.1 (y3.2.2.2.2.1.length : Int) 0).bind fun y8 =>
    some (y8.2.2.2.2.2.2.2.2.2.2.2.1, y8.2.2.2.2.2.2.2.2.2.2.2.2.1, y8.2.2.2.2.2.2.2.2.2.2.2.2.2.1, y8.2.2.2.2.2.2.2.2.2.2.2.2.2.2.2.2.2.2.2.2.2, y8.2.2.2.2.2.2.2.2.2.2.2.2.2.2.1, y8.2.2.2.2.2.2.2.2.2.2.2.2.2.2.2.1, y8.2.2.2.2.2.2.2.2.2.2.2.2.2.2.2.2.1, y8.2.2.2.2.2.2.2.2.2.2.2.2.2.2.2.2.2.1, y8.2.2.2.2.2.2.2.2.2.2.2.2.2.2.2.2.2.2.1, y8.2.2.2.2.2.2.2.2.2.2.2.2.2.2.2.2.2.2.2.1, y8.2.2.2.2.2.2.2.2.2.2.2.2.2.2.2.2.2.2.2.2.1))
  (cond (y1 == 5)
    ((resume_guess_1.f k 8 a0 a1 a2 a3 a4).bind fun y9 =>
      (resume_guess_1.f k 9 a0 a1 a2 a3 a4).bind fun y10 =>
      (resume_guess_1.f k 10 a0 a1 a2 a3 a4).bind fun y11 =>
      some (y1, y2, 0, ([] : List Int), 0, (⟨#[]⟩ : ByteArray), false, y9, y2, y10, y11))
    (some (y1, y2, 0, ([] : List Int), 0, (⟨#[]⟩ : ByteArray), false, 0, 0, 0, 0)))
abbrev resume_guess.E (k : Nat) : Ent := ⟨resume_guess.A, resume_guess.R, Int × Int × Int × List Int × Int × ByteArray × Bool × Int × Int × Int × Int, fun x => resume_guess.f k x.2.1.1 x.2.1.2.1 x.2.1.2.2.1 x.2.1.2.2.2.1 x.2.1.2.2.2.2.1, fun y => ((), ((y.1, y.2.1, y.2.2.1, y.2.2.2.1, y.2.2.2.2.1, y.2.2.2.2.2.1, y.2.2.2.2.2.2.1, y.2.2.2.2.2.2.2.1, y.2.2.2.2.2.2.2.2.1, y.2.2.2.2.2.2.2.2.2.1, y.2.2.2.2.2.2.2.2.2.2, ()), ()))⟩
noncomputable abbrev resume_guess.C (k : Nat) : Cfg := ⟨Try.prog, shs, look [(22, codec_Find.E k), (21, resume_guess_1.E k)], look [(15710, resume_guess.l15710.pc k)]⟩
theorem resume_guess.l15710.ev (k q : Nat) (x : resume_guess.l15710.A.V) : ((codeAt 60 (bodyOf (Try.f12)) 15710).bind fun c => (loopOf c).bind fun c1 => evL1 (resume_guess.C k) c1 15710 resume_guess.l15710.A (.exit 1) resume_guess.l15710.R0 (Int × Int × Int × Int × ByteArray × Bool × Int × Int × Int × Int × List Int × Int × Int × Int × Int × ByteArray × Bool × Int × Int × Int × Int × List Int) (fun x => (x.1.1.1, x.1.1.2.1, x.1.1.2.2.1, x.1.1.2.2.2.2.1, x.1.1.2.2.2.2.2.1, x.1.1.2.2.2.2.2.2.1, x.1.1.2.2.2.2.2.2.2.1, x.1.1.2.2.2.2.2.2.2.2.1, x.1.1.2.2.2.2.2.2.2.2.2.1, x.1.1.2.2.2.2.2.2.2.2.2.2.1, x.1.2.1, x.1.2.2.1.1, x.1.2.2.1.2.1, x.1.2.2.1.2.2.1, x.1.2.2.1.2.2.2.2.1, x.1.2.2.1.2.2.2.2.2.1, x.1.2.2.1.2.2.2.2.2.2.1, x.1.2.2.1.2.2.2.2.2.2.2.1, x.1.2.2.1.2.2.2.2.2.2.2.2.1, x.1.2.2.1.2.2.2.2.2.2.2.2.2.1, x.1.2.2.1.2.2.2.2.2.2.2.2.2.2.1, x.1.2.2.2.1)) (fun x => resume_guess.l15710 k q x.1.1.1 x.1.1.2.1 x.1.1.2.2.1 x.1.1.2.2.2.2.1 x.1.1.2.2.2.2.2.1 x.1.1.2.2.2.2.2.2.1 x.1.1.2.2.2.2.2.2.2.1 x.1.1.2.2.2.2.2.2.2.2.1 x.1.1.2.2.2.2.2.2.2.2.2.1 x.1.1.2.2.2.2.2.2.2.2.2.2.1 x.1.2.1 x.1.2.2.1.1 x.1.2.2.1.2.1 x.1.2.2.1.2.2.1 x.1.2.2.1.2.2.2.2.1 x.1.2.2.1.2.2.2.2.2.1 x.1.2.2.1.2.2.2.2.2.2.1 x.1.2.2.1.2.2.2.2.2.2.2.1 x.1.2.2.1.2.2.2.2.2.2.2.2.1 x.1.2.2.1.2.2.2.2.2.2.2.2.2.1 x.1.2.2.1.2.2.2.2.2.2.2.2.2.2.1 x.1.2.2.2.1 x.2.2.2.1 x.2.2.2.2.1 x.2.2.2.2.2.1) x) = resume_guess.l15710 k (q + 1) x.1.1.1 x.1.1.2.1 x.1.1.2.2.1 x.1.1.2.2.2.2.1 x.1.1.2.2.2.2.2.1 x.1.1.2.2.2.2.2.2.1 x.1.1.2.2.2.2.2.2.2.1 x.1.1.2.2.2.2.2.2.2.2.1 x.1.1.2.2.2.2.2.2.2.2.2.1 x.1.1.2.2.2.2.2.2.2.2.2.2.1 x.1.2.1 x.1.2.2.1.1 x.1.2.2.1.2.1 x.1.2.2.1.2.2.1 x.1.2.2.1.2.2.2.2.1 x.1.2.2.1.2.2.2.2.2.1 x.1.2.2.1.2.2.2.2.2.2.1 x.1.2.2.1.2.2.2.2.2.2.2.1 x.1.2.2.1.2.2.2.2.2.2.2.2.1 x.1.2.2.1.2.2.2.2.2.2.2.2.2.1 x.1.2.2.1.2.2.2.2.2.2.2.2.2.2.1 x.1.2.2.2.1 x.2.2.2.1 x.2.2.2.2.1 x.2.2.2.2.2.1 := by kernel_rfl
theorem resume_guess.ev (k : Nat) (x : resume_guess.A.V) : evF (resume_guess.C k) Try.f12 resume_guess.A resume_guess.R (Int × Int × Int × List Int × Int × ByteArray × Bool × Int × Int × Int × Int) (fun x => (x.2.1.1, x.2.1.2.1, x.2.1.2.2.1, x.2.1.2.2.2.1, x.2.1.2.2.2.2.1, x.2.1.2.2.2.2.2.1, x.2.1.2.2.2.2.2.2.1, x.2.1.2.2.2.2.2.2.2.1, x.2.1.2.2.2.2.2.2.2.2.1, x.2.1.2.2.2.2.2.2.2.2.2.1, x.2.1.2.2.2.2.2.2.2.2.2.2.1)) x = resume_guess.f k x.2.1.1 x.2.1.2.1 x.2.1.2.2.1 x.2.1.2.2.2.1 x.2.1.2.2.2.2.1 := by kernel_rfl
theorem resume_guess.at : Try.prog.funcs[12]? = some Try.f12 := by kernel_rfl
theorem resume_guess.bo : Try.f12.body = some (bodyOf (Try.f12)) := by kernel_rfl
theorem resume_guess.nm : (Try.f12.name == "runtime.NumGoroutine") = false := by kernel_rfl
theorem resume_guess.sat (k : Nat) : Sat Try.prog 12 (resume_guess.E k) :=
  have hC : ∀ g N, (resume_guess.C k).orc g = some N → Sat Try.prog g N := satAll (satCons (codec_Find.sat k) (satCons (resume_guess_1.sat k) satNil))
  sat_of (C := resume_guess.C k) hC mixed resume_guess.at resume_guess.nm resume_guess.bo (all_pieces rfl (locCons (loc_loop1 hC mixed (dstOk_zero _) (fun (q : Nat) (x : resume_guess.l15710.A.V) => resume_guess.l15710 k q x.1.1.1 x.1.1.2.1 x.1.1.2.2.1 x.1.1.2.2.2.2.1 x.1.1.2.2.2.2.2.1 x.1.1.2.2.2.2.2.2.1 x.1.1.2.2.2.2.2.2.2.1 x.1.1.2.2.2.2.2.2.2.2.1 x.1.1.2.2.2.2.2.2.2.2.2.1 x.1.1.2.2.2.2.2.2.2.2.2.2.1 x.1.2.1 x.1.2.2.1.1 x.1.2.2.1.2.1 x.1.2.2.1.2.2.1 x.1.2.2.1.2.2.2.2.1 x.1.2.2.1.2.2.2.2.2.1 x.1.2.2.1.2.2.2.2.2.2.1 x.1.2.2.1.2.2.2.2.2.2.2.1 x.1.2.2.1.2.2.2.2.2.2.2.2.1 x.1.2.2.1.2.2.2.2.2.2.2.2.2.1 x.1.2.2.1.2.2.2.2.2.2.2.2.2.2.1 x.1.2.2.2.1 x.2.2.2.1 x.2.2.2.2.1 x.2.2.2.2.2.1) (fun _ => rfl) (resume_guess.l15710.ev k) (fun _ => rfl) k) locNil)) (resume_guess.ev k) (fun _ => rfl) rfl

/-! ### resume_empty: function 27 (examboard/resume.empty) -/
abbrev resume_empty.A : Sig := ⟨1, [], (.nilL), [0], (.cons (.agg (.cons (.v (.int .i64)) (.cons (.v (.sl (.int .i64))) (.cons (.v (.int .i64)) (.cons (.v .str) (.cons (.v .bool) .nilL)))))) .nilL)⟩
abbrev resume_empty.R : Sig := ⟨1, [], (.nilL), [0], (.cons (.v .bool) .nilL)⟩
def resume_empty.f (k : Nat) (a0 : Int) (a1 : List Int) (a2 : Int) (a3 : ByteArray) (a4 : Bool) : Option (Bool) :=
  Option.bind (cond (a0 == 0)
    (some ((a1.length : Int) == 0))
    (some false)) fun (c1 : Bool) =>
  Option.bind (cond c1
    (some (a2 == 0))
    (some false)) fun (c2 : Bool) =>
  Option.bind (cond c2
    (some (a3.toList == (⟨#[]⟩ : ByteArray).toList))
    (some false)) fun (c3 : Bool) =>
  Option.bind (cond c3
    (some (!a4))
    (some false)) fun (c4 : Bool) =>
  some c4
abbrev resume_empty.E (k : Nat) : Ent := ⟨resume_empty.A, resume_empty.R, Bool, fun x => resume_empty.f k x.2.1.1 x.2.1.2.1 x.2.1.2.2.1 x.2.1.2.2.2.1 x.2.1.2.2.2.2.1, fun y => ((), (y, ()))⟩
noncomputable abbrev resume_empty.C (k : Nat) : Cfg := ⟨Try.prog, shs, look [], look []⟩
theorem resume_empty.ev (k : Nat) (x : resume_empty.A.V) : evF (resume_empty.C k) Try.f27 resume_empty.A resume_empty.R (Bool) (fun x => x.2.1) x = resume_empty.f k x.2.1.1 x.2.1.2.1 x.2.1.2.2.1 x.2.1.2.2.2.1 x.2.1.2.2.2.2.1 := by kernel_rfl
theorem resume_empty.at : Try.prog.funcs[27]? = some Try.f27 := by kernel_rfl
theorem resume_empty.bo : Try.f27.body = some (bodyOf (Try.f27)) := by kernel_rfl
theorem resume_empty.nm : (Try.f27.name == "runtime.NumGoroutine") = false := by kernel_rfl
theorem resume_empty.sat (k : Nat) : Sat Try.prog 27 (resume_empty.E k) :=
  have hC : ∀ g N, (resume_empty.C k).orc g = some N → Sat Try.prog g N := satAll satNil
  sat_of (C := resume_empty.C k) hC mixed resume_empty.at resume_empty.nm resume_empty.bo (all_pieces rfl locNil) (resume_empty.ev k) (fun _ => rfl) rfl

/-! ### resume_valid: function 16 (examboard/resume.valid) -/
abbrev resume_valid.A : Sig := ⟨1, [], (.nilL), [0], (.cons (.agg (.cons (.v (.int .i64)) (.cons (.v (.int .i64)) (.cons (.v (.int .i64)) (.cons (.v (.sl (.int .i64))) (.cons (.v (.int .i64)) (.cons (.v .str) (.cons (.v .bool) (.cons (.v (.int .i64)) (.cons (.v (.int .i64)) (.cons (.v (.int .i64)) (.cons (.v (.int .i64)) .nilL)))))))))))) .nilL)⟩
abbrev resume_valid.R : Sig := ⟨1, [], (.nilL), [0], (.cons (.v (.int .i64)) .nilL)⟩
def resume_valid.f (k : Nat) (a0 : Int) (a1 : Int) (a2 : Int) (a3 : List Int) (a4 : Int) (a5 : ByteArray) (a6 : Bool) (a7 : Int) (a8 : Int) (a9 : Int) (a10 : Int) : Option (Int) :=
  Option.bind (cond (decide (a0 < 1))
    (some true)
    (some (decide (a0 > 6)))) fun (c1 : Bool) =>
  cond c1
  (some 1)
  (Option.bind (cond (a0 != 2)
      ((resume_empty.f k a2 a3 a4 a5 a6).bind fun y2 =>
        some (!y2))
      (some false)) fun (c3 : Bool) =>
    cond c3
    (some 1)
    (Option.bind (cond (a0 != 5)
        (some (!((a7 == 0) && ((a8 == 0) && ((a9 == 0) && ((a10 == 0) && true))))))
        (some false)) fun (c4 : Bool) =>
      cond c4
      (some 1)
      (Option.bind (cond (a0 == 5)
          (some (a8 != a1))
          (some false)) fun (c5 : Bool) =>
        cond c5
        (some 1)
        (Option.bind (cond (decide (a1 < 0))
            (some true)
            (some (decide (a1 > 1099511627776)))) fun (c6 : Bool) =>
          cond c6
          (some 3)
          (Option.bind (cond (decide ((a3.length : Int) > 10))
              (some true)
              (some (decide ((a5.size : Int) > 1000)))) fun (c7 : Bool) =>
            cond c7
            (some 5)
            (some 0))))))
abbrev resume_valid.E (k : Nat) : Ent := ⟨resume_valid.A, resume_valid.R, Int, fun x => resume_valid.f k x.2.1.1 x.2.1.2.1 x.2.1.2.2.1 x.2.1.2.2.2.1 x.2.1.2.2.2.2.1 x.2.1.2.2.2.2.2.1 x.2.1.2.2.2.2.2.2.1 x.2.1.2.2.2.2.2.2.2.1 x.2.1.2.2.2.2.2.2.2.2.1 x.2.1.2.2.2.2.2.2.2.2.2.1 x.2.1.2.2.2.2.2.2.2.2.2.2.1, fun y => ((), (y, ()))⟩
noncomputable abbrev resume_valid.C (k : Nat) : Cfg := ⟨Try.prog, shs, look [(27, resume_empty.E k)], look []⟩
theorem resume_valid.ev (k : Nat) (x : resume_valid.A.V) : evF (resume_valid.C k) Try.f16 resume_valid.A resume_valid.R (Int) (fun x => x.2.1) x = resume_valid.f k x.2.1.1 x.2.1.2.1 x.2.1.2.2.1 x.2.1.2.2.2.1 x.2.1.2.2.2.2.1 x.2.1.2.2.2.2.2.1 x.2.1.2.2.2.2.2.2.1 x.2.1.2.2.2.2.2.2.2.1 x.2.1.2.2.2.2.2.2.2.2.1 x.2.1.2.2.2.2.2.2.2.2.2.1 x.2.1.2.2.2.2.2.2.2.2.2.2.1 := by kernel_rfl
theorem resume_valid.at : Try.prog.funcs[16]? = some Try.f16 := by kernel_rfl
theorem resume_valid.bo : Try.f16.body = some (bodyOf (Try.f16)) := by kernel_rfl
theorem resume_valid.nm : (Try.f16.name == "runtime.NumGoroutine") = false := by kernel_rfl
theorem resume_valid.sat (k : Nat) : Sat Try.prog 16 (resume_valid.E k) :=
  have hC : ∀ g N, (resume_valid.C k).orc g = some N → Sat Try.prog g N := satAll (satCons (resume_empty.sat k) satNil)
  sat_of (C := resume_valid.C k) hC mixed resume_valid.at resume_valid.nm resume_valid.bo (all_pieces rfl locNil) (resume_valid.ev k) (fun _ => rfl) rfl

/-! ### codec_Int: function 28 (examboard/codec.Int) -/
abbrev codec_Int.A : Sig := ⟨2, [], (.nilL), [0, 1], (.cons (.v (.int .i64)) (.cons (.v (.int .i64)) .nilL))⟩
abbrev codec_Int.R : Sig := ⟨1, [], (.nilL), [0], (.cons (.agg (.cons (.v (.int .i64)) (.cons (.v (.int .i64)) (.cons (.v (.int .i64)) (.cons (.v .str) (.cons (.v (.sl .node)) .nilL)))))) .nilL)⟩
def codec_Int.f (k : Nat) (a0 : Int) (a1 : Int) : Option (Int × Int × Int × ByteArray × List Nd) :=
  some (a0, 1, a1, (⟨#[]⟩ : ByteArray), ([] : List Nd))
abbrev codec_Int.E (k : Nat) : Ent := ⟨codec_Int.A, codec_Int.R, Int × Int × Int × ByteArray × List Nd, fun x => codec_Int.f k x.2.1 x.2.2.1, fun y => ((), ((y.1, y.2.1, y.2.2.1, y.2.2.2.1, y.2.2.2.2, ()), ()))⟩
noncomputable abbrev codec_Int.C (k : Nat) : Cfg := ⟨Try.prog, shs, look [], look []⟩
theorem codec_Int.ev (k : Nat) (x : codec_Int.A.V) : evF (codec_Int.C k) Try.f28 codec_Int.A codec_Int.R (Int × Int × Int × ByteArray × List Nd) (fun x => (x.2.1.1, x.2.1.2.1, x.2.1.2.2.1, x.2.1.2.2.2.1, x.2.1.2.2.2.2.1)) x = codec_Int.f k x.2.1 x.2.2.1 := by kernel_rfl
theorem codec_Int.at : Try.prog.funcs[28]? = some Try.f28 := by kernel_rfl
theorem codec_Int.bo : Try.f28.body = some (bodyOf (Try.f28)) := by kernel_rfl
theorem codec_Int.nm : (Try.f28.name == "runtime.NumGoroutine") = false := by kernel_rfl
theorem codec_Int.sat (k : Nat) : Sat Try.prog 28 (codec_Int.E k) :=
  have hC : ∀ g N, (codec_Int.C k).orc g = some N → Sat Try.prog g N := satAll satNil
  sat_of (C := codec_Int.C k) hC mixed codec_Int.at codec_Int.nm codec_Int.bo (all_pieces rfl locNil) (codec_Int.ev k) (fun _ => rfl) rfl

/-! ### resume_number: function 17 (examboard/resume.number) -/
abbrev resume_number.A : Sig := ⟨2, [], (.nilL), [0, 1], (.cons (.v (.int .i64)) (.cons (.v (.int .i64)) .nilL))⟩
abbrev resume_number.R : Sig := ⟨1, [], (.nilL), [0], (.cons (.agg (.cons (.v (.int .i64)) (.cons (.v (.int .i64)) (.cons (.v (.int .i64)) (.cons (.v .str) (.cons (.v (.sl .node)) .nilL)))))) .nilL)⟩
def resume_number.f (k : Nat) (a0 : Int) (a1 : Int) : Option (Int × Int × Int × ByteArray × List Nd) :=
  (codec_Int.f k a0 a1).bind fun y1 =>
  some (y1.1, y1.2.1, y1.2.2.1, y1.2.2.2.1, y1.2.2.2.2)
abbrev resume_number.E (k : Nat) : Ent := ⟨resume_number.A, resume_number.R, Int × Int × Int × ByteArray × List Nd, fun x => resume_number.f k x.2.1 x.2.2.1, fun y => ((), ((y.1, y.2.1, y.2.2.1, y.2.2.2.1, y.2.2.2.2, ()), ()))⟩
noncomputable abbrev resume_number.C (k : Nat) : Cfg := ⟨Try.prog, shs, look [(28, codec_Int.E k)], look []⟩
theorem resume_number.ev (k : Nat) (x : resume_number.A.V) : evF (resume_number.C k) Try.f17 resume_number.A resume_number.R (Int × Int × Int × ByteArray × List Nd) (fun x => (x.2.1.1, x.2.1.2.1, x.2.1.2.2.1, x.2.1.2.2.2.1, x.2.1.2.2.2.2.1)) x = resume_number.f k x.2.1 x.2.2.1 := by kernel_rfl
theorem resume_number.at : Try.prog.funcs[17]? = some Try.f17 := by kernel_rfl
theorem resume_number.bo : Try.f17.body = some (bodyOf (Try.f17)) := by kernel_rfl
theorem resume_number.nm : (Try.f17.name == "runtime.NumGoroutine") = false := by kernel_rfl
theorem resume_number.sat (k : Nat) : Sat Try.prog 17 (resume_number.E k) :=
  have hC : ∀ g N, (resume_number.C k).orc g = some N → Sat Try.prog g N := satAll (satCons (codec_Int.sat k) satNil)
  sat_of (C := resume_number.C k) hC mixed resume_number.at resume_number.nm resume_number.bo (all_pieces rfl locNil) (resume_number.ev k) (fun _ => rfl) rfl

/-! ### codec_List: function 18 (examboard/codec.List) -/
abbrev codec_List.A : Sig := ⟨2, [], (.nilL), [0, 1], (.cons (.v (.int .i64)) (.cons (.v (.sl .node)) .nilL))⟩
abbrev codec_List.R : Sig := ⟨1, [], (.nilL), [0], (.cons (.agg (.cons (.v (.int .i64)) (.cons (.v (.int .i64)) (.cons (.v (.int .i64)) (.cons (.v .str) (.cons (.v (.sl .node)) .nilL)))))) .nilL)⟩
def codec_List.f (k : Nat) (a0 : Int) (a1 : List Nd) : Option (Int × Int × Int × ByteArray × List Nd) :=
  (codec_clone.f k a0 3 0 (⟨#[]⟩ : ByteArray) a1).bind fun y1 =>
  some (y1.1, y1.2.1, y1.2.2.1, y1.2.2.2.1, y1.2.2.2.2)
abbrev codec_List.E (k : Nat) : Ent := ⟨codec_List.A, codec_List.R, Int × Int × Int × ByteArray × List Nd, fun x => codec_List.f k x.2.1 x.2.2.1, fun y => ((), ((y.1, y.2.1, y.2.2.1, y.2.2.2.1, y.2.2.2.2, ()), ()))⟩
noncomputable abbrev codec_List.C (k : Nat) : Cfg := ⟨Try.prog, shs, look [(29, codec_clone.E k)], look []⟩
theorem codec_List.ev (k : Nat) (x : codec_List.A.V) : evF (codec_List.C k) Try.f18 codec_List.A codec_List.R (Int × Int × Int × ByteArray × List Nd) (fun x => (x.2.1.1, x.2.1.2.1, x.2.1.2.2.1, x.2.1.2.2.2.1, x.2.1.2.2.2.2.1)) x = codec_List.f k x.2.1 x.2.2.1 := by kernel_rfl
theorem codec_List.at : Try.prog.funcs[18]? = some Try.f18 := by kernel_rfl
theorem codec_List.bo : Try.f18.body = some (bodyOf (Try.f18)) := by kernel_rfl
theorem codec_List.nm : (Try.f18.name == "runtime.NumGoroutine") = false := by kernel_rfl
theorem codec_List.sat (k : Nat) : Sat Try.prog 18 (codec_List.E k) :=
  have hC : ∀ g N, (codec_List.C k).orc g = some N → Sat Try.prog g N := satAll (satCons (codec_clone.sat k) satNil)
  sat_of (C := codec_List.C k) hC mixed codec_List.at codec_List.nm codec_List.bo (all_pieces rfl locNil) (codec_List.ev k) (fun _ => rfl) rfl

/-! ### codec_String: function 19 (examboard/codec.String) -/
abbrev codec_String.A : Sig := ⟨2, [], (.nilL), [0, 1], (.cons (.v (.int .i64)) (.cons (.v .str) .nilL))⟩
abbrev codec_String.R : Sig := ⟨1, [], (.nilL), [0], (.cons (.agg (.cons (.v (.int .i64)) (.cons (.v (.int .i64)) (.cons (.v (.int .i64)) (.cons (.v .str) (.cons (.v (.sl .node)) .nilL)))))) .nilL)⟩
def codec_String.f (k : Nat) (a0 : Int) (a1 : ByteArray) : Option (Int × Int × Int × ByteArray × List Nd) :=
  some (a0, 2, 0, a1, ([] : List Nd))
abbrev codec_String.E (k : Nat) : Ent := ⟨codec_String.A, codec_String.R, Int × Int × Int × ByteArray × List Nd, fun x => codec_String.f k x.2.1 x.2.2.1, fun y => ((), ((y.1, y.2.1, y.2.2.1, y.2.2.2.1, y.2.2.2.2, ()), ()))⟩
noncomputable abbrev codec_String.C (k : Nat) : Cfg := ⟨Try.prog, shs, look [], look []⟩
theorem codec_String.ev (k : Nat) (x : codec_String.A.V) : evF (codec_String.C k) Try.f19 codec_String.A codec_String.R (Int × Int × Int × ByteArray × List Nd) (fun x => (x.2.1.1, x.2.1.2.1, x.2.1.2.2.1, x.2.1.2.2.2.1, x.2.1.2.2.2.2.1)) x = codec_String.f k x.2.1 x.2.2.1 := by kernel_rfl
theorem codec_String.at : Try.prog.funcs[19]? = some Try.f19 := by kernel_rfl
theorem codec_String.bo : Try.f19.body = some (bodyOf (Try.f19)) := by kernel_rfl
theorem codec_String.nm : (Try.f19.name == "runtime.NumGoroutine") = false := by kernel_rfl
theorem codec_String.sat (k : Nat) : Sat Try.prog 19 (codec_String.E k) :=
  have hC : ∀ g N, (codec_String.C k).orc g = some N → Sat Try.prog g N := satAll satNil
  sat_of (C := codec_String.C k) hC mixed codec_String.at codec_String.nm codec_String.bo (all_pieces rfl locNil) (codec_String.ev k) (fun _ => rfl) rfl

/-! ### resume_Encode: function 9 (examboard/resume.Encode) -/
abbrev resume_Encode.A : Sig := ⟨1, [], (.nilL), [0], (.cons (.agg (.cons (.v (.int .i64)) (.cons (.v (.int .i64)) (.cons (.v (.int .i64)) (.cons (.v (.sl (.int .i64))) (.cons (.v (.int .i64)) (.cons (.v .str) (.cons (.v .bool) (.cons (.v (.int .i64)) (.cons (.v (.int .i64)) (.cons (.v (.int .i64)) (.cons (.v (.int .i64)) .nilL)))))))))))) .nilL)⟩
abbrev resume_Encode.R : Sig := ⟨1, [], (.nilL), [0], (.cons (.tup (.cons (.agg (.cons (.v (.int .i64)) (.cons (.v (.int .i64)) (.cons (.v (.int .i64)) (.cons (.v .str) (.cons (.v (.sl .node)) .nilL)))))) (.cons (.v (.int .i64)) .nilL))) .nilL)⟩
abbrev resume_Encode.l7850.A : Sig := ⟨82, [.slot 1, .slot 2, .cell 1 4, .slot 5, .slot 6], (.cons (.obox (.cons (.v (.int .i64)) (.cons (.v (.int .i64)) (.cons (.v (.int .i64)) (.cons (.v (.sl (.int .i64))) (.cons (.v (.int .i64)) (.cons (.v .str) (.cons (.v .bool) (.cons (.v (.int .i64)) (.cons (.v (.int .i64)) (.cons (.v (.int .i64)) (.cons (.v (.int .i64)) .nilL)))))))))))) (.cons (.obox (.cons (.v (.int .i64)) (.cons (.v (.int .i64)) (.cons (.v (.int .i64)) (.cons (.v .str) (.cons (.rowr 2) .nilL)))))) (.cons (.orow 24 .node) (.cons (.orow 24 .node) (.cons (.orow 24 .node) .nilL))))), [1, 2, 5, 6, 29, 30, 31], (.cons (.boxr 0 0) (.cons (.boxr 1 0) (.cons (.rowr 3) (.cons (.rowr 4) (.cons (.v (.sl (.int .i64))) (.cons (.v (.int .i64)) (.cons (.v (.int .i64)) .nilL)))))))⟩
abbrev resume_Encode.l7850.R0 : Sig := ⟨82, [.slot 1, .slot 2, .cell 1 4, .slot 5, .slot 6], (.cons (.obox (.cons (.v (.int .i64)) (.cons (.v (.int .i64)) (.cons (.v (.int .i64)) (.cons (.v (.sl (.int .i64))) (.cons (.v (.int .i64)) (.cons (.v .str) (.cons (.v .bool) (.cons (.v (.int .i64)) (.cons (.v (.int .i64)) (.cons (.v (.int .i64)) (.cons (.v (.int .i64)) .nilL)))))))))))) (.cons (.obox (.cons (.v (.int .i64)) (.cons (.v (.int .i64)) (.cons (.v (.int .i64)) (.cons (.v .str) (.cons (.rowr 2) .nilL)))))) (.cons (.orow 24 .node) (.cons (.orow 24 .node) (.cons (.orow 24 .node) .nilL))))), [1, 2, 5, 6], (.cons (.boxr 0 0) (.cons (.boxr 1 0) (.cons (.rowr 3) (.cons (.rowr 4) .nilL))))⟩
def resume_Encode.l7850 (k : Nat) : Nat → Int → Int → Int → (List Int) → Int → ByteArray → Bool → Int → Int → Int → Int → Int → Int → Int → ByteArray → (List Nd) → (List Nd) → (List Nd) → (List Int) → Int → Int → Option (Int × Int × Int × List Int × Int × ByteArray × Bool × Int × Int × Int × Int × Int × Int × Int × ByteArray × List Nd × List Nd × List Nd)
  | 0, _, _, _, _, _, _, _, _, _, _, _, _, _, _, _, _, _, _, _, _, _ => none
  | q + 1, x0, x1, x2, x3, x4, x5, x6, x7, x8, x9, x10, x11, x12, x13, x14, x15, x16, x17, x18, x19, x20 =>
    cond (decide (x20 < x19))
    (cond (inB x20 x18.length)
      ((resume_number.f k 0 (rdL (.int .i64) x18 x20)).bind fun y5 =>
        cond (fits (x17.length + 1) 64)
        (resume_Encode.l7850 k q x0 x1 x2 x3 x4 x5 x6 x7 x8 x9 x10 x11 x12 x13 x14 x15 x16 (x17 ++ [(⟨y5.1, y5.2.1, y5.2.2.1, y5.2.2.2.1, y5.2.2.2.2⟩ : Nd)]) x18 x19 (IntKind.wrap .i64 (x20 + 1)))
        (none))
      (none))
    (some (x0, x1, x2, x3, x4, x5, x6, x7, x8, x9, x10, x11, x12, x13, x14, x15, x16, x17))
abbrev resume_Encode.l7850.pc (k : Nat) : Pc := .one resume_Encode.l7850.A (.exit 1) resume_Encode.l7850.R0 (Int × Int × Int × List Int × Int × ByteArray × Bool × Int × Int × Int × Int × Int × Int × Int × ByteArray × List Nd × List Nd × List Nd) (fun x => resume_Encode.l7850 k k x.1.1.1 x.1.1.2.1 x.1.1.2.2.1 x.1.1.2.2.2.1 x.1.1.2.2.2.2.1 x.1.1.2.2.2.2.2.1 x.1.1.2.2.2.2.2.2.1 x.1.1.2.2.2.2.2.2.2.1 x.1.1.2.2.2.2.2.2.2.2.1 x.1.1.2.2.2.2.2.2.2.2.2.1 x.1.1.2.2.2.2.2.2.2.2.2.2.1 x.1.2.1.1 x.1.2.1.2.1 x.1.2.1.2.2.1 x.1.2.1.2.2.2.1 x.1.2.2.1 x.1.2.2.2.1 x.1.2.2.2.2.1 x.2.2.2.2.2.1 x.2.2.2.2.2.2.1 x.2.2.2.2.2.2.2.1) (fun y => (((y.1, y.2.1, y.2.2.1, y.2.2.2.1, y.2.2.2.2.1, y.2.2.2.2.2.1, y.2.2.2.2.2.2.1, y.2.2.2.2.2.2.2.1, y.2.2.2.2.2.2.2.2.1, y.2.2.2.2.2.2.2.2.2.1, y.2.2.2.2.2.2.2.2.2.2.1, ()), (y.2.2.2.2.2.2.2.2.2.2.2.1, y.2.2.2.2.2.2.2.2.2.2.2.2.1, y.2.2.2.2.2.2.2.2.2.2.2.2.2.1, y.2.2.2.2.2.2.2.2.2.2.2.2.2.2.1, (), ()), y.2.2.2.2.2.2.2.2.2.2.2.2.2.2.2.1, y.2.2.2.2.2.2.2.2.2.2.2.2.2.2.2.2.1, y.2.2.2.2.2.2.2.2.2.2.2.2.2.2.2.2.2, ()), ((), (), (), (), ())))
abbrev resume_Encode.j7854.A : Sig := ⟨82, [.slot 1, .slot 2, .cell 1 4, .slot 5, .slot 6], (.cons (.obox (.cons (.v (.int .i64)) (.cons (.v (.int .i64)) (.cons (.v (.int .i64)) (.cons (.v (.sl (.int .i64))) (.cons (.v (.int .i64)) (.cons (.v .str) (.cons (.v .bool) (.cons (.v (.int .i64)) (.cons (.v (.int .i64)) (.cons (.v (.int .i64)) (.cons (.v (.int .i64)) .nilL)))))))))))) (.cons (.obox (.cons (.v (.int .i64)) (.cons (.v (.int .i64)) (.cons (.v (.int .i64)) (.cons (.v .str) (.cons (.rowr 2) .nilL)))))) (.cons (.orow 24 .node) (.cons (.orow 24 .node) (.cons (.orow 24 .node) .nilL))))), [1, 2, 5, 6, 9], (.cons (.boxr 0 0) (.cons (.boxr 1 0) (.cons (.rowr 3) (.cons (.rowr 4) (.cons (.v (.int .i64)) .nilL)))))⟩
abbrev resume_Encode.j7854.R0 : Sig := ⟨82, [.slot 1, .slot 2, .cell 1 4, .slot 5, .slot 6], (.cons (.obox (.cons (.v (.int .i64)) (.cons (.v (.int .i64)) (.cons (.v (.int .i64)) (.cons (.v (.sl (.int .i64))) (.cons (.v (.int .i64)) (.cons (.v .str) (.cons (.v .bool) (.cons (.v (.int .i64)) (.cons (.v (.int .i64)) (.cons (.v (.int .i64)) (.cons (.v (.int .i64)) .nilL)))))))))))) (.cons (.obox (.cons (.v (.int .i64)) (.cons (.v (.int .i64)) (.cons (.v (.int .i64)) (.cons (.v .str) (.cons (.rowr 2) .nilL)))))) (.cons (.orow 24 .node) (.cons (.orow 24 .node) (.cons (.orow 24 .node) .nilL))))), [1, 2, 5, 6, 9], (.cons (.boxr 0 0) (.cons (.boxr 1 0) (.cons (.rowr 3) (.cons (.rowr 4) (.cons (.v (.int .i64)) .nilL)))))⟩
def resume_Encode.j7854 (k : Nat) (x0 : Int) (x1 : Int) (x2 : Int) (x3 : List Int) (x4 : Int) (x5 : ByteArray) (x6 : Bool) (x7 : Int) (x8 : Int) (x9 : Int) (x10 : Int) (x11 : Int) (x12 : Int) (x13 : Int) (x14 : ByteArray) (x15 : List Nd) (x16 : List Nd) (x17 : List Nd) (x18 : Int) : Option (Int × Int × Int × List Int × Int × ByteArray × Bool × Int × Int × Int × Int × Int × Int × Int × ByteArray × List Nd × List Nd × List Nd × Int) :=
  cond x6
  (some (x0, x1, x2, x3, x4, x5, x6, x7, x8, x9, x10, x11, x12, x13, x14, x15, x16, x17, 1))
  (some (x0, x1, x2, x3, x4, x5, x6, x7, x8, x9, x10, x11, x12, x13, x14, x15, x16, x17, x18))
abbrev resume_Encode.j7854.pc (k : Nat) : Pc := .one resume_Encode.j7854.A .normal resume_Encode.j7854.R0 (Int × Int × Int × List Int × Int × ByteArray × Bool × Int × Int × Int × Int × Int × Int × Int × ByteArray × List Nd × List Nd × List Nd × Int) (fun x => resume_Encode.j7854 k x.1.1.1 x.1.1.2.1 x.1.1.2.2.1 x.1.1.2.2.2.1 x.1.1.2.2.2.2.1 x.1.1.2.2.2.2.2.1 x.1.1.2.2.2.2.2.2.1 x.1.1.2.2.2.2.2.2.2.1 x.1.1.2.2.2.2.2.2.2.2.1 x.1.1.2.2.2.2.2.2.2.2.2.1 x.1.1.2.2.2.2.2.2.2.2.2.2.1 x.1.2.1.1 x.1.2.1.2.1 x.1.2.1.2.2.1 x.1.2.1.2.2.2.1 x.1.2.2.1 x.1.2.2.2.1 x.1.2.2.2.2.1 x.2.2.2.2.2.1) (fun y => (((y.1, y.2.1, y.2.2.1, y.2.2.2.1, y.2.2.2.2.1, y.2.2.2.2.2.1, y.2.2.2.2.2.2.1, y.2.2.2.2.2.2.2.1, y.2.2.2.2.2.2.2.2.1, y.2.2.2.2.2.2.2.2.2.1, y.2.2.2.2.2.2.2.2.2.2.1, ()), (y.2.2.2.2.2.2.2.2.2.2.2.1, y.2.2.2.2.2.2.2.2.2.2.2.2.1, y.2.2.2.2.2.2.2.2.2.2.2.2.2.1, y.2.2.2.2.2.2.2.2.2.2.2.2.2.2.1, (), ()), y.2.2.2.2.2.2.2.2.2.2.2.2.2.2.2.1, y.2.2.2.2.2.2.2.2.2.2.2.2.2.2.2.2.1, y.2.2.2.2.2.2.2.2.2.2.2.2.2.2.2.2.2.1, ()), ((), (), (), (), y.2.2.2.2.2.2.2.2.2.2.2.2.2.2.2.2.2.2, ())))
def resume_Encode.f (k : Nat) (a0 : Int) (a1 : Int) (a2 : Int) (a3 : List Int) (a4 : Int) (a5 : ByteArray) (a6 : Bool) (a7 : Int) (a8 : Int) (a9 : Int) (a10 : Int) : Option (Int × Int × Int × ByteArray × List Nd × Int) :=
  (resume_valid.f k a0 a1 a2 a3 a4 a5 a6 a7 a8 a9 a10).bind fun y1 =>
  cond (y1 != 0)
  (some (0, 0, 0, (⟨#[]⟩ : ByteArray), ([] : List Nd), y1))
  ((resume_number.f k 1 a0).bind fun y2 =>
    (resume_number.f k 2 a1).bind fun y3 =>
    cond (a0 == 2)
    ((resume_Encode.l7850 k k a0 a1 a2 a3 a4 a5 a6 a7 a8 a9 a10 0 0 0 (⟨#[]⟩ : ByteArray) ([] : List Nd) [(⟨y2.1, y2.2.1, y2.2.2.1, y2.2.2.2.1, y2.2.2.2.2⟩ : Nd), (⟨y3.1, y3.2.1, y3.2.2.1, y3.2.2.2.1, y3.2.2.2.2⟩ : Nd)] ([] : List Nd) a3 (a3.length : Int) 0).bind fun y7 =>
      (resume_Encode.j7854 k y7.1 y7.2.1 y7.2.2.1 y7.2.2.2.1 y7.2.2.2.2.1 y7.2.2.2.2.2.1 y7.2.2.2.2.2.2.1 y7.2.2.2.2.2.2.2.1 y7.2.2.2.2.2.2.2.2.1 y7.2.2.2.2.2.2.2.2.2.1 y7.2.2.2.2.2.2.2.2.2.2.1 y7.2.2.2.2.2.2.2.2.2.2.2.1 y7.2.2.2.2.2.2.2.2.2.2.2.2.1 y7.2.2.2.2.2.2.2.2.2.2.2.2.2.1 y7.2.2.2.2.2.2.2.2.2.2.2.2.2.2.1 y7.2.2.2.2.2.2.2.2.2.2.2.2.2.2.2.1 y7.2.2.2.2.2.2.2.2.2.2.2.2.2.2.2.2.1 y7.2.2.2.2.2.2.2.2.2.2.2.2.2.2.2.2.2 0).bind fun y8 =>
      (resume_number.f k 3 y8.2.2.1).bind fun y9 =>
      (codec_List.f k 4 y8.2.2.2.2.2.2.2.2.2.2.2.2.2.2.2.2.2.1).bind fun y10 =>
      (resume_number.f k 5 y8.2.2.2.2.1).bind fun y11 =>
      (codec_String.f k 6 y8.2.2.2.2.2.1).bind fun y12 =>
      (resume_number.f k 7 y8.2.2.2.2.2.2.2.2.2.2.2.2.2.2.2.2.2.2).bind fun y13 =>
      cond (fits (y8.2.2.2.2.2.2.2.2.2.2.2.2.2.2.2.2.1.length + 5) 64)
      ((codec_List.f k 50 (y8.2.2.2.2.2.2.2.2.2.2.2.2.2.2.2.2.1 ++ [(⟨y9.1, y9.2.1, y9.2.2.1, y9.2.2.2.1, y9.2.2.2.2⟩ : Nd), (⟨y10.1, y10.2.1, y10.2.2.1, y10.2.2.2.1, y10.2.2.2.2⟩ : Nd), (⟨y11.1, y11.2.1, y11.2.2.1, y11.2.2.2.1, y11.2.2.2.2⟩ : Nd), (⟨y12.1, y12.2.1, y12.2.2.1, y12.2.2.2.1, y12.2.2.2.2⟩ : Nd), (⟨y13.1, y13.2.1, y13.2.2.1, y13.2.2.2.1, y13.2.2.2.2⟩ : Nd)])).bind fun y14 =>
        some (y14.1, y14.2.1, y14.2.2.1, y14.2.2.2.1, y14.2.2.2.2, 0))
      (none))
    (cond (a0 == 5)
      ((resume_number.f k 8 a7).bind fun y15 =>
        (resume_number.f k 9 a9).bind fun y16 =>
        (resume_number.f k 10 a10).bind fun y17 =>
        cond (fits (2 + 3) 64)
        ((codec_List.f k 50 ([(⟨y2.1, y2.2.1, y2.2.2.1, y2.2.2.2.1, y2.2.2.2.2⟩ : Nd), (⟨y3.1, y3.2.1, y3.2.2.1, y3.2.2.2.1, y3.2.2.2.2⟩ : Nd)] ++ [(⟨y15.1, y15.2.1, y15.2.2.1, y15.2.2.2.1, y15.2.2.2.2⟩ : Nd), (⟨y16.1, y16.2.1, y16.2.2.1, y16.2.2.2.1, y16.2.2.2.2⟩ : Nd), (⟨y17.1, y17.2.1, y17.2.2.1, y17.2.2.2.1, y17.2.2.2.2⟩ : Nd)])).bind fun y18 =>
          some (y18.1, y18.2.1, y18.2.2.1, y18.2.2.2.1, y18.2.2.2.2, 0))
        (none))
      ((codec_List.f k 50 [(⟨y2.1, y2.2.1, y2.2.2.1, y2.2.2.2.1, y2.2.2.2.2⟩ : Nd), (⟨y3.1, y3.2.1, y3.2.2.1, y3.2.2.2.1, y3.2.2.2.2⟩ : Nd)]).bind fun y19 =>
        some (y19.1, y19.2.1, y19.2.2.1, y19.2.2.2.1, y19.2.2.2.2, 0))))
abbrev resume_Encode.E (k : Nat) : Ent := ⟨resume_Encode.A, resume_Encode.R, Int × Int × Int × ByteArray × List Nd × Int, fun x => resume_Encode.f k x.2.1.1 x.2.1.2.1 x.2.1.2.2.1 x.2.1.2.2.2.1 x.2.1.2.2.2.2.1 x.2.1.2.2.2.2.2.1 x.2.1.2.2.2.2.2.2.1 x.2.1.2.2.2.2.2.2.2.1 x.2.1.2.2.2.2.2.2.2.2.1 x.2.1.2.2.2.2.2.2.2.2.2.1 x.2.1.2.2.2.2.2.2.2.2.2.2.1, fun y => ((), (((y.1, y.2.1, y.2.2.1, y.2.2.2.1, y.2.2.2.2.1, ()), y.2.2.2.2.2, ()), ()))⟩
noncomputable abbrev resume_Encode.C (k : Nat) : Cfg := ⟨Try.prog, shs, look [(18, codec_List.E k), (19, codec_String.E k), (17, resume_number.E k), (16, resume_valid.E k)], look [(7850, resume_Encode.l7850.pc k), (7854, resume_Encode.j7854.pc k)]⟩
theorem resume_Encode.l7850.ev (k q : Nat) (x : resume_Encode.l7850.A.V) : ((codeAt 60 (bodyOf (Try.f9)) 7850).bind fun c => (loopOf c).bind fun c1 => evL1 (resume_Encode.C k) c1 7850 resume_Encode.l7850.A (.exit 1) resume_Encode.l7850.R0 (Int × Int × Int × List Int × Int × ByteArray × Bool × Int × Int × Int × Int × Int × Int × Int × ByteArray × List Nd × List Nd × List Nd) (fun x => (x.1.1.1, x.1.1.2.1, x.1.1.2.2.1, x.1.1.2.2.2.1, x.1.1.2.2.2.2.1, x.1.1.2.2.2.2.2.1, x.1.1.2.2.2.2.2.2.1, x.1.1.2.2.2.2.2.2.2.1, x.1.1.2.2.2.2.2.2.2.2.1, x.1.1.2.2.2.2.2.2.2.2.2.1, x.1.1.2.2.2.2.2.2.2.2.2.2.1, x.1.2.1.1, x.1.2.1.2.1, x.1.2.1.2.2.1, x.1.2.1.2.2.2.1, x.1.2.2.1, x.1.2.2.2.1, x.1.2.2.2.2.1)) (fun x => resume_Encode.l7850 k q x.1.1.1 x.1.1.2.1 x.1.1.2.2.1 x.1.1.2.2.2.1 x.1.1.2.2.2.2.1 x.1.1.2.2.2.2.2.1 x.1.1.2.2.2.2.2.2.1 x.1.1.2.2.2.2.2.2.2.1 x.1.1.2.2.2.2.2.2.2.2.1 x.1.1.2.2.2.2.2.2.2.2.2.1 x.1.1.2.2.2.2.2.2.2.2.2.2.1 x.1.2.1.1 x.1.2.1.2.1 x.1.2.1.2.2.1 x.1.2.1.2.2.2.1 x.1.2.2.1 x.1.2.2.2.1 x.1.2.2.2.2.1 x.2.2.2.2.2.1 x.2.2.2.2.2.2.1 x.2.2.2.2.2.2.2.1) x) = resume_Encode.l7850 k (q + 1) x.1.1.1 x.1.1.2.1 x.1.1.2.2.1 x.1.1.2.2.2.1 x.1.1.2.2.2.2.1 x.1.1.2.2.2.2.2.1 x.1.1.2.2.2.2.2.2.1 x.1.1.2.2.2.2.2.2.2.1 x.1.1.2.2.2.2.2.2.2.2.1 x.1.1.2.2.2.2.2.2.2.2.2.1 x.1.1.2.2.2.2.2.2.2.2.2.2.1 x.1.2.1.1 x.1.2.1.2.1 x.1.2.1.2.2.1 x.1.2.1.2.2.2.1 x.1.2.2.1 x.1.2.2.2.1 x.1.2.2.2.2.1 x.2.2.2.2.2.1 x.2.2.2.2.2.2.1 x.2.2.2.2.2.2.2.1 := by kernel_rfl
theorem resume_Encode.j7854.ev (k : Nat) (x : resume_Encode.j7854.A.V) : ((codeAt 60 (bodyOf (Try.f9)) 7854).bind fun c => evP1 (resume_Encode.C k) c 7854 resume_Encode.j7854.A .normal resume_Encode.j7854.R0 (Int × Int × Int × List Int × Int × ByteArray × Bool × Int × Int × Int × Int × Int × Int × Int × ByteArray × List Nd × List Nd × List Nd × Int) (fun x => (x.1.1.1, x.1.1.2.1, x.1.1.2.2.1, x.1.1.2.2.2.1, x.1.1.2.2.2.2.1, x.1.1.2.2.2.2.2.1, x.1.1.2.2.2.2.2.2.1, x.1.1.2.2.2.2.2.2.2.1, x.1.1.2.2.2.2.2.2.2.2.1, x.1.1.2.2.2.2.2.2.2.2.2.1, x.1.1.2.2.2.2.2.2.2.2.2.2.1, x.1.2.1.1, x.1.2.1.2.1, x.1.2.1.2.2.1, x.1.2.1.2.2.2.1, x.1.2.2.1, x.1.2.2.2.1, x.1.2.2.2.2.1, x.2.2.2.2.2.1)) x) = resume_Encode.j7854 k x.1.1.1 x.1.1.2.1 x.1.1.2.2.1 x.1.1.2.2.2.1 x.1.1.2.2.2.2.1 x.1.1.2.2.2.2.2.1 x.1.1.2.2.2.2.2.2.1 x.1.1.2.2.2.2.2.2.2.1 x.1.1.2.2.2.2.2.2.2.2.1 x.1.1.2.2.2.2.2.2.2.2.2.1 x.1.1.2.2.2.2.2.2.2.2.2.2.1 x.1.2.1.1 x.1.2.1.2.1 x.1.2.1.2.2.1 x.1.2.1.2.2.2.1 x.1.2.2.1 x.1.2.2.2.1 x.1.2.2.2.2.1 x.2.2.2.2.2.1 := by kernel_rfl
theorem resume_Encode.ev (k : Nat) (x : resume_Encode.A.V) : evF (resume_Encode.C k) Try.f9 resume_Encode.A resume_Encode.R (Int × Int × Int × ByteArray × List Nd × Int) (fun x => (x.2.1.1.1, x.2.1.1.2.1, x.2.1.1.2.2.1, x.2.1.1.2.2.2.1, x.2.1.1.2.2.2.2.1, x.2.1.2.1)) x = resume_Encode.f k x.2.1.1 x.2.1.2.1 x.2.1.2.2.1 x.2.1.2.2.2.1 x.2.1.2.2.2.2.1 x.2.1.2.2.2.2.2.1 x.2.1.2.2.2.2.2.2.1 x.2.1.2.2.2.2.2.2.2.1 x.2.1.2.2.2.2.2.2.2.2.1 x.2.1.2.2.2.2.2.2.2.2.2.1 x.2.1.2.2.2.2.2.2.2.2.2.2.1 := by kernel_rfl
theorem resume_Encode.at : Try.prog.funcs[9]? = some Try.f9 := by kernel_rfl
theorem resume_Encode.bo : Try.f9.body = some (bodyOf (Try.f9)) := by kernel_rfl
theorem resume_Encode.nm : (Try.f9.name == "runtime.NumGoroutine") = false := by kernel_rfl
theorem resume_Encode.sat (k : Nat) : Sat Try.prog 9 (resume_Encode.E k) :=
  have hC : ∀ g N, (resume_Encode.C k).orc g = some N → Sat Try.prog g N := satAll (satCons (codec_List.sat k) (satCons (codec_String.sat k) (satCons (resume_number.sat k) (satCons (resume_valid.sat k) satNil))))
  sat_of (C := resume_Encode.C k) hC mixed resume_Encode.at resume_Encode.nm resume_Encode.bo (all_pieces rfl (locCons (loc_loop1 hC mixed (dstOk_zero _) (fun (q : Nat) (x : resume_Encode.l7850.A.V) => resume_Encode.l7850 k q x.1.1.1 x.1.1.2.1 x.1.1.2.2.1 x.1.1.2.2.2.1 x.1.1.2.2.2.2.1 x.1.1.2.2.2.2.2.1 x.1.1.2.2.2.2.2.2.1 x.1.1.2.2.2.2.2.2.2.1 x.1.1.2.2.2.2.2.2.2.2.1 x.1.1.2.2.2.2.2.2.2.2.2.1 x.1.1.2.2.2.2.2.2.2.2.2.2.1 x.1.2.1.1 x.1.2.1.2.1 x.1.2.1.2.2.1 x.1.2.1.2.2.2.1 x.1.2.2.1 x.1.2.2.2.1 x.1.2.2.2.2.1 x.2.2.2.2.2.1 x.2.2.2.2.2.2.1 x.2.2.2.2.2.2.2.1) (fun _ => rfl) (resume_Encode.l7850.ev k) (fun _ => rfl) k) (locCons (loc_one hC mixed (dstOk_zero _) (fun (x : resume_Encode.j7854.A.V) => resume_Encode.j7854 k x.1.1.1 x.1.1.2.1 x.1.1.2.2.1 x.1.1.2.2.2.1 x.1.1.2.2.2.2.1 x.1.1.2.2.2.2.2.1 x.1.1.2.2.2.2.2.2.1 x.1.1.2.2.2.2.2.2.2.1 x.1.1.2.2.2.2.2.2.2.2.1 x.1.1.2.2.2.2.2.2.2.2.2.1 x.1.1.2.2.2.2.2.2.2.2.2.2.1 x.1.2.1.1 x.1.2.1.2.1 x.1.2.1.2.2.1 x.1.2.1.2.2.2.1 x.1.2.2.1 x.1.2.2.2.1 x.1.2.2.2.2.1 x.2.2.2.2.2.1) (resume_Encode.j7854.ev k) (fun _ => rfl)) locNil))) (resume_Encode.ev k) (fun _ => rfl) rfl

/-! ### codec_Equal: function 11 (examboard/codec.Equal) -/
abbrev codec_Equal.A : Sig := ⟨2, [], (.nilL), [0, 1], (.cons (.agg (.cons (.v (.int .i64)) (.cons (.v (.int .i64)) (.cons (.v (.int .i64)) (.cons (.v .str) (.cons (.v (.sl .node)) .nilL)))))) (.cons (.agg (.cons (.v (.int .i64)) (.cons (.v (.int .i64)) (.cons (.v (.int .i64)) (.cons (.v .str) (.cons (.v (.sl .node)) .nilL)))))) .nilL))⟩
abbrev codec_Equal.R : Sig := ⟨1, [], (.nilL), [0], (.cons (.v .bool) .nilL)⟩
abbrev codec_Equal.l58.A : Sig := ⟨60, [.slot 2, .slot 3], (.cons (.obox (.cons (.v (.int .i64)) (.cons (.v (.int .i64)) (.cons (.v (.int .i64)) (.cons (.v .str) (.cons (.v (.sl .node)) .nilL)))))) (.cons (.obox (.cons (.v (.int .i64)) (.cons (.v (.int .i64)) (.cons (.v (.int .i64)) (.cons (.v .str) (.cons (.v (.sl .node)) .nilL)))))) .nilL)), [2, 3, 43, 44], (.cons (.boxr 0 0) (.cons (.boxr 1 0) (.cons (.v (.int .i64)) (.cons (.v (.int .i64)) .nilL))))⟩
abbrev codec_Equal.l58.R0 : Sig := ⟨60, [], (.nilL), [], (.nilL)⟩
abbrev codec_Equal.l58.R1 : Sig := ⟨60, [], (.nilL), [4], (.cons (.v .bool) .nilL)⟩
def codec_Equal.l58 (self : Int → Int → Int → ByteArray → (List Nd) → Int → Int → Int → ByteArray → (List Nd) → Option (Bool)) (k : Nat) : Nat → Int → Int → Int → ByteArray → (List Nd) → Int → Int → Int → ByteArray → (List Nd) → Int → Int → Option ((Unit) ⊕ (Bool))
  | 0, _, _, _, _, _, _, _, _, _, _, _, _ => none
  | q + 1, x0, x1, x2, x3, x4, x5, x6, x7, x8, x9, x10, x11 =>
    cond (decide (x11 < x10))
    (cond (inB x11 x4.length)
      (cond (inB x11 x9.length)
        ((self ((rdL .node x4 x11).tag) ((rdL .node x4 x11).kind) ((rdL .node x4 x11).n) ((rdL .node x4 x11).s) ((rdL .node x4 x11).kids) ((rdL .node x9 x11).tag) ((rdL .node x9 x11).kind) ((rdL .node x9 x11).n) ((rdL .node x9 x11).s) ((rdL .node x9 x11).kids)).bind fun y6 =>
          cond (!y6)
          (some (.inr false))
          (codec_Equal.l58 self k q x0 x1 x2 x3 x4 x5 x6 x7 x8 x9 x10 (IntKind.wrap .i64 (x11 + 1))))
        (none))
      (none))
    (some (.inl ()))
abbrev codec_Equal.l58.pc (self : Int → Int → Int → ByteArray → (List Nd) → Int → Int → Int → ByteArray → (List Nd) → Option (Bool)) (k : Nat) : Pc := .two codec_Equal.l58.A (.exit 0) codec_Equal.l58.R0 (Unit) (fun y => ((), ())) .ret codec_Equal.l58.R1 (Bool) (fun y => ((), (y, ()))) (fun x => codec_Equal.l58 self k k x.1.1.1 x.1.1.2.1 x.1.1.2.2.1 x.1.1.2.2.2.1 x.1.1.2.2.2.2.1 x.1.2.1.1 x.1.2.1.2.1 x.1.2.1.2.2.1 x.1.2.1.2.2.2.1 x.1.2.1.2.2.2.2.1 x.2.2.2.1 x.2.2.2.2.1)
def codec_Equal.g (self : Int → Int → Int → ByteArray → (List Nd) → Int → Int → Int → ByteArray → (List Nd) → Option (Bool)) (k : Nat) (a0 : Int) (a1 : Int) (a2 : Int) (a3 : ByteArray) (a4 : List Nd) (a5 : Int) (a6 : Int) (a7 : Int) (a8 : ByteArray) (a9 : List Nd) : Option (Bool) :=
  Option.bind (cond (a0 != a5)
    (some true)
    (some (a1 != a6))) fun (c1 : Bool) =>
  Option.bind (cond c1
    (some true)
    (some (a2 != a7))) fun (c2 : Bool) =>
  Option.bind (cond c2
    (some true)
    (some (!(a3.toList == a8.toList)))) fun (c3 : Bool) =>
  Option.bind (cond c3
    (some true)
    (some ((a4.length : Int) != (a9.length : Int)))) fun (c4 : Bool) =>
  cond c4
  (some false)
  ((codec_Equal.l58 self k k a0 a1 a2 a3 a4 a5 a6 a7 a8 a9 (a4.length : Int) 0).bind fun y7 => Sum.casesOn y7 (fun u8 =>
    some true)
    (fun v9 =>
    some v9))
def codec_Equal.f : Nat → Int → Int → Int → ByteArray → (List Nd) → Int → Int → Int → ByteArray → (List Nd) → Option (Bool)
  | 0, _, _, _, _, _, _, _, _, _, _ => none
  | k + 1, a0, a1, a2, a3, a4, a5, a6, a7, a8, a9 => codec_Equal.g (codec_Equal.f k) k a0 a1 a2 a3 a4 a5 a6 a7 a8 a9
abbrev codec_Equal.ES (self : Int → Int → Int → ByteArray → (List Nd) → Int → Int → Int → ByteArray → (List Nd) → Option (Bool)) : Ent := ⟨codec_Equal.A, codec_Equal.R, Bool, fun x => self x.2.1.1 x.2.1.2.1 x.2.1.2.2.1 x.2.1.2.2.2.1 x.2.1.2.2.2.2.1 x.2.2.1.1 x.2.2.1.2.1 x.2.2.1.2.2.1 x.2.2.1.2.2.2.1 x.2.2.1.2.2.2.2.1, fun y => ((), (y, ()))⟩
abbrev codec_Equal.E (k : Nat) : Ent := ⟨codec_Equal.A, codec_Equal.R, Bool, fun x => codec_Equal.f k x.2.1.1 x.2.1.2.1 x.2.1.2.2.1 x.2.1.2.2.2.1 x.2.1.2.2.2.2.1 x.2.2.1.1 x.2.2.1.2.1 x.2.2.1.2.2.1 x.2.2.1.2.2.2.1 x.2.2.1.2.2.2.2.1, fun y => ((), (y, ()))⟩
noncomputable abbrev codec_Equal.C (self : Int → Int → Int → ByteArray → (List Nd) → Int → Int → Int → ByteArray → (List Nd) → Option (Bool)) (k : Nat) : Cfg := ⟨Try.prog, shs, look [(11, codec_Equal.ES self)], look [(58, codec_Equal.l58.pc self k)]⟩
theorem codec_Equal.l58.ev (self : Int → Int → Int → ByteArray → (List Nd) → Int → Int → Int → ByteArray → (List Nd) → Option (Bool)) (k q : Nat) (x : codec_Equal.l58.A.V) : ((codeAt 60 (bodyOf (Try.f11)) 58).bind fun c => (loopOf c).bind fun c1 => evL2 (codec_Equal.C self k) c1 58 codec_Equal.l58.A (.exit 0) codec_Equal.l58.R0 (Unit) (fun x => ()) .ret codec_Equal.l58.R1 (Bool) (fun x => x.2.1) (fun x => codec_Equal.l58 self k q x.1.1.1 x.1.1.2.1 x.1.1.2.2.1 x.1.1.2.2.2.1 x.1.1.2.2.2.2.1 x.1.2.1.1 x.1.2.1.2.1 x.1.2.1.2.2.1 x.1.2.1.2.2.2.1 x.1.2.1.2.2.2.2.1 x.2.2.2.1 x.2.2.2.2.1) x) = codec_Equal.l58 self k (q + 1) x.1.1.1 x.1.1.2.1 x.1.1.2.2.1 x.1.1.2.2.2.1 x.1.1.2.2.2.2.1 x.1.2.1.1 x.1.2.1.2.1 x.1.2.1.2.2.1 x.1.2.1.2.2.2.1 x.1.2.1.2.2.2.2.1 x.2.2.2.1 x.2.2.2.2.1 := by kernel_rfl
theorem codec_Equal.ev (self : Int → Int → Int → ByteArray → (List Nd) → Int → Int → Int → ByteArray → (List Nd) → Option (Bool)) (k : Nat) (x : codec_Equal.A.V) : evF (codec_Equal.C self k) Try.f11 codec_Equal.A codec_Equal.R (Bool) (fun x => x.2.1) x = codec_Equal.g self k x.2.1.1 x.2.1.2.1 x.2.1.2.2.1 x.2.1.2.2.2.1 x.2.1.2.2.2.2.1 x.2.2.1.1 x.2.2.1.2.1 x.2.2.1.2.2.1 x.2.2.1.2.2.2.1 x.2.2.1.2.2.2.2.1 := by kernel_rfl
theorem codec_Equal.at : Try.prog.funcs[11]? = some Try.f11 := by kernel_rfl
theorem codec_Equal.bo : Try.f11.body = some (bodyOf (Try.f11)) := by kernel_rfl
theorem codec_Equal.nm : (Try.f11.name == "runtime.NumGoroutine") = false := by kernel_rfl
theorem codec_Equal.satS (self : Int → Int → Int → ByteArray → (List Nd) → Int → Int → Int → ByteArray → (List Nd) → Option (Bool)) (k : Nat) (hS : Sat Try.prog 11 (codec_Equal.ES self)) : Sat Try.prog 11 ⟨codec_Equal.A, codec_Equal.R, Bool, fun x => codec_Equal.g self k x.2.1.1 x.2.1.2.1 x.2.1.2.2.1 x.2.1.2.2.2.1 x.2.1.2.2.2.2.1 x.2.2.1.1 x.2.2.1.2.1 x.2.2.1.2.2.1 x.2.2.1.2.2.2.1 x.2.2.1.2.2.2.2.1, fun y => ((), (y, ()))⟩ :=
  have hC : ∀ g N, (codec_Equal.C self k).orc g = some N → Sat Try.prog g N := satAll (satCons hS satNil)
  sat_of (C := codec_Equal.C self k) hC mixed codec_Equal.at codec_Equal.nm codec_Equal.bo (all_pieces rfl (locCons (loc_loop2 hC mixed (dstOk_zero _) (fun (q : Nat) (x : codec_Equal.l58.A.V) => codec_Equal.l58 self k q x.1.1.1 x.1.1.2.1 x.1.1.2.2.1 x.1.1.2.2.2.1 x.1.1.2.2.2.2.1 x.1.2.1.1 x.1.2.1.2.1 x.1.2.1.2.2.1 x.1.2.1.2.2.2.1 x.1.2.1.2.2.2.2.1 x.2.2.2.1 x.2.2.2.2.1) (fun _ => rfl) (codec_Equal.l58.ev self k) (fun _ => rfl) (fun _ => rfl) k) locNil)) (codec_Equal.ev self k) (fun _ => rfl) rfl
theorem codec_Equal.sat : ∀ k, Sat Try.prog 11 (codec_Equal.E k)
  | 0 => sat_none codec_Equal.at codec_Equal.nm codec_Equal.bo (fun _ => rfl)
  | k + 1 => codec_Equal.satS (codec_Equal.f k) k (codec_Equal.sat k)

/-! ### resume_Decode: function 6 (examboard/resume.Decode) -/
abbrev resume_Decode.A : Sig := ⟨1, [], (.nilL), [0], (.cons (.agg (.cons (.v (.int .i64)) (.cons (.v (.int .i64)) (.cons (.v (.int .i64)) (.cons (.v .str) (.cons (.v (.sl .node)) .nilL)))))) .nilL)⟩
abbrev resume_Decode.R : Sig := ⟨1, [], (.nilL), [0], (.cons (.tup (.cons (.agg (.cons (.v (.int .i64)) (.cons (.v (.int .i64)) (.cons (.v (.int .i64)) (.cons (.v (.sl (.int .i64))) (.cons (.v (.int .i64)) (.cons (.v .str) (.cons (.v .bool) (.cons (.v (.int .i64)) (.cons (.v (.int .i64)) (.cons (.v (.int .i64)) (.cons (.v (.int .i64)) .nilL)))))))))))) (.cons (.v (.int .i64)) .nilL))) .nilL)⟩
def resume_Decode.f (k : Nat) (a0 : Int) (a1 : Int) (a2 : Int) (a3 : ByteArray) (a4 : List Nd) : Option (Int × Int × Int × List Int × Int × ByteArray × Bool × Int × Int × Int × Int × Int) :=
  (resume_guess.f k a0 a1 a2 a3 a4).bind fun y1 =>
  (resume_Encode.f k y1.1 y1.2.1 y1.2.2.1 y1.2.2.2.1 y1.2.2.2.2.1 y1.2.2.2.2.2.1 y1.2.2.2.2.2.2.1 y1.2.2.2.2.2.2.2.1 y1.2.2.2.2.2.2.2.2.1 y1.2.2.2.2.2.2.2.2.2.1 y1.2.2.2.2.2.2.2.2.2.2).bind fun y2 =>
  Option.bind (cond (y2.2.2.2.2.2 != 0)
    (some true)
    ((codec_Equal.f k a0 a1 a2 a3 a4 y2.1 y2.2.1 y2.2.2.1 y2.2.2.2.1 y2.2.2.2.2.1).bind fun y3 =>
      some (!y3))) fun (c4 : Bool) =>
  cond c4
  (some (0, 0, 0, ([] : List Int), 0, (⟨#[]⟩ : ByteArray), false, 0, 0, 0, 0, 2))
  (some (y1.1, y1.2.1, y1.2.2.1, y1.2.2.2.1, y1.2.2.2.2.1, y1.2.2.2.2.2.1, y1.2.2.2.2.2.2.1, y1.2.2.2.2.2.2.2.1, y1.2.2.2.2.2.2.2.2.1, y1.2.2.2.2.2.2.2.2.2.1, y1.2.2.2.2.2.2.2.2.2.2, 0))
abbrev resume_Decode.E (k : Nat) : Ent := ⟨resume_Decode.A, resume_Decode.R, Int × Int × Int × List Int × Int × ByteArray × Bool × Int × Int × Int × Int × Int, fun x => resume_Decode.f k x.2.1.1 x.2.1.2.1 x.2.1.2.2.1 x.2.1.2.2.2.1 x.2.1.2.2.2.2.1, fun y => ((), (((y.1, y.2.1, y.2.2.1, y.2.2.2.1, y.2.2.2.2.1, y.2.2.2.2.2.1, y.2.2.2.2.2.2.1, y.2.2.2.2.2.2.2.1, y.2.2.2.2.2.2.2.2.1, y.2.2.2.2.2.2.2.2.2.1, y.2.2.2.2.2.2.2.2.2.2.1, ()), y.2.2.2.2.2.2.2.2.2.2.2, ()), ()))⟩
noncomputable abbrev resume_Decode.C (k : Nat) : Cfg := ⟨Try.prog, shs, look [(11, codec_Equal.E k), (9, resume_Encode.E k), (12, resume_guess.E k)], look []⟩
theorem resume_Decode.ev (k : Nat) (x : resume_Decode.A.V) : evF (resume_Decode.C k) Try.f6 resume_Decode.A resume_Decode.R (Int × Int × Int × List Int × Int × ByteArray × Bool × Int × Int × Int × Int × Int) (fun x => (x.2.1.1.1, x.2.1.1.2.1, x.2.1.1.2.2.1, x.2.1.1.2.2.2.1, x.2.1.1.2.2.2.2.1, x.2.1.1.2.2.2.2.2.1, x.2.1.1.2.2.2.2.2.2.1, x.2.1.1.2.2.2.2.2.2.2.1, x.2.1.1.2.2.2.2.2.2.2.2.1, x.2.1.1.2.2.2.2.2.2.2.2.2.1, x.2.1.1.2.2.2.2.2.2.2.2.2.2.1, x.2.1.2.1)) x = resume_Decode.f k x.2.1.1 x.2.1.2.1 x.2.1.2.2.1 x.2.1.2.2.2.1 x.2.1.2.2.2.2.1 := by kernel_rfl
theorem resume_Decode.at : Try.prog.funcs[6]? = some Try.f6 := by kernel_rfl
theorem resume_Decode.bo : Try.f6.body = some (bodyOf (Try.f6)) := by kernel_rfl
theorem resume_Decode.nm : (Try.f6.name == "runtime.NumGoroutine") = false := by kernel_rfl
theorem resume_Decode.sat (k : Nat) : Sat Try.prog 6 (resume_Decode.E k) :=
  have hC : ∀ g N, (resume_Decode.C k).orc g = some N → Sat Try.prog g N := satAll (satCons (codec_Equal.sat k) (satCons (resume_Encode.sat k) (satCons (resume_guess.sat k) satNil)))
  sat_of (C := resume_Decode.C k) hC mixed resume_Decode.at resume_Decode.nm resume_Decode.bo (all_pieces rfl locNil) (resume_Decode.ev k) (fun _ => rfl) rfl

/-! ### ref52_integer: function 13 (examboard/examboardref52.integer) -/
abbrev ref52_integer.A : Sig := ⟨1, [], (.nilL), [0], (.cons (.agg (.cons (.v (.int .i64)) (.cons (.v (.int .i64)) (.cons (.v (.int .i64)) (.cons (.v .str) (.cons (.v (.sl .node)) .nilL)))))) .nilL)⟩
abbrev ref52_integer.R : Sig := ⟨1, [], (.nilL), [0], (.cons (.v (.int .i64)) .nilL)⟩
def ref52_integer.f (k : Nat) (a0 : Int) (a1 : Int) (a2 : Int) (a3 : ByteArray) (a4 : List Nd) : Option (Int) :=
  some a2
abbrev ref52_integer.E (k : Nat) : Ent := ⟨ref52_integer.A, ref52_integer.R, Int, fun x => ref52_integer.f k x.2.1.1 x.2.1.2.1 x.2.1.2.2.1 x.2.1.2.2.2.1 x.2.1.2.2.2.2.1, fun y => ((), (y, ()))⟩
noncomputable abbrev ref52_integer.C (k : Nat) : Cfg := ⟨Try.prog, shs, look [], look []⟩
theorem ref52_integer.ev (k : Nat) (x : ref52_integer.A.V) : evF (ref52_integer.C k) Try.f13 ref52_integer.A ref52_integer.R (Int) (fun x => x.2.1) x = ref52_integer.f k x.2.1.1 x.2.1.2.1 x.2.1.2.2.1 x.2.1.2.2.2.1 x.2.1.2.2.2.2.1 := by kernel_rfl
theorem ref52_integer.at : Try.prog.funcs[13]? = some Try.f13 := by kernel_rfl
theorem ref52_integer.bo : Try.f13.body = some (bodyOf (Try.f13)) := by kernel_rfl
theorem ref52_integer.nm : (Try.f13.name == "runtime.NumGoroutine") = false := by kernel_rfl
theorem ref52_integer.sat (k : Nat) : Sat Try.prog 13 (ref52_integer.E k) :=
  have hC : ∀ g N, (ref52_integer.C k).orc g = some N → Sat Try.prog g N := satAll satNil
  sat_of (C := ref52_integer.C k) hC mixed ref52_integer.at ref52_integer.nm ref52_integer.bo (all_pieces rfl locNil) (ref52_integer.ev k) (fun _ => rfl) rfl

/-! ### ref52_blank: function 32 (examboard/examboardref52.blank) -/
abbrev ref52_blank.A : Sig := ⟨1, [], (.nilL), [0], (.cons (.agg (.cons (.v (.int .i64)) (.cons (.v (.sl (.int .i64))) (.cons (.v (.int .i64)) (.cons (.v .str) (.cons (.v .bool) .nilL)))))) .nilL)⟩
abbrev ref52_blank.R : Sig := ⟨1, [], (.nilL), [0], (.cons (.v .bool) .nilL)⟩
def ref52_blank.f (k : Nat) (a0 : Int) (a1 : List Int) (a2 : Int) (a3 : ByteArray) (a4 : Bool) : Option (Bool) :=
  Option.bind (cond (a0 == 0)
    (some ((a1.length : Int) == 0))
    (some false)) fun (c1 : Bool) =>
  Option.bind (cond c1
    (some (a2 == 0))
    (some false)) fun (c2 : Bool) =>
  Option.bind (cond c2
    (some (a3.toList == (⟨#[]⟩ : ByteArray).toList))
    (some false)) fun (c3 : Bool) =>
  Option.bind (cond c3
    (some (!a4))
    (some false)) fun (c4 : Bool) =>
  some c4
abbrev ref52_blank.E (k : Nat) : Ent := ⟨ref52_blank.A, ref52_blank.R, Bool, fun x => ref52_blank.f k x.2.1.1 x.2.1.2.1 x.2.1.2.2.1 x.2.1.2.2.2.1 x.2.1.2.2.2.2.1, fun y => ((), (y, ()))⟩
noncomputable abbrev ref52_blank.C (k : Nat) : Cfg := ⟨Try.prog, shs, look [], look []⟩
theorem ref52_blank.ev (k : Nat) (x : ref52_blank.A.V) : evF (ref52_blank.C k) Try.f32 ref52_blank.A ref52_blank.R (Bool) (fun x => x.2.1) x = ref52_blank.f k x.2.1.1 x.2.1.2.1 x.2.1.2.2.1 x.2.1.2.2.2.1 x.2.1.2.2.2.2.1 := by kernel_rfl
theorem ref52_blank.at : Try.prog.funcs[32]? = some Try.f32 := by kernel_rfl
theorem ref52_blank.bo : Try.f32.body = some (bodyOf (Try.f32)) := by kernel_rfl
theorem ref52_blank.nm : (Try.f32.name == "runtime.NumGoroutine") = false := by kernel_rfl
theorem ref52_blank.sat (k : Nat) : Sat Try.prog 32 (ref52_blank.E k) :=
  have hC : ∀ g N, (ref52_blank.C k).orc g = some N → Sat Try.prog g N := satAll satNil
  sat_of (C := ref52_blank.C k) hC mixed ref52_blank.at ref52_blank.nm ref52_blank.bo (all_pieces rfl locNil) (ref52_blank.ev k) (fun _ => rfl) rfl

/-! ### ref52_check: function 23 (examboard/examboardref52.check) -/
abbrev ref52_check.A : Sig := ⟨1, [], (.nilL), [0], (.cons (.agg (.cons (.v (.int .i64)) (.cons (.v (.int .i64)) (.cons (.v (.int .i64)) (.cons (.v (.sl (.int .i64))) (.cons (.v (.int .i64)) (.cons (.v .str) (.cons (.v .bool) (.cons (.v (.int .i64)) (.cons (.v (.int .i64)) (.cons (.v (.int .i64)) (.cons (.v (.int .i64)) .nilL)))))))))))) .nilL)⟩
abbrev ref52_check.R : Sig := ⟨1, [], (.nilL), [0], (.cons (.v (.int .i64)) .nilL)⟩
def ref52_check.f (k : Nat) (a0 : Int) (a1 : Int) (a2 : Int) (a3 : List Int) (a4 : Int) (a5 : ByteArray) (a6 : Bool) (a7 : Int) (a8 : Int) (a9 : Int) (a10 : Int) : Option (Int) :=
  Option.bind (cond (decide (a0 < 1))
    (some true)
    (some (decide (a0 > 6)))) fun (c1 : Bool) =>
  cond c1
  (some 1)
  (Option.bind (cond (a0 != 2)
      ((ref52_blank.f k a2 a3 a4 a5 a6).bind fun y2 =>
        some (!y2))
      (some false)) fun (c3 : Bool) =>
    cond c3
    (some 1)
    (Option.bind (cond (a0 != 5)
        (some (!((a7 == 0) && ((a8 == 0) && ((a9 == 0) && ((a10 == 0) && true))))))
        (some false)) fun (c4 : Bool) =>
      cond c4
      (some 1)
      (Option.bind (cond (a0 == 5)
          (some (a8 != a1))
          (some false)) fun (c5 : Bool) =>
        cond c5
        (some 1)
        (Option.bind (cond (decide (a1 < 0))
            (some true)
            (some (decide (a1 > 1099511627776)))) fun (c6 : Bool) =>
          cond c6
          (some 3)
          (Option.bind (cond (decide ((a3.length : Int) > 10))
              (some true)
              (some (decide ((a5.size : Int) > 1000)))) fun (c7 : Bool) =>
            cond c7
            (some 5)
            (some 0))))))
abbrev ref52_check.E (k : Nat) : Ent := ⟨ref52_check.A, ref52_check.R, Int, fun x => ref52_check.f k x.2.1.1 x.2.1.2.1 x.2.1.2.2.1 x.2.1.2.2.2.1 x.2.1.2.2.2.2.1 x.2.1.2.2.2.2.2.1 x.2.1.2.2.2.2.2.2.1 x.2.1.2.2.2.2.2.2.2.1 x.2.1.2.2.2.2.2.2.2.2.1 x.2.1.2.2.2.2.2.2.2.2.2.1 x.2.1.2.2.2.2.2.2.2.2.2.2.1, fun y => ((), (y, ()))⟩
noncomputable abbrev ref52_check.C (k : Nat) : Cfg := ⟨Try.prog, shs, look [(32, ref52_blank.E k)], look []⟩
theorem ref52_check.ev (k : Nat) (x : ref52_check.A.V) : evF (ref52_check.C k) Try.f23 ref52_check.A ref52_check.R (Int) (fun x => x.2.1) x = ref52_check.f k x.2.1.1 x.2.1.2.1 x.2.1.2.2.1 x.2.1.2.2.2.1 x.2.1.2.2.2.2.1 x.2.1.2.2.2.2.2.1 x.2.1.2.2.2.2.2.2.1 x.2.1.2.2.2.2.2.2.2.1 x.2.1.2.2.2.2.2.2.2.2.1 x.2.1.2.2.2.2.2.2.2.2.2.1 x.2.1.2.2.2.2.2.2.2.2.2.2.1 := by kernel_rfl
theorem ref52_check.at : Try.prog.funcs[23]? = some Try.f23 := by kernel_rfl
theorem ref52_check.bo : Try.f23.body = some (bodyOf (Try.f23)) := by kernel_rfl
theorem ref52_check.nm : (Try.f23.name == "runtime.NumGoroutine") = false := by kernel_rfl
theorem ref52_check.sat (k : Nat) : Sat Try.prog 23 (ref52_check.E k) :=
  have hC : ∀ g N, (ref52_check.C k).orc g = some N → Sat Try.prog g N := satAll (satCons (ref52_blank.sat k) satNil)
  sat_of (C := ref52_check.C k) hC mixed ref52_check.at ref52_check.nm ref52_check.bo (all_pieces rfl locNil) (ref52_check.ev k) (fun _ => rfl) rfl

/-! ### ref10_Int: function 33 (examboard/examboardref10.Int) -/
abbrev ref10_Int.A : Sig := ⟨2, [], (.nilL), [0, 1], (.cons (.v (.int .i64)) (.cons (.v (.int .i64)) .nilL))⟩
abbrev ref10_Int.R : Sig := ⟨1, [], (.nilL), [0], (.cons (.agg (.cons (.v (.int .i64)) (.cons (.v (.int .i64)) (.cons (.v (.int .i64)) (.cons (.v .str) (.cons (.v (.sl .node)) .nilL)))))) .nilL)⟩
def ref10_Int.f (k : Nat) (a0 : Int) (a1 : Int) : Option (Int × Int × Int × ByteArray × List Nd) :=
  some (a0, 1, a1, (⟨#[]⟩ : ByteArray), ([] : List Nd))
abbrev ref10_Int.E (k : Nat) : Ent := ⟨ref10_Int.A, ref10_Int.R, Int × Int × Int × ByteArray × List Nd, fun x => ref10_Int.f k x.2.1 x.2.2.1, fun y => ((), ((y.1, y.2.1, y.2.2.1, y.2.2.2.1, y.2.2.2.2, ()), ()))⟩
noncomputable abbrev ref10_Int.C (k : Nat) : Cfg := ⟨Try.prog, shs, look [], look []⟩
theorem ref10_Int.ev (k : Nat) (x : ref10_Int.A.V) : evF (ref10_Int.C k) Try.f33 ref10_Int.A ref10_Int.R (Int × Int × Int × ByteArray × List Nd) (fun x => (x.2.1.1, x.2.1.2.1, x.2.1.2.2.1, x.2.1.2.2.2.1, x.2.1.2.2.2.2.1)) x = ref10_Int.f k x.2.1 x.2.2.1 := by kernel_rfl
theorem ref10_Int.at : Try.prog.funcs[33]? = some Try.f33 := by kernel_rfl
theorem ref10_Int.bo : Try.f33.body = some (bodyOf (Try.f33)) := by kernel_rfl
theorem ref10_Int.nm : (Try.f33.name == "runtime.NumGoroutine") = false := by kernel_rfl
theorem ref10_Int.sat (k : Nat) : Sat Try.prog 33 (ref10_Int.E k) :=
  have hC : ∀ g N, (ref10_Int.C k).orc g = some N → Sat Try.prog g N := satAll satNil
  sat_of (C := ref10_Int.C k) hC mixed ref10_Int.at ref10_Int.nm ref10_Int.bo (all_pieces rfl locNil) (ref10_Int.ev k) (fun _ => rfl) rfl

/-! ### ref52_number: function 24 (examboard/examboardref52.number) -/
abbrev ref52_number.A : Sig := ⟨2, [], (.nilL), [0, 1], (.cons (.v (.int .i64)) (.cons (.v (.int .i64)) .nilL))⟩
abbrev ref52_number.R : Sig := ⟨1, [], (.nilL), [0], (.cons (.agg (.cons (.v (.int .i64)) (.cons (.v (.int .i64)) (.cons (.v (.int .i64)) (.cons (.v .str) (.cons (.v (.sl .node)) .nilL)))))) .nilL)⟩
def ref52_number.f (k : Nat) (a0 : Int) (a1 : Int) : Option (Int × Int × Int × ByteArray × List Nd) :=
  (ref10_Int.f k a0 a1).bind fun y1 =>
  some (y1.1, y1.2.1, y1.2.2.1, y1.2.2.2.1, y1.2.2.2.2)
abbrev ref52_number.E (k : Nat) : Ent := ⟨ref52_number.A, ref52_number.R, Int × Int × Int × ByteArray × List Nd, fun x => ref52_number.f k x.2.1 x.2.2.1, fun y => ((), ((y.1, y.2.1, y.2.2.1, y.2.2.2.1, y.2.2.2.2, ()), ()))⟩
noncomputable abbrev ref52_number.C (k : Nat) : Cfg := ⟨Try.prog, shs, look [(33, ref10_Int.E k)], look []⟩
theorem ref52_number.ev (k : Nat) (x : ref52_number.A.V) : evF (ref52_number.C k) Try.f24 ref52_number.A ref52_number.R (Int × Int × Int × ByteArray × List Nd) (fun x => (x.2.1.1, x.2.1.2.1, x.2.1.2.2.1, x.2.1.2.2.2.1, x.2.1.2.2.2.2.1)) x = ref52_number.f k x.2.1 x.2.2.1 := by kernel_rfl
theorem ref52_number.at : Try.prog.funcs[24]? = some Try.f24 := by kernel_rfl
theorem ref52_number.bo : Try.f24.body = some (bodyOf (Try.f24)) := by kernel_rfl
theorem ref52_number.nm : (Try.f24.name == "runtime.NumGoroutine") = false := by kernel_rfl
theorem ref52_number.sat (k : Nat) : Sat Try.prog 24 (ref52_number.E k) :=
  have hC : ∀ g N, (ref52_number.C k).orc g = some N → Sat Try.prog g N := satAll (satCons (ref10_Int.sat k) satNil)
  sat_of (C := ref52_number.C k) hC mixed ref52_number.at ref52_number.nm ref52_number.bo (all_pieces rfl locNil) (ref52_number.ev k) (fun _ => rfl) rfl

/-! ### ref10_Copy: function 34 (examboard/examboardref10.Copy) -/
abbrev ref10_Copy.A : Sig := ⟨1, [], (.nilL), [0], (.cons (.agg (.cons (.v (.int .i64)) (.cons (.v (.int .i64)) (.cons (.v (.int .i64)) (.cons (.v .str) (.cons (.v (.sl .node)) .nilL)))))) .nilL)⟩
abbrev ref10_Copy.R : Sig := ⟨1, [], (.nilL), [0], (.cons (.agg (.cons (.v (.int .i64)) (.cons (.v (.int .i64)) (.cons (.v (.int .i64)) (.cons (.v .str) (.cons (.v (.sl .node)) .nilL)))))) .nilL)⟩
abbrev ref10_Copy.l58.A : Sig := ⟨33, [.slot 1, .slot 2, .cell 1 4, .slot 3, .cell 3 4], (.cons (.obox (.cons (.v (.int .i64)) (.cons (.v (.int .i64)) (.cons (.v (.int .i64)) (.cons (.v .str) (.cons (.v (.sl .node)) .nilL)))))) (.cons (.obox (.cons (.v (.int .i64)) (.cons (.v (.int .i64)) (.cons (.v (.int .i64)) (.cons (.v .str) (.cons (.rowr 2) .nilL)))))) (.cons (.orow 24 .node) (.cons (.obox (.cons (.v (.int .i64)) (.cons (.v (.int .i64)) (.cons (.v (.int .i64)) (.cons (.v .str) (.cons (.rowr 4) .nilL)))))) (.cons (.orow 24 .node) .nilL))))), [1, 2, 3, 4], (.cons (.boxr 0 0) (.cons (.boxr 1 0) (.cons (.boxr 3 0) (.cons (.v (.int .i64)) .nilL))))⟩
abbrev ref10_Copy.l58.R0 : Sig := ⟨33, [.slot 2, .cell 0 4, .slot 3, .cell 2 4], (.cons (.obox (.cons (.v (.int .i64)) (.cons (.v (.int .i64)) (.cons (.v (.int .i64)) (.cons (.v .str) (.cons (.rowr 1) .nilL)))))) (.cons (.orow 24 .node) (.cons (.obox (.cons (.v (.int .i64)) (.cons (.v (.int .i64)) (.cons (.v (.int .i64)) (.cons (.v .str) (.cons (.rowr 3) .nilL)))))) (.cons (.orow 24 .node) .nilL)))), [2, 3], (.cons (.boxr 0 0) (.cons (.boxr 2 0) .nilL))⟩
def ref10_Copy.l58 (self : Int → Int → Int → ByteArray → (List Nd) → Option (Int × Int × Int × ByteArray × List Nd)) (k : Nat) : Nat → Int → Int → Int → ByteArray → (List Nd) → Int → Int → Int → ByteArray → (List Nd) → Int → Int → Int → ByteArray → (List Nd) → Int → Option (Int × Int × Int × ByteArray × List Nd × Int × Int × Int × ByteArray × List Nd)
  | 0, _, _, _, _, _, _, _, _, _, _, _, _, _, _, _, _ => none
  | q + 1, x0, x1, x2, x3, x4, x5, x6, x7, x8, x9, x10, x11, x12, x13, x14, x15 =>
    cond (decide (x15 < (x4.length : Int)))
    (cond (inB x15 x4.length)
      ((self ((rdL .node x4 x15).tag) ((rdL .node x4 x15).kind) ((rdL .node x4 x15).n) ((rdL .node x4 x15).s) ((rdL .node x4 x15).kids)).bind fun y2 =>
        cond (fits (x14.length + 1) 64)
        (ref10_Copy.l58 self k q x0 x1 x2 x3 x4 x5 x6 x7 x8 x9 x10 x11 x12 x13 (x14 ++ [(⟨y2.1, y2.2.1, y2.2.2.1, y2.2.2.2.1, y2.2.2.2.2⟩ : Nd)]) (IntKind.wrap .i64 (x15 + 1)))
        (none))
      (none))
    (some (x5, x6, x7, x8, x9, x10, x11, x12, x13, x14))
abbrev ref10_Copy.l58.pc (self : Int → Int → Int → ByteArray → (List Nd) → Option (Int × Int × Int × ByteArray × List Nd)) (k : Nat) : Pc := .one ref10_Copy.l58.A (.exit 0) ref10_Copy.l58.R0 (Int × Int × Int × ByteArray × List Nd × Int × Int × Int × ByteArray × List Nd) (fun x => ref10_Copy.l58 self k k x.1.1.1 x.1.1.2.1 x.1.1.2.2.1 x.1.1.2.2.2.1 x.1.1.2.2.2.2.1 x.1.2.1.1 x.1.2.1.2.1 x.1.2.1.2.2.1 x.1.2.1.2.2.2.1 x.1.2.2.1 x.1.2.2.2.1.1 x.1.2.2.2.1.2.1 x.1.2.2.2.1.2.2.1 x.1.2.2.2.1.2.2.2.1 x.1.2.2.2.2.1 x.2.2.2.2.1) (fun y => (((y.1, y.2.1, y.2.2.1, y.2.2.2.1, (), ()), y.2.2.2.2.1, (y.2.2.2.2.2.1, y.2.2.2.2.2.2.1, y.2.2.2.2.2.2.2.1, y.2.2.2.2.2.2.2.2.1, (), ()), y.2.2.2.2.2.2.2.2.2, ()), ((), (), ())))
def ref10_Copy.g (self : Int → Int → Int → ByteArray → (List Nd) → Option (Int × Int × Int × ByteArray × List Nd)) (k : Nat) (a0 : Int) (a1 : Int) (a2 : Int) (a3 : ByteArray) (a4 : List Nd) : Option (Int × Int × Int × ByteArray × List Nd) :=
  (ref10_Copy.l58 self k k a0 a1 a2 a3 a4 0 0 0 (⟨#[]⟩ : ByteArray) ([] : List Nd) a0 a1 a2 a3 ([] : List Nd) 0).bind fun y3 =>
  some (y3.2.2.2.2.2.1, y3.2.2.2.2.2.2.1, y3.2.2.2.2.2.2.2.1, y3.2.2.2.2.2.2.2.2.1, y3.2.2.2.2.2.2.2.2.2)
def ref10_Copy.f : Nat → Int → Int → Int → ByteArray → (List Nd) → Option (Int × Int × Int × ByteArray × List Nd)
  | 0, _, _, _, _, _ => none
  | k + 1, a0, a1, a2, a3, a4 => ref10_Copy.g (ref10_Copy.f k) k a0 a1 a2 a3 a4
abbrev ref10_Copy.ES (self : Int → Int → Int → ByteArray → (List Nd) → Option (Int × Int × Int × ByteArray × List Nd)) : Ent := ⟨ref10_Copy.A, ref10_Copy.R, Int × Int × Int × ByteArray × List Nd, fun x => self x.2.1.1 x.2.1.2.1 x.2.1.2.2.1 x.2.1.2.2.2.1 x.2.1.2.2.2.2.1, fun y => ((), ((y.1, y.2.1, y.2.2.1, y.2.2.2.1, y.2.2.2.2, ()), ()))⟩
abbrev ref10_Copy.E (k : Nat) : Ent := ⟨ref10_Copy.A, ref10_Copy.R, Int × Int × Int × ByteArray × List Nd, fun x => ref10_Copy.f k x.2.1.1 x.2.1.2.1 x.2.1.2.2.1 x.2.1.2.2.2.1 x.2.1.2.2.2.2.1, fun y => ((), ((y.1, y.2.1, y.2.2.1, y.2.2.2.1, y.2.2.2.2, ()), ()))⟩
noncomputable abbrev ref10_Copy.C (self : Int → Int → Int → ByteArray → (List Nd) → Option (Int × Int × Int × ByteArray × List Nd)) (k : Nat) : Cfg := ⟨Try.prog, shs, look [(34, ref10_Copy.ES self)], look [(58, ref10_Copy.l58.pc self k)]⟩
theorem ref10_Copy.l58.ev (self : Int → Int → Int → ByteArray → (List Nd) → Option (Int × Int × Int × ByteArray × List Nd)) (k q : Nat) (x : ref10_Copy.l58.A.V) : ((codeAt 60 (bodyOf (Try.f34)) 58).bind fun c => (loopOf c).bind fun c1 => evL1 (ref10_Copy.C self k) c1 58 ref10_Copy.l58.A (.exit 0) ref10_Copy.l58.R0 (Int × Int × Int × ByteArray × List Nd × Int × Int × Int × ByteArray × List Nd) (fun x => (x.1.1.1, x.1.1.2.1, x.1.1.2.2.1, x.1.1.2.2.2.1, x.1.2.1, x.1.2.2.1.1, x.1.2.2.1.2.1, x.1.2.2.1.2.2.1, x.1.2.2.1.2.2.2.1, x.1.2.2.2.1)) (fun x => ref10_Copy.l58 self k q x.1.1.1 x.1.1.2.1 x.1.1.2.2.1 x.1.1.2.2.2.1 x.1.1.2.2.2.2.1 x.1.2.1.1 x.1.2.1.2.1 x.1.2.1.2.2.1 x.1.2.1.2.2.2.1 x.1.2.2.1 x.1.2.2.2.1.1 x.1.2.2.2.1.2.1 x.1.2.2.2.1.2.2.1 x.1.2.2.2.1.2.2.2.1 x.1.2.2.2.2.1 x.2.2.2.2.1) x) = ref10_Copy.l58 self k (q + 1) x.1.1.1 x.1.1.2.1 x.1.1.2.2.1 x.1.1.2.2.2.1 x.1.1.2.2.2.2.1 x.1.2.1.1 x.1.2.1.2.1 x.1.2.1.2.2.1 x.1.2.1.2.2.2.1 x.1.2.2.1 x.1.2.2.2.1.1 x.1.2.2.2.1.2.1 x.1.2.2.2.1.2.2.1 x.1.2.2.2.1.2.2.2.1 x.1.2.2.2.2.1 x.2.2.2.2.1 := by kernel_rfl
theorem ref10_Copy.ev (self : Int → Int → Int → ByteArray → (List Nd) → Option (Int × Int × Int × ByteArray × List Nd)) (k : Nat) (x : ref10_Copy.A.V) : evF (ref10_Copy.C self k) Try.f34 ref10_Copy.A ref10_Copy.R (Int × Int × Int × ByteArray × List Nd) (fun x => (x.2.1.1, x.2.1.2.1, x.2.1.2.2.1, x.2.1.2.2.2.1, x.2.1.2.2.2.2.1)) x = ref10_Copy.g self k x.2.1.1 x.2.1.2.1 x.2.1.2.2.1 x.2.1.2.2.2.1 x.2.1.2.2.2.2.1 := by kernel_rfl
theorem ref10_Copy.at : Try.prog.funcs[34]? = some Try.f34 := by kernel_rfl
theorem ref10_Copy.bo : Try.f34.body = some (bodyOf (Try.f34)) := by kernel_rfl
theorem ref10_Copy.nm : (Try.f34.name == "runtime.NumGoroutine") = false := by kernel_rfl
theorem ref10_Copy.satS (self : Int → Int → Int → ByteArray → (List Nd) → Option (Int × Int × Int × ByteArray × List Nd)) (k : Nat) (hS : Sat Try.prog 34 (ref10_Copy.ES self)) : Sat Try.prog 34 ⟨ref10_Copy.A, ref10_Copy.R, Int × Int × Int × ByteArray × List Nd, fun x => ref10_Copy.g self k x.2.1.1 x.2.1.2.1 x.2.1.2.2.1 x.2.1.2.2.2.1 x.2.1.2.2.2.2.1, fun y => ((), ((y.1, y.2.1, y.2.2.1, y.2.2.2.1, y.2.2.2.2, ()), ()))⟩ :=
  have hC : ∀ g N, (ref10_Copy.C self k).orc g = some N → Sat Try.prog g N := satAll (satCons hS satNil)
  sat_of (C := ref10_Copy.C self k) hC mixed ref10_Copy.at ref10_Copy.nm ref10_Copy.bo (all_pieces rfl (locCons (loc_loop1 hC mixed (dstOk_zero _) (fun (q : Nat) (x : ref10_Copy.l58.A.V) => ref10_Copy.l58 self k q x.1.1.1 x.1.1.2.1 x.1.1.2.2.1 x.1.1.2.2.2.1 x.1.1.2.2.2.2.1 x.1.2.1.1 x.1.2.1.2.1 x.1.2.1.2.2.1 x.1.2.1.2.2.2.1 x.1.2.2.1 x.1.2.2.2.1.1 x.1.2.2.2.1.2.1 x.1.2.2.2.1.2.2.1 x.1.2.2.2.1.2.2.2.1 x.1.2.2.2.2.1 x.2.2.2.2.1) (fun _ => rfl) (ref10_Copy.l58.ev self k) (fun _ => rfl) k) locNil)) (ref10_Copy.ev self k) (fun _ => rfl) rfl
theorem ref10_Copy.sat : ∀ k, Sat Try.prog 34 (ref10_Copy.E k)
  | 0 => sat_none ref10_Copy.at ref10_Copy.nm ref10_Copy.bo (fun _ => rfl)
  | k + 1 => ref10_Copy.satS (ref10_Copy.f k) k (ref10_Copy.sat k)

/-! ### ref10_List: function 25 (examboard/examboardref10.List) -/
abbrev ref10_List.A : Sig := ⟨2, [], (.nilL), [0, 1], (.cons (.v (.int .i64)) (.cons (.v (.sl .node)) .nilL))⟩
abbrev ref10_List.R : Sig := ⟨1, [], (.nilL), [0], (.cons (.agg (.cons (.v (.int .i64)) (.cons (.v (.int .i64)) (.cons (.v (.int .i64)) (.cons (.v .str) (.cons (.v (.sl .node)) .nilL)))))) .nilL)⟩
def ref10_List.f (k : Nat) (a0 : Int) (a1 : List Nd) : Option (Int × Int × Int × ByteArray × List Nd) :=
  (ref10_Copy.f k a0 3 0 (⟨#[]⟩ : ByteArray) a1).bind fun y1 =>
  some (y1.1, y1.2.1, y1.2.2.1, y1.2.2.2.1, y1.2.2.2.2)
abbrev ref10_List.E (k : Nat) : Ent := ⟨ref10_List.A, ref10_List.R, Int × Int × Int × ByteArray × List Nd, fun x => ref10_List.f k x.2.1 x.2.2.1, fun y => ((), ((y.1, y.2.1, y.2.2.1, y.2.2.2.1, y.2.2.2.2, ()), ()))⟩
noncomputable abbrev ref10_List.C (k : Nat) : Cfg := ⟨Try.prog, shs, look [(34, ref10_Copy.E k)], look []⟩
theorem ref10_List.ev (k : Nat) (x : ref10_List.A.V) : evF (ref10_List.C k) Try.f25 ref10_List.A ref10_List.R (Int × Int × Int × ByteArray × List Nd) (fun x => (x.2.1.1, x.2.1.2.1, x.2.1.2.2.1, x.2.1.2.2.2.1, x.2.1.2.2.2.2.1)) x = ref10_List.f k x.2.1 x.2.2.1 := by kernel_rfl
theorem ref10_List.at : Try.prog.funcs[25]? = some Try.f25 := by kernel_rfl
theorem ref10_List.bo : Try.f25.body = some (bodyOf (Try.f25)) := by kernel_rfl
theorem ref10_List.nm : (Try.f25.name == "runtime.NumGoroutine") = false := by kernel_rfl
theorem ref10_List.sat (k : Nat) : Sat Try.prog 25 (ref10_List.E k) :=
  have hC : ∀ g N, (ref10_List.C k).orc g = some N → Sat Try.prog g N := satAll (satCons (ref10_Copy.sat k) satNil)
  sat_of (C := ref10_List.C k) hC mixed ref10_List.at ref10_List.nm ref10_List.bo (all_pieces rfl locNil) (ref10_List.ev k) (fun _ => rfl) rfl

/-! ### ref10_String: function 26 (examboard/examboardref10.String) -/
abbrev ref10_String.A : Sig := ⟨2, [], (.nilL), [0, 1], (.cons (.v (.int .i64)) (.cons (.v .str) .nilL))⟩
abbrev ref10_String.R : Sig := ⟨1, [], (.nilL), [0], (.cons (.agg (.cons (.v (.int .i64)) (.cons (.v (.int .i64)) (.cons (.v (.int .i64)) (.cons (.v .str) (.cons (.v (.sl .node)) .nilL)))))) .nilL)⟩
def ref10_String.f (k : Nat) (a0 : Int) (a1 : ByteArray) : Option (Int × Int × Int × ByteArray × List Nd) :=
  some (a0, 2, 0, a1, ([] : List Nd))
abbrev ref10_String.E (k : Nat) : Ent := ⟨ref10_String.A, ref10_String.R, Int × Int × Int × ByteArray × List Nd, fun x => ref10_String.f k x.2.1 x.2.2.1, fun y => ((), ((y.1, y.2.1, y.2.2.1, y.2.2.2.1, y.2.2.2.2, ()), ()))⟩
noncomputable abbrev ref10_String.C (k : Nat) : Cfg := ⟨Try.prog, shs, look [], look []⟩
theorem ref10_String.ev (k : Nat) (x : ref10_String.A.V) : evF (ref10_String.C k) Try.f26 ref10_String.A ref10_String.R (Int × Int × Int × ByteArray × List Nd) (fun x => (x.2.1.1, x.2.1.2.1, x.2.1.2.2.1, x.2.1.2.2.2.1, x.2.1.2.2.2.2.1)) x = ref10_String.f k x.2.1 x.2.2.1 := by kernel_rfl
theorem ref10_String.at : Try.prog.funcs[26]? = some Try.f26 := by kernel_rfl
theorem ref10_String.bo : Try.f26.body = some (bodyOf (Try.f26)) := by kernel_rfl
theorem ref10_String.nm : (Try.f26.name == "runtime.NumGoroutine") = false := by kernel_rfl
theorem ref10_String.sat (k : Nat) : Sat Try.prog 26 (ref10_String.E k) :=
  have hC : ∀ g N, (ref10_String.C k).orc g = some N → Sat Try.prog g N := satAll satNil
  sat_of (C := ref10_String.C k) hC mixed ref10_String.at ref10_String.nm ref10_String.bo (all_pieces rfl locNil) (ref10_String.ev k) (fun _ => rfl) rfl

/-! ### ref52_Encode: function 14 (examboard/examboardref52.Encode) -/
abbrev ref52_Encode.A : Sig := ⟨1, [], (.nilL), [0], (.cons (.agg (.cons (.v (.int .i64)) (.cons (.v (.int .i64)) (.cons (.v (.int .i64)) (.cons (.v (.sl (.int .i64))) (.cons (.v (.int .i64)) (.cons (.v .str) (.cons (.v .bool) (.cons (.v (.int .i64)) (.cons (.v (.int .i64)) (.cons (.v (.int .i64)) (.cons (.v (.int .i64)) .nilL)))))))))))) .nilL)⟩
abbrev ref52_Encode.R : Sig := ⟨1, [], (.nilL), [0], (.cons (.tup (.cons (.agg (.cons (.v (.int .i64)) (.cons (.v (.int .i64)) (.cons (.v (.int .i64)) (.cons (.v .str) (.cons (.v (.sl .node)) .nilL)))))) (.cons (.v (.int .i64)) .nilL))) .nilL)⟩
abbrev ref52_Encode.l4010.A : Sig := ⟨85, [.slot 1, .slot 2, .cell 1 4, .slot 5, .slot 6], (.cons (.obox (.cons (.v (.int .i64)) (.cons (.v (.int .i64)) (.cons (.v (.int .i64)) (.cons (.v (.sl (.int .i64))) (.cons (.v (.int .i64)) (.cons (.v .str) (.cons (.v .bool) (.cons (.v (.int .i64)) (.cons (.v (.int .i64)) (.cons (.v (.int .i64)) (.cons (.v (.int .i64)) .nilL)))))))))))) (.cons (.obox (.cons (.v (.int .i64)) (.cons (.v (.int .i64)) (.cons (.v (.int .i64)) (.cons (.v .str) (.cons (.rowr 2) .nilL)))))) (.cons (.orow 24 .node) (.cons (.orow 24 .node) (.cons (.orow 24 .node) .nilL))))), [1, 2, 5, 6, 7], (.cons (.boxr 0 0) (.cons (.boxr 1 0) (.cons (.rowr 3) (.cons (.rowr 4) (.cons (.v (.int .i64)) .nilL)))))⟩
abbrev ref52_Encode.l4010.R0 : Sig := ⟨85, [.slot 1, .slot 2, .cell 1 4, .slot 5, .slot 6], (.cons (.obox (.cons (.v (.int .i64)) (.cons (.v (.int .i64)) (.cons (.v (.int .i64)) (.cons (.v (.sl (.int .i64))) (.cons (.v (.int .i64)) (.cons (.v .str) (.cons (.v .bool) (.cons (.v (.int .i64)) (.cons (.v (.int .i64)) (.cons (.v (.int .i64)) (.cons (.v (.int .i64)) .nilL)))))))))))) (.cons (.obox (.cons (.v (.int .i64)) (.cons (.v (.int .i64)) (.cons (.v (.int .i64)) (.cons (.v .str) (.cons (.rowr 2) .nilL)))))) (.cons (.orow 24 .node) (.cons (.orow 24 .node) (.cons (.orow 24 .node) .nilL))))), [1, 2, 5, 6], (.cons (.boxr 0 0) (.cons (.boxr 1 0) (.cons (.rowr 3) (.cons (.rowr 4) .nilL))))⟩
def ref52_Encode.l4010 (k : Nat) : Nat → Int → Int → Int → (List Int) → Int → ByteArray → Bool → Int → Int → Int → Int → Int → Int → Int → ByteArray → (List Nd) → (List Nd) → (List Nd) → Int → Option (Int × Int × Int × List Int × Int × ByteArray × Bool × Int × Int × Int × Int × Int × Int × Int × ByteArray × List Nd × List Nd × List Nd)
  | 0, _, _, _, _, _, _, _, _, _, _, _, _, _, _, _, _, _, _, _ => none
  | q + 1, x0, x1, x2, x3, x4, x5, x6, x7, x8, x9, x10, x11, x12, x13, x14, x15, x16, x17, x18 =>
    cond (decide (x18 < (x3.length : Int)))
    (cond (inB x18 x3.length)
      ((ref52_number.f k 0 (rdL (.int .i64) x3 x18)).bind fun y5 =>
        cond (fits (x17.length + 1) 64)
        (ref52_Encode.l4010 k q x0 x1 x2 x3 x4 x5 x6 x7 x8 x9 x10 x11 x12 x13 x14 x15 x16 (x17 ++ [(⟨y5.1, y5.2.1, y5.2.2.1, y5.2.2.2.1, y5.2.2.2.2⟩ : Nd)]) (IntKind.wrap .i64 (x18 + 1)))
        (none))
      (none))
    (some (x0, x1, x2, x3, x4, x5, x6, x7, x8, x9, x10, x11, x12, x13, x14, x15, x16, x17))
abbrev ref52_Encode.l4010.pc (k : Nat) : Pc := .one ref52_Encode.l4010.A (.exit 0) ref52_Encode.l4010.R0 (Int × Int × Int × List Int × Int × ByteArray × Bool × Int × Int × Int × Int × Int × Int × Int × ByteArray × List Nd × List Nd × List Nd) (fun x => ref52_Encode.l4010 k k x.1.1.1 x.1.1.2.1 x.1.1.2.2.1 x.1.1.2.2.2.1 x.1.1.2.2.2.2.1 x.1.1.2.2.2.2.2.1 x.1.1.2.2.2.2.2.2.1 x.1.1.2.2.2.2.2.2.2.1 x.1.1.2.2.2.2.2.2.2.2.1 x.1.1.2.2.2.2.2.2.2.2.2.1 x.1.1.2.2.2.2.2.2.2.2.2.2.1 x.1.2.1.1 x.1.2.1.2.1 x.1.2.1.2.2.1 x.1.2.1.2.2.2.1 x.1.2.2.1 x.1.2.2.2.1 x.1.2.2.2.2.1 x.2.2.2.2.2.1) (fun y => (((y.1, y.2.1, y.2.2.1, y.2.2.2.1, y.2.2.2.2.1, y.2.2.2.2.2.1, y.2.2.2.2.2.2.1, y.2.2.2.2.2.2.2.1, y.2.2.2.2.2.2.2.2.1, y.2.2.2.2.2.2.2.2.2.1, y.2.2.2.2.2.2.2.2.2.2.1, ()), (y.2.2.2.2.2.2.2.2.2.2.2.1, y.2.2.2.2.2.2.2.2.2.2.2.2.1, y.2.2.2.2.2.2.2.2.2.2.2.2.2.1, y.2.2.2.2.2.2.2.2.2.2.2.2.2.2.1, (), ()), y.2.2.2.2.2.2.2.2.2.2.2.2.2.2.2.1, y.2.2.2.2.2.2.2.2.2.2.2.2.2.2.2.2.1, y.2.2.2.2.2.2.2.2.2.2.2.2.2.2.2.2.2, ()), ((), (), (), (), ())))
abbrev ref52_Encode.j4014.A : Sig := ⟨85, [.slot 1, .slot 2, .cell 1 4, .slot 5, .slot 6], (.cons (.obox (.cons (.v (.int .i64)) (.cons (.v (.int .i64)) (.cons (.v (.int .i64)) (.cons (.v (.sl (.int .i64))) (.cons (.v (.int .i64)) (.cons (.v .str) (.cons (.v .bool) (.cons (.v (.int .i64)) (.cons (.v (.int .i64)) (.cons (.v (.int .i64)) (.cons (.v (.int .i64)) .nilL)))))))))))) (.cons (.obox (.cons (.v (.int .i64)) (.cons (.v (.int .i64)) (.cons (.v (.int .i64)) (.cons (.v .str) (.cons (.rowr 2) .nilL)))))) (.cons (.orow 24 .node) (.cons (.orow 24 .node) (.cons (.orow 24 .node) .nilL))))), [1, 2, 5, 6, 8], (.cons (.boxr 0 0) (.cons (.boxr 1 0) (.cons (.rowr 3) (.cons (.rowr 4) (.cons (.v (.int .i64)) .nilL)))))⟩
abbrev ref52_Encode.j4014.R0 : Sig := ⟨85, [.slot 1, .slot 2, .cell 1 4, .slot 5, .slot 6], (.cons (.obox (.cons (.v (.int .i64)) (.cons (.v (.int .i64)) (.cons (.v (.int .i64)) (.cons (.v (.sl (.int .i64))) (.cons (.v (.int .i64)) (.cons (.v .str) (.cons (.v .bool) (.cons (.v (.int .i64)) (.cons (.v (.int .i64)) (.cons (.v (.int .i64)) (.cons (.v (.int .i64)) .nilL)))))))))))) (.cons (.obox (.cons (.v (.int .i64)) (.cons (.v (.int .i64)) (.cons (.v (.int .i64)) (.cons (.v .str) (.cons (.rowr 2) .nilL)))))) (.cons (.orow 24 .node) (.cons (.orow 24 .node) (.cons (.orow 24 .node) .nilL))))), [1, 2, 5, 6, 8], (.cons (.boxr 0 0) (.cons (.boxr 1 0) (.cons (.rowr 3) (.cons (.rowr 4) (.cons (.v (.int .i64)) .nilL)))))⟩
def ref52_Encode.j4014 (k : Nat) (x0 : Int) (x1 : Int) (x2 : Int) (x3 : List Int) (x4 : Int) (x5 : ByteArray) (x6 : Bool) (x7 : Int) (x8 : Int) (x9 : Int) (x10 : Int) (x11 : Int) (x12 : Int) (x13 : Int) (x14 : ByteArray) (x15 : List Nd) (x16 : List Nd) (x17 : List Nd) (x18 : Int) : Option (Int × Int × Int × List Int × Int × ByteArray × Bool × Int × Int × Int × Int × Int × Int × Int × ByteArray × List Nd × List Nd × List Nd × Int) :=
  cond x6
  (some (x0, x1, x2, x3, x4, x5, x6, x7, x8, x9, x10, x11, x12, x13, x14, x15, x16, x17, 1))
  (some (x0, x1, x2, x3, x4, x5, x6, x7, x8, x9, x10, x11, x12, x13, x14, x15, x16, x17, x18))
abbrev ref52_Encode.j4014.pc (k : Nat) : Pc := .one ref52_Encode.j4014.A .normal ref52_Encode.j4014.R0 (Int × Int × Int × List Int × Int × ByteArray × Bool × Int × Int × Int × Int × Int × Int × Int × ByteArray × List Nd × List Nd × List Nd × Int) (fun x => ref52_Encode.j4014 k x.1.1.1 x.1.1.2.1 x.1.1.2.2.1 x.1.1.2.2.2.1 x.1.1.2.2.2.2.1 x.1.1.2.2.2.2.2.1 x.1.1.2.2.2.2.2.2.1 x.1.1.2.2.2.2.2.2.2.1 x.1.1.2.2.2.2.2.2.2.2.1 x.1.1.2.2.2.2.2.2.2.2.2.1 x.1.1.2.2.2.2.2.2.2.2.2.2.1 x.1.2.1.1 x.1.2.1.2.1 x.1.2.1.2.2.1 x.1.2.1.2.2.2.1 x.1.2.2.1 x.1.2.2.2.1 x.1.2.2.2.2.1 x.2.2.2.2.2.1) (fun y => (((y.1, y.2.1, y.2.2.1, y.2.2.2.1, y.2.2.2.2.1, y.2.2.2.2.2.1, y.2.2.2.2.2.2.1, y.2.2.2.2.2.2.2.1, y.2.2.2.2.2.2.2.2.1, y.2.2.2.2.2.2.2.2.2.1, y.2.2.2.2.2.2.2.2.2.2.1, ()), (y.2.2.2.2.2.2.2.2.2.2.2.1, y.2.2.2.2.2.2.2.2.2.2.2.2.1, y.2.2.2.2.2.2.2.2.2.2.2.2.2.1, y.2.2.2.2.2.2.2.2.2.2.2.2.2.2.1, (), ()), y.2.2.2.2.2.2.2.2.2.2.2.2.2.2.2.1, y.2.2.2.2.2.2.2.2.2.2.2.2.2.2.2.2.1, y.2.2.2.2.2.2.2.2.2.2.2.2.2.2.2.2.2.1, ()), ((), (), (), (), y.2.2.2.2.2.2.2.2.2.2.2.2.2.2.2.2.2.2, ())))
abbrev ref52_Encode.j62.A : Sig := ⟨85, [.slot 1, .slot 2, .cell 1 4, .slot 5], (.cons (.obox (.cons (.v (.int .i64)) (.cons (.v (.int .i64)) (.cons (.v (.int .i64)) (.cons (.v (.sl (.int .i64))) (.cons (.v (.int .i64)) (.cons (.v .str) (.cons (.v .bool) (.cons (.v (.int .i64)) (.cons (.v (.int .i64)) (.cons (.v (.int .i64)) (.cons (.v (.int .i64)) .nilL)))))))))))) (.cons (.obox (.cons (.v (.int .i64)) (.cons (.v (.int .i64)) (.cons (.v (.int .i64)) (.cons (.v .str) (.cons (.rowr 2) .nilL)))))) (.cons (.orow 24 .node) (.cons (.orow 24 .node) .nilL)))), [1, 2, 5], (.cons (.boxr 0 0) (.cons (.boxr 1 0) (.cons (.rowr 3) .nilL)))⟩
abbrev ref52_Encode.j62.R0 : Sig := ⟨85, [.slot 1, .slot 2, .cell 1 4, .slot 5], (.cons (.obox (.cons (.v (.int .i64)) (.cons (.v (.int .i64)) (.cons (.v (.int .i64)) (.cons (.v (.sl (.int .i64))) (.cons (.v (.int .i64)) (.cons (.v .str) (.cons (.v .bool) (.cons (.v (.int .i64)) (.cons (.v (.int .i64)) (.cons (.v (.int .i64)) (.cons (.v (.int .i64)) .nilL)))))))))))) (.cons (.obox (.cons (.v (.int .i64)) (.cons (.v (.int .i64)) (.cons (.v (.int .i64)) (.cons (.v .str) (.cons (.rowr 2) .nilL)))))) (.cons (.orow 24 .node) (.cons (.orow 24 .node) .nilL)))), [1, 2, 5], (.cons (.boxr 0 0) (.cons (.boxr 1 0) (.cons (.rowr 3) .nilL)))⟩
def ref52_Encode.j62 (k : Nat) (x0 : Int) (x1 : Int) (x2 : Int) (x3 : List Int) (x4 : Int) (x5 : ByteArray) (x6 : Bool) (x7 : Int) (x8 : Int) (x9 : Int) (x10 : Int) (x11 : Int) (x12 : Int) (x13 : Int) (x14 : ByteArray) (x15 : List Nd) (x16 : List Nd) : Option (Int × Int × Int × List Int × Int × ByteArray × Bool × Int × Int × Int × Int × Int × Int × Int × ByteArray × List Nd × List Nd) :=
  cond (x0 == 2)
  ((ref52_Encode.l4010 k k x0 x1 x2 x3 x4 x5 x6 x7 x8 x9 x10 x11 x12 x13 x14 x15 x16 ([] : List Nd) 0).bind fun y15 =>
    (ref52_Encode.j4014 k y15.1 y15.2.1 y15.2.2.1 y15.2.2.2.1 y15.2.2.2.2.1 y15.2.2.2.2.2.1 y15.2.2.2.2.2.2.1 y15.2.2.2.2.2.2.2.1 y15.2.2.2.2.2.2.2.2.1 y15.2.2.2.2.2.2.2.2.2.1 y15.2.2.2.2.2.2.2.2.2.2.1 y15.2.2.2.2.2.2.2.2.2.2.2.1 y15.2.2.2.2.2.2.2.2.2.2.2.2.1 y15.2.2.2.2.2.2.2.2.2.2.2.2.2.1 y15.2.2.2.2.2.2.2.2.2.2.2.2.2.2.1 y15.2.2.2.2.2.2.2.2.2.2.2.2.2.2.2.1 y15.2.2.2.2.2.2.2.2.2.2.2.2.2.2.2.2.1 y15.2.2.2.2.2.2.2.2.2.2.2.2.2.2.2.2.2 0).bind fun y16 =>
    (ref52_number.f k 3 y16.2.2.1).bind fun y17 =>
    (ref10_List.f k 4 y16.2.2.2.2.2.2.2.2.2.2.2.2.2.2.2.2.2.1).bind fun y18 =>
    (ref52_number.f k 5 y16.2.2.2.2.1).bind fun y19 =>
    (ref10_String.f k 6 y16.2.2.2.2.2.1).bind fun y20 =>
    (ref52_number.f k 7 y16.2.2.2.2.2.2.2.2.2.2.2.2.2.2.2.2.2.2).bind fun y21 =>
    cond (fits (y16.2.2.2.2.2.2.2.2.2.2.2.2.2.2.2.2.1.length + 5) 64)
    (some (y16.1, y16.2.1, y16.2.2.1, y16.2.2.2.1, y16.2.2.2.2.1, y16.2.2.2.2.2.1, y16.2.2.2.2.2.2.1, y16.2.2.2.2.2.2.2.1, y16.2.2.2.2.2.2.2.2.1, y16.2.2.2.2.2.2.2.2.2.1, y16.2.2.2.2.2.2.2.2.2.2.1, y16.2.2.2.2.2.2.2.2.2.2.2.1, y16.2.2.2.2.2.2.2.2.2.2.2.2.1, y16.2.2.2.2.2.2.2.2.2.2.2.2.2.1, y16.2.2.2.2.2.2.2.2.2.2.2.2.2.2.1, y16.2.2.2.2.2.2.2.2.2.2.2.2.2.2.2.1, (y16.2.2.2.2.2.2.2.2.2.2.2.2.2.2.2.2.1 ++ [(⟨y17.1, y17.2.1, y17.2.2.1, y17.2.2.2.1, y17.2.2.2.2⟩ : Nd), (⟨y18.1, y18.2.1, y18.2.2.1, y18.2.2.2.1, y18.2.2.2.2⟩ : Nd), (⟨y19.1, y19.2.1, y19.2.2.1, y19.2.2.2.1, y19.2.2.2.2⟩ : Nd), (⟨y20.1, y20.2.1, y20.2.2.1, y20.2.2.2.1, y20.2.2.2.2⟩ : Nd), (⟨y21.1, y21.2.1, y21.2.2.1, y21.2.2.2.1, y21.2.2.2.2⟩ : Nd)])))
    (none))
  (some (x0, x1, x2, x3, x4, x5, x6, x7, x8, x9, x10, x11, x12, x13, x14, x15, x16))
abbrev ref52_Encode.j62.pc (k : Nat) : Pc := .one ref52_Encode.j62.A .normal ref52_Encode.j62.R0 (Int × Int × Int × List Int × Int × ByteArray × Bool × Int × Int × Int × Int × Int × Int × Int × ByteArray × List Nd × List Nd) (fun x => ref52_Encode.j62 k x.1.1.1 x.1.1.2.1 x.1.1.2.2.1 x.1.1.2.2.2.1 x.1.1.2.2.2.2.1 x.1.1.2.2.2.2.2.1 x.1.1.2.2.2.2.2.2.1 x.1.1.2.2.2.2.2.2.2.1 x.1.1.2.2.2.2.2.2.2.2.1 x.1.1.2.2.2.2.2.2.2.2.2.1 x.1.1.2.2.2.2.2.2.2.2.2.2.1 x.1.2.1.1 x.1.2.1.2.1 x.1.2.1.2.2.1 x.1.2.1.2.2.2.1 x.1.2.2.1 x.1.2.2.2.1) (fun y => (((y.1, y.2.1, y.2.2.1, y.2.2.2.1, y.2.2.2.2.1, y.2.2.2.2.2.1, y.2.2.2.2.2.2.1, y.2.2.2.2.2.2.2.1, y.2.2.2.2.2.2.2.2.1, y.2.2.2.2.2.2.2.2.2.1, y.2.2.2.2.2.2.2.2.2.2.1, ()), (y.2.2.2.2.2.2.2.2.2.2.2.1, y.2.2.2.2.2.2.2.2.2.2.2.2.1, y.2.2.2.2.2.2.2.2.2.2.2.2.2.1, y.2.2.2.2.2.2.2.2.2.2.2.2.2.2.1, (), ()), y.2.2.2.2.2.2.2.2.2.2.2.2.2.2.2.1, y.2.2.2.2.2.2.2.2.2.2.2.2.2.2.2.2, ()), ((), (), (), ())))
def ref52_Encode.f (k : Nat) (a0 : Int) (a1 : Int) (a2 : Int) (a3 : List Int) (a4 : Int) (a5 : ByteArray) (a6 : Bool) (a7 : Int) (a8 : Int) (a9 : Int) (a10 : Int) : Option (Int × Int × Int × ByteArray × List Nd × Int) :=
  (ref52_check.f k a0 a1 a2 a3 a4 a5 a6 a7 a8 a9 a10).bind fun y1 =>
  cond (y1 != 0)
  (some (0, 0, 0, (⟨#[]⟩ : ByteArray), ([] : List Nd), y1))
  ((ref52_number.f k 1 a0).bind fun y2 =>
    (ref52_number.f k 2 a1).bind fun y3 =>
    (ref52_Encode.j62 k a0 a1 a2 a3 a4 a5 a6 a7 a8 a9 a10 0 0 0 (⟨#[]⟩ : ByteArray) ([] : List Nd) [(⟨y2.1, y2.2.1, y2.2.2.1, y2.2.2.2.1, y2.2.2.2.2⟩ : Nd), (⟨y3.1, y3.2.1, y3.2.2.1, y3.2.2.2.1, y3.2.2.2.2⟩ : Nd)]).bind fun y22 =>
    cond (y22.1 == 5)
    ((ref52_number.f k 8 y22.2.2.2.2.2.2.2.1).bind fun y23 =>
      (ref52_number.f k 9 y22.2.2.2.2.2.2.2.2.2.1).bind fun y24 =>
      (ref52_number.f k 10 y22.2.2.2.2.2.2.2.2.2.2.1).bind fun y25 =>
      cond (fits (y22.2.2.2.2.2.2.2.2.2.2.2.2.2.2.2.2.length + 3) 64)
      ((ref10_List.f k 50 (y22.2.2.2.2.2.2.2.2.2.2.2.2.2.2.2.2 ++ [(⟨y23.1, y23.2.1, y23.2.2.1, y23.2.2.2.1, y23.2.2.2.2⟩ : Nd), (⟨y24.1, y24.2.1, y24.2.2.1, y24.2.2.2.1, y24.2.2.2.2⟩ : Nd), (⟨y25.1, y25.2.1, y25.2.2.1, y25.2.2.2.1, y25.2.2.2.2⟩ : Nd)])).bind fun y26 =>
        some (y26.1, y26.2.1, y26.2.2.1, y26.2.2.2.1, y26.2.2.2.2, 0))
      (none))
    ((ref10_List.f k 50 y22.2.2.2.2.2.2.2.2.2.2.2.2.2.2.2.2).bind fun y27 =>
      some (y27.1, y27.2.1, y27.2.2.1, y27.2.2.2.1, y27.2.2.2.2, 0)))
abbrev ref52_Encode.E (k : Nat) : Ent := ⟨ref52_Encode.A, ref52_Encode.R, Int × Int × Int × ByteArray × List Nd × Int, fun x => ref52_Encode.f k x.2.1.1 x.2.1.2.1 x.2.1.2.2.1 x.2.1.2.2.2.1 x.2.1.2.2.2.2.1 x.2.1.2.2.2.2.2.1 x.2.1.2.2.2.2.2.2.1 x.2.1.2.2.2.2.2.2.2.1 x.2.1.2.2.2.2.2.2.2.2.1 x.2.1.2.2.2.2.2.2.2.2.2.1 x.2.1.2.2.2.2.2.2.2.2.2.2.1, fun y => ((), (((y.1, y.2.1, y.2.2.1, y.2.2.2.1, y.2.2.2.2.1, ()), y.2.2.2.2.2, ()), ()))⟩
noncomputable abbrev ref52_Encode.C (k : Nat) : Cfg := ⟨Try.prog, shs, look [(25, ref10_List.E k), (26, ref10_String.E k), (23, ref52_check.E k), (24, ref52_number.E k)], look [(4010, ref52_Encode.l4010.pc k), (4014, ref52_Encode.j4014.pc k), (62, ref52_Encode.j62.pc k)]⟩
theorem ref52_Encode.l4010.ev (k q : Nat) (x : ref52_Encode.l4010.A.V) : ((codeAt 60 (bodyOf (Try.f14)) 4010).bind fun c => (loopOf c).bind fun c1 => evL1 (ref52_Encode.C k) c1 4010 ref52_Encode.l4010.A (.exit 0) ref52_Encode.l4010.R0 (Int × Int × Int × List Int × Int × ByteArray × Bool × Int × Int × Int × Int × Int × Int × Int × ByteArray × List Nd × List Nd × List Nd) (fun x => (x.1.1.1, x.1.1.2.1, x.1.1.2.2.1, x.1.1.2.2.2.1, x.1.1.2.2.2.2.1, x.1.1.2.2.2.2.2.1, x.1.1.2.2.2.2.2.2.1, x.1.1.2.2.2.2.2.2.2.1, x.1.1.2.2.2.2.2.2.2.2.1, x.1.1.2.2.2.2.2.2.2.2.2.1, x.1.1.2.2.2.2.2.2.2.2.2.2.1, x.1.2.1.1, x.1.2.1.2.1, x.1.2.1.2.2.1, x.1.2.1.2.2.2.1, x.1.2.2.1, x.1.2.2.2.1, x.1.2.2.2.2.1)) (fun x => ref52_Encode.l4010 k q x.1.1.1 x.1.1.2.1 x.1.1.2.2.1 x.1.1.2.2.2.1 x.1.1.2.2.2.2.1 x.1.1.2.2.2.2.2.1 x.1.1.2.2.2.2.2.2.1 x.1.1.2.2.2.2.2.2.2.1 x.1.1.2.2.2.2.2.2.2.2.1 x.1.1.2.2.2.2.2.2.2.2.2.1 x.1.1.2.2.2.2.2.2.2.2.2.2.1 x.1.2.1.1 x.1.2.1.2.1 x.1.2.1.2.2.1 x.1.2.1.2.2.2.1 x.1.2.2.1 x.1.2.2.2.1 x.1.2.2.2.2.1 x.2.2.2.2.2.1) x) = ref52_Encode.l4010 k (q + 1) x.1.1.1 x.1.1.2.1 x.1.1.2.2.1 x.1.1.2.2.2.1 x.1.1.2.2.2.2.1 x.1.1.2.2.2.2.2.1 x.1.1.2.2.2.2.2.2.1 x.1.1.2.2.2.2.2.2.2.1 x.1.1.2.2.2.2.2.2.2.2.1 x.1.1.2.2.2.2.2.2.2.2.2.1 x.1.1.2.2.2.2.2.2.2.2.2.2.1 x.1.2.1.1 x.1.2.1.2.1 x.1.2.1.2.2.1 x.1.2.1.2.2.2.1 x.1.2.2.1 x.1.2.2.2.1 x.1.2.2.2.2.1 x.2.2.2.2.2.1 := by kernel_rfl
theorem ref52_Encode.j4014.ev (k : Nat) (x : ref52_Encode.j4014.A.V) : ((codeAt 60 (bodyOf (Try.f14)) 4014).bind fun c => evP1 (ref52_Encode.C k) c 4014 ref52_Encode.j4014.A .normal ref52_Encode.j4014.R0 (Int × Int × Int × List Int × Int × ByteArray × Bool × Int × Int × Int × Int × Int × Int × Int × ByteArray × List Nd × List Nd × List Nd × Int) (fun x => (x.1.1.1, x.1.1.2.1, x.1.1.2.2.1, x.1.1.2.2.2.1, x.1.1.2.2.2.2.1, x.1.1.2.2.2.2.2.1, x.1.1.2.2.2.2.2.2.1, x.1.1.2.2.2.2.2.2.2.1, x.1.1.2.2.2.2.2.2.2.2.1, x.1.1.2.2.2.2.2.2.2.2.2.1, x.1.1.2.2.2.2.2.2.2.2.2.2.1, x.1.2.1.1, x.1.2.1.2.1, x.1.2.1.2.2.1, x.1.2.1.2.2.2.1, x.1.2.2.1, x.1.2.2.2.1, x.1.2.2.2.2.1, x.2.2.2.2.2.1)) x) = ref52_Encode.j4014 k x.1.1.1 x.1.1.2.1 x.1.1.2.2.1 x.1.1.2.2.2.1 x.1.1.2.2.2.2.1 x.1.1.2.2.2.2.2.1 x.1.1.2.2.2.2.2.2.1 x.1.1.2.2.2.2.2.2.2.1 x.1.1.2.2.2.2.2.2.2.2.1 x.1.1.2.2.2.2.2.2.2.2.2.1 x.1.1.2.2.2.2.2.2.2.2.2.2.1 x.1.2.1.1 x.1.2.1.2.1 x.1.2.1.2.2.1 x.1.2.1.2.2.2.1 x.1.2.2.1 x.1.2.2.2.1 x.1.2.2.2.2.1 x.2.2.2.2.2.1 := by kernel_rfl
theorem ref52_Encode.j62.ev (k : Nat) (x : ref52_Encode.j62.A.V) : ((codeAt 60 (bodyOf (Try.f14)) 62).bind fun c => evP1 (ref52_Encode.C k) c 62 ref52_Encode.j62.A .normal ref52_Encode.j62.R0 (Int × Int × Int × List Int × Int × ByteArray × Bool × Int × Int × Int × Int × Int × Int × Int × ByteArray × List Nd × List Nd) (fun x => (x.1.1.1, x.1.1.2.1, x.1.1.2.2.1, x.1.1.2.2.2.1, x.1.1.2.2.2.2.1, x.1.1.2.2.2.2.2.1, x.1.1.2.2.2.2.2.2.1, x.1.1.2.2.2.2.2.2.2.1, x.1.1.2.2.2.2.2.2.2.2.1, x.1.1.2.2.2.2.2.2.2.2.2.1, x.1.1.2.2.2.2.2.2.2.2.2.2.1, x.1.2.1.1, x.1.2.1.2.1, x.1.2.1.2.2.1, x.1.2.1.2.2.2.1, x.1.2.2.1, x.1.2.2.2.1)) x) = ref52_Encode.j62 k x.1.1.1 x.1.1.2.1 x.1.1.2.2.1 x.1.1.2.2.2.1 x.1.1.2.2.2.2.1 x.1.1.2.2.2.2.2.1 x.1.1.2.2.2.2.2.2.1 x.1.1.2.2.2.2.2.2.2.1 x.1.1.2.2.2.2.2.2.2.2.1 x.1.1.2.2.2.2.2.2.2.2.2.1 x.1.1.2.2.2.2.2.2.2.2.2.2.1 x.1.2.1.1 x.1.2.1.2.1 x.1.2.1.2.2.1 x.1.2.1.2.2.2.1 x.1.2.2.1 x.1.2.2.2.1 := by kernel_rfl
theorem ref52_Encode.ev (k : Nat) (x : ref52_Encode.A.V) : evF (ref52_Encode.C k) Try.f14 ref52_Encode.A ref52_Encode.R (Int × Int × Int × ByteArray × List Nd × Int) (fun x => (x.2.1.1.1, x.2.1.1.2.1, x.2.1.1.2.2.1, x.2.1.1.2.2.2.1, x.2.1.1.2.2.2.2.1, x.2.1.2.1)) x = ref52_Encode.f k x.2.1.1 x.2.1.2.1 x.2.1.2.2.1 x.2.1.2.2.2.1 x.2.1.2.2.2.2.1 x.2.1.2.2.2.2.2.1 x.2.1.2.2.2.2.2.2.1 x.2.1.2.2.2.2.2.2.2.1 x.2.1.2.2.2.2.2.2.2.2.1 x.2.1.2.2.2.2.2.2.2.2.2.1 x.2.1.2.2.2.2.2.2.2.2.2.2.1 := by kernel_rfl
theorem ref52_Encode.at : Try.prog.funcs[14]? = some Try.f14 := by kernel_rfl
theorem ref52_Encode.bo : Try.f14.body = some (bodyOf (Try.f14)) := by kernel_rfl
theorem ref52_Encode.nm : (Try.f14.name == "runtime.NumGoroutine") = false := by kernel_rfl
theorem ref52_Encode.sat (k : Nat) : Sat Try.prog 14 (ref52_Encode.E k) :=
  have hC : ∀ g N, (ref52_Encode.C k).orc g = some N → Sat Try.prog g N := satAll (satCons (ref10_List.sat k) (satCons (ref10_String.sat k) (satCons (ref52_check.sat k) (satCons (ref52_number.sat k) satNil))))
  sat_of (C := ref52_Encode.C k) hC mixed ref52_Encode.at ref52_Encode.nm ref52_Encode.bo (all_pieces rfl (locCons (loc_loop1 hC mixed (dstOk_zero _) (fun (q : Nat) (x : ref52_Encode.l4010.A.V) => ref52_Encode.l4010 k q x.1.1.1 x.1.1.2.1 x.1.1.2.2.1 x.1.1.2.2.2.1 x.1.1.2.2.2.2.1 x.1.1.2.2.2.2.2.1 x.1.1.2.2.2.2.2.2.1 x.1.1.2.2.2.2.2.2.2.1 x.1.1.2.2.2.2.2.2.2.2.1 x.1.1.2.2.2.2.2.2.2.2.2.1 x.1.1.2.2.2.2.2.2.2.2.2.2.1 x.1.2.1.1 x.1.2.1.2.1 x.1.2.1.2.2.1 x.1.2.1.2.2.2.1 x.1.2.2.1 x.1.2.2.2.1 x.1.2.2.2.2.1 x.2.2.2.2.2.1) (fun _ => rfl) (ref52_Encode.l4010.ev k) (fun _ => rfl) k) (locCons (loc_one hC mixed (dstOk_zero _) (fun (x : ref52_Encode.j4014.A.V) => ref52_Encode.j4014 k x.1.1.1 x.1.1.2.1 x.1.1.2.2.1 x.1.1.2.2.2.1 x.1.1.2.2.2.2.1 x.1.1.2.2.2.2.2.1 x.1.1.2.2.2.2.2.2.1 x.1.1.2.2.2.2.2.2.2.1 x.1.1.2.2.2.2.2.2.2.2.1 x.1.1.2.2.2.2.2.2.2.2.2.1 x.1.1.2.2.2.2.2.2.2.2.2.2.1 x.1.2.1.1 x.1.2.1.2.1 x.1.2.1.2.2.1 x.1.2.1.2.2.2.1 x.1.2.2.1 x.1.2.2.2.1 x.1.2.2.2.2.1 x.2.2.2.2.2.1) (ref52_Encode.j4014.ev k) (fun _ => rfl)) (locCons (loc_one hC mixed (dstOk_zero _) (fun (x : ref52_Encode.j62.A.V) => ref52_Encode.j62 k x.1.1.1 x.1.1.2.1 x.1.1.2.2.1 x.1.1.2.2.2.1 x.1.1.2.2.2.2.1 x.1.1.2.2.2.2.2.1 x.1.1.2.2.2.2.2.2.1 x.1.1.2.2.2.2.2.2.2.1 x.1.1.2.2.2.2.2.2.2.2.1 x.1.1.2.2.2.2.2.2.2.2.2.1 x.1.1.2.2.2.2.2.2.2.2.2.2.1 x.1.2.1.1 x.1.2.1.2.1 x.1.2.1.2.2.1 x.1.2.1.2.2.2.1 x.1.2.2.1 x.1.2.2.2.1) (ref52_Encode.j62.ev k) (fun _ => rfl)) locNil)))) (ref52_Encode.ev k) (fun _ => rfl) rfl

/-! ### ref10_Equal: function 15 (examboard/examboardref10.Equal) -/
abbrev ref10_Equal.A : Sig := ⟨2, [], (.nilL), [0, 1], (.cons (.agg (.cons (.v (.int .i64)) (.cons (.v (.int .i64)) (.cons (.v (.int .i64)) (.cons (.v .str) (.cons (.v (.sl .node)) .nilL)))))) (.cons (.agg (.cons (.v (.int .i64)) (.cons (.v (.int .i64)) (.cons (.v (.int .i64)) (.cons (.v .str) (.cons (.v (.sl .node)) .nilL)))))) .nilL))⟩
abbrev ref10_Equal.R : Sig := ⟨1, [], (.nilL), [0], (.cons (.v .bool) .nilL)⟩
abbrev ref10_Equal.l58.A : Sig := ⟨60, [.slot 2, .slot 3], (.cons (.obox (.cons (.v (.int .i64)) (.cons (.v (.int .i64)) (.cons (.v (.int .i64)) (.cons (.v .str) (.cons (.v (.sl .node)) .nilL)))))) (.cons (.obox (.cons (.v (.int .i64)) (.cons (.v (.int .i64)) (.cons (.v (.int .i64)) (.cons (.v .str) (.cons (.v (.sl .node)) .nilL)))))) .nilL)), [2, 3, 5], (.cons (.boxr 0 0) (.cons (.boxr 1 0) (.cons (.v (.int .i64)) .nilL)))⟩
abbrev ref10_Equal.l58.R0 : Sig := ⟨60, [], (.nilL), [], (.nilL)⟩
abbrev ref10_Equal.l58.R1 : Sig := ⟨60, [], (.nilL), [4], (.cons (.v .bool) .nilL)⟩
def ref10_Equal.l58 (self : Int → Int → Int → ByteArray → (List Nd) → Int → Int → Int → ByteArray → (List Nd) → Option (Bool)) (k : Nat) : Nat → Int → Int → Int → ByteArray → (List Nd) → Int → Int → Int → ByteArray → (List Nd) → Int → Option ((Unit) ⊕ (Bool))
  | 0, _, _, _, _, _, _, _, _, _, _, _ => none
  | q + 1, x0, x1, x2, x3, x4, x5, x6, x7, x8, x9, x10 =>
    cond (decide (x10 < (x4.length : Int)))
    (cond (inB x10 x4.length)
      (cond (inB x10 x9.length)
        ((self ((rdL .node x4 x10).tag) ((rdL .node x4 x10).kind) ((rdL .node x4 x10).n) ((rdL .node x4 x10).s) ((rdL .node x4 x10).kids) ((rdL .node x9 x10).tag) ((rdL .node x9 x10).kind) ((rdL .node x9 x10).n) ((rdL .node x9 x10).s) ((rdL .node x9 x10).kids)).bind fun y6 =>
          cond (!y6)
          (some (.inr false))
          (ref10_Equal.l58 self k q x0 x1 x2 x3 x4 x5 x6 x7 x8 x9 (IntKind.wrap .i64 (x10 + 1))))
        (none))
      (none))
    (some (.inl ()))
abbrev ref10_Equal.l58.pc (self : Int → Int → Int → ByteArray → (List Nd) → Int → Int → Int → ByteArray → (List Nd) → Option (Bool)) (k : Nat) : Pc := .two ref10_Equal.l58.A (.exit 0) ref10_Equal.l58.R0 (Unit) (fun y => ((), ())) .ret ref10_Equal.l58.R1 (Bool) (fun y => ((), (y, ()))) (fun x => ref10_Equal.l58 self k k x.1.1.1 x.1.1.2.1 x.1.1.2.2.1 x.1.1.2.2.2.1 x.1.1.2.2.2.2.1 x.1.2.1.1 x.1.2.1.2.1 x.1.2.1.2.2.1 x.1.2.1.2.2.2.1 x.1.2.1.2.2.2.2.1 x.2.2.2.1)
def ref10_Equal.g (self : Int → Int → Int → ByteArray → (List Nd) → Int → Int → Int → ByteArray → (List Nd) → Option (Bool)) (k : Nat) (a0 : Int) (a1 : Int) (a2 : Int) (a3 : ByteArray) (a4 : List Nd) (a5 : Int) (a6 : Int) (a7 : Int) (a8 : ByteArray) (a9 : List Nd) : Option (Bool) :=
  Option.bind (cond (a0 != a5)
    (some true)
    (some (a1 != a6))) fun (c1 : Bool) =>
  Option.bind (cond c1
    (some true)
    (some (a2 != a7))) fun (c2 : Bool) =>
  Option.bind (cond c2
    (some true)
    (some (!(a3.toList == a8.toList)))) fun (c3 : Bool) =>
  Option.bind (cond c3
    (some true)
    (some ((a4.length : Int) != (a9.length : Int)))) fun (c4 : Bool) =>
  cond c4
  (some false)
  ((ref10_Equal.l58 self k k a0 a1 a2 a3 a4 a5 a6 a7 a8 a9 0).bind fun y7 => Sum.casesOn y7 (fun u8 =>
    some true)
    (fun v9 =>
    some v9))
def ref10_Equal.f : Nat → Int → Int → Int → ByteArray → (List Nd) → Int → Int → Int → ByteArray → (List Nd) → Option (Bool)
  | 0, _, _, _, _, _, _, _, _, _, _ => none
  | k + 1, a0, a1, a2, a3, a4, a5, a6, a7, a8, a9 => ref10_Equal.g (ref10_Equal.f k) k a0 a1 a2 a3 a4 a5 a6 a7 a8 a9
abbrev ref10_Equal.ES (self : Int → Int → Int → ByteArray → (List Nd) → Int → Int → Int → ByteArray → (List Nd) → Option (Bool)) : Ent := ⟨ref10_Equal.A, ref10_Equal.R, Bool, fun x => self x.2.1.1 x.2.1.2.1 x.2.1.2.2.1 x.2.1.2.2.2.1 x.2.1.2.2.2.2.1 x.2.2.1.1 x.2.2.1.2.1 x.2.2.1.2.2.1 x.2.2.1.2.2.2.1 x.2.2.1.2.2.2.2.1, fun y => ((), (y, ()))⟩
abbrev ref10_Equal.E (k : Nat) : Ent := ⟨ref10_Equal.A, ref10_Equal.R, Bool, fun x => ref10_Equal.f k x.2.1.1 x.2.1.2.1 x.2.1.2.2.1 x.2.1.2.2.2.1 x.2.1.2.2.2.2.1 x.2.2.1.1 x.2.2.1.2.1 x.2.2.1.2.2.1 x.2.2.1.2.2.2.1 x.2.2.1.2.2.2.2.1, fun y => ((), (y, ()))⟩
noncomputable abbrev ref10_Equal.C (self : Int → Int → Int → ByteArray → (List Nd) → Int → Int → Int → ByteArray → (List Nd) → Option (Bool)) (k : Nat) : Cfg := ⟨Try.prog, shs, look [(15, ref10_Equal.ES self)], look [(58, ref10_Equal.l58.pc self k)]⟩
theorem ref10_Equal.l58.ev (self : Int → Int → Int → ByteArray → (List Nd) → Int → Int → Int → ByteArray → (List Nd) → Option (Bool)) (k q : Nat) (x : ref10_Equal.l58.A.V) : ((codeAt 60 (bodyOf (Try.f15)) 58).bind fun c => (loopOf c).bind fun c1 => evL2 (ref10_Equal.C self k) c1 58 ref10_Equal.l58.A (.exit 0) ref10_Equal.l58.R0 (Unit) (fun x => ()) .ret ref10_Equal.l58.R1 (Bool) (fun x => x.2.1) (fun x => ref10_Equal.l58 self k q x.1.1.1 x.1.1.2.1 x.1.1.2.2.1 x.1.1.2.2.2.1 x.1.1.2.2.2.2.1 x.1.2.1.1 x.1.2.1.2.1 x.1.2.1.2.2.1 x.1.2.1.2.2.2.1 x.1.2.1.2.2.2.2.1 x.2.2.2.1) x) = ref10_Equal.l58 self k (q + 1) x.1.1.1 x.1.1.2.1 x.1.1.2.2.1 x.1.1.2.2.2.1 x.1.1.2.2.2.2.1 x.1.2.1.1 x.1.2.1.2.1 x.1.2.1.2.2.1 x.1.2.1.2.2.2.1 x.1.2.1.2.2.2.2.1 x.2.2.2.1 := by kernel_rfl
theorem ref10_Equal.ev (self : Int → Int → Int → ByteArray → (List Nd) → Int → Int → Int → ByteArray → (List Nd) → Option (Bool)) (k : Nat) (x : ref10_Equal.A.V) : evF (ref10_Equal.C self k) Try.f15 ref10_Equal.A ref10_Equal.R (Bool) (fun x => x.2.1) x = ref10_Equal.g self k x.2.1.1 x.2.1.2.1 x.2.1.2.2.1 x.2.1.2.2.2.1 x.2.1.2.2.2.2.1 x.2.2.1.1 x.2.2.1.2.1 x.2.2.1.2.2.1 x.2.2.1.2.2.2.1 x.2.2.1.2.2.2.2.1 := by kernel_rfl
theorem ref10_Equal.at : Try.prog.funcs[15]? = some Try.f15 := by kernel_rfl
theorem ref10_Equal.bo : Try.f15.body = some (bodyOf (Try.f15)) := by kernel_rfl
theorem ref10_Equal.nm : (Try.f15.name == "runtime.NumGoroutine") = false := by kernel_rfl
theorem ref10_Equal.satS (self : Int → Int → Int → ByteArray → (List Nd) → Int → Int → Int → ByteArray → (List Nd) → Option (Bool)) (k : Nat) (hS : Sat Try.prog 15 (ref10_Equal.ES self)) : Sat Try.prog 15 ⟨ref10_Equal.A, ref10_Equal.R, Bool, fun x => ref10_Equal.g self k x.2.1.1 x.2.1.2.1 x.2.1.2.2.1 x.2.1.2.2.2.1 x.2.1.2.2.2.2.1 x.2.2.1.1 x.2.2.1.2.1 x.2.2.1.2.2.1 x.2.2.1.2.2.2.1 x.2.2.1.2.2.2.2.1, fun y => ((), (y, ()))⟩ :=
  have hC : ∀ g N, (ref10_Equal.C self k).orc g = some N → Sat Try.prog g N := satAll (satCons hS satNil)
  sat_of (C := ref10_Equal.C self k) hC mixed ref10_Equal.at ref10_Equal.nm ref10_Equal.bo (all_pieces rfl (locCons (loc_loop2 hC mixed (dstOk_zero _) (fun (q : Nat) (x : ref10_Equal.l58.A.V) => ref10_Equal.l58 self k q x.1.1.1 x.1.1.2.1 x.1.1.2.2.1 x.1.1.2.2.2.1 x.1.1.2.2.2.2.1 x.1.2.1.1 x.1.2.1.2.1 x.1.2.1.2.2.1 x.1.2.1.2.2.2.1 x.1.2.1.2.2.2.2.1 x.2.2.2.1) (fun _ => rfl) (ref10_Equal.l58.ev self k) (fun _ => rfl) (fun _ => rfl) k) locNil)) (ref10_Equal.ev self k) (fun _ => rfl) rfl
theorem ref10_Equal.sat : ∀ k, Sat Try.prog 15 (ref10_Equal.E k)
  | 0 => sat_none ref10_Equal.at ref10_Equal.nm ref10_Equal.bo (fun _ => rfl)
  | k + 1 => ref10_Equal.satS (ref10_Equal.f k) k (ref10_Equal.sat k)

/-! ### ref52_Decode: function 7 (examboard/examboardref52.Decode) -/
abbrev ref52_Decode.A : Sig := ⟨1, [], (.nilL), [0], (.cons (.agg (.cons (.v (.int .i64)) (.cons (.v (.int .i64)) (.cons (.v (.int .i64)) (.cons (.v .str) (.cons (.v (.sl .node)) .nilL)))))) .nilL)⟩
abbrev ref52_Decode.R : Sig := ⟨1, [], (.nilL), [0], (.cons (.tup (.cons (.agg (.cons (.v (.int .i64)) (.cons (.v (.int .i64)) (.cons (.v (.int .i64)) (.cons (.v (.sl (.int .i64))) (.cons (.v (.int .i64)) (.cons (.v .str) (.cons (.v .bool) (.cons (.v (.int .i64)) (.cons (.v (.int .i64)) (.cons (.v (.int .i64)) (.cons (.v (.int .i64)) .nilL)))))))))))) (.cons (.v (.int .i64)) .nilL))) .nilL)⟩
abbrev ref52_Decode.l2006.A : Sig := ⟨114, [.slot 1, .slot 2, .cell 1 3, .slot 5, .cell 3 3], (.cons (.obox (.cons (.v (.int .i64)) (.cons (.v (.int .i64)) (.cons (.v (.int .i64)) (.cons (.v .str) (.cons (.v (.sl .node)) .nilL)))))) (.cons (.obox (.cons (.v (.int .i64)) (.cons (.v (.int .i64)) (.cons (.v (.int .i64)) (.cons (.rowr 2) (.cons (.v (.int .i64)) (.cons (.v .str) (.cons (.v .bool) (.cons (.v (.int .i64)) (.cons (.v (.int .i64)) (.cons (.v (.int .i64)) (.cons (.v (.int .i64)) .nilL)))))))))))) (.cons (.orow 3 (.int .i64)) (.cons (.obox (.cons (.v (.int .i64)) (.cons (.v (.int .i64)) (.cons (.v (.int .i64)) (.cons (.rowr 4) (.cons (.v (.int .i64)) (.cons (.v .str) (.cons (.v .bool) (.cons (.v (.int .i64)) (.cons (.v (.int .i64)) (.cons (.v (.int .i64)) (.cons (.v (.int .i64)) .nilL)))))))))))) (.cons (.orow 3 (.int .i64)) .nilL))))), [1, 2, 5, 4, 6], (.cons (.boxr 0 0) (.cons (.boxr 1 0) (.cons (.boxr 3 0) (.cons (.v (.sl .node)) (.cons (.v (.int .i64)) .nilL)))))⟩
abbrev ref52_Decode.l2006.R0 : Sig := ⟨114, [.slot 1, .slot 2, .cell 1 3, .slot 5, .cell 3 3], (.cons (.obox (.cons (.v (.int .i64)) (.cons (.v (.int .i64)) (.cons (.v (.int .i64)) (.cons (.v .str) (.cons (.v (.sl .node)) .nilL)))))) (.cons (.obox (.cons (.v (.int .i64)) (.cons (.v (.int .i64)) (.cons (.v (.int .i64)) (.cons (.rowr 2) (.cons (.v (.int .i64)) (.cons (.v .str) (.cons (.v .bool) (.cons (.v (.int .i64)) (.cons (.v (.int .i64)) (.cons (.v (.int .i64)) (.cons (.v (.int .i64)) .nilL)))))))))))) (.cons (.orow 3 (.int .i64)) (.cons (.obox (.cons (.v (.int .i64)) (.cons (.v (.int .i64)) (.cons (.v (.int .i64)) (.cons (.rowr 4) (.cons (.v (.int .i64)) (.cons (.v .str) (.cons (.v .bool) (.cons (.v (.int .i64)) (.cons (.v (.int .i64)) (.cons (.v (.int .i64)) (.cons (.v (.int .i64)) .nilL)))))))))))) (.cons (.orow 3 (.int .i64)) .nilL))))), [1, 2, 5, 4], (.cons (.boxr 0 0) (.cons (.boxr 1 0) (.cons (.boxr 3 0) (.cons (.v (.sl .node)) .nilL))))⟩
def ref52_Decode.l2006 (k : Nat) : Nat → Int → Int → Int → ByteArray → (List Nd) → Int → Int → Int → Int → ByteArray → Bool → Int → Int → Int → Int → (List Int) → Int → Int → Int → Int → ByteArray → Bool → Int → Int → Int → Int → (List Int) → (List Nd) → Int → Option (Int × Int × Int × ByteArray × List Nd × Int × Int × Int × Int × ByteArray × Bool × Int × Int × Int × Int × List Int × Int × Int × Int × Int × ByteArray × Bool × Int × Int × Int × Int × List Int × List Nd)
  | 0, _, _, _, _, _, _, _, _, _, _, _, _, _, _, _, _, _, _, _, _, _, _, _, _, _, _, _, _, _ => none
  | q + 1, x0, x1, x2, x3, x4, x5, x6, x7, x8, x9, x10, x11, x12, x13, x14, x15, x16, x17, x18, x19, x20, x21, x22, x23, x24, x25, x26, x27, x28 =>
    cond (inB 3 x27.length)
    (cond (decide (x28 < (((rdL .node x27 3).kids).length : Int)))
      (cond (inB 3 x27.length)
        (cond (inB x28 ((rdL .node x27 3).kids).length)
          ((ref52_integer.f k ((rdL .node ((rdL .node x27 3).kids) x28).tag) ((rdL .node ((rdL .node x27 3).kids) x28).kind) ((rdL .node ((rdL .node x27 3).kids) x28).n) ((rdL .node ((rdL .node x27 3).kids) x28).s) ((rdL .node ((rdL .node x27 3).kids) x28).kids)).bind fun y7 =>
            cond (fits (x26.length + 1) 8)
            (ref52_Decode.l2006 k q x0 x1 x2 x3 x4 x5 x6 x7 x8 x9 x10 x11 x12 x13 x14 x15 x16 x17 x18 x19 x20 x21 x22 x23 x24 x25 (x26 ++ [y7]) x27 (IntKind.wrap .i64 (x28 + 1)))
            (none))
          (none))
        (none))
      (some (x0, x1, x2, x3, x4, x5, x6, x7, x8, x9, x10, x11, x12, x13, x14, x15, x16, x17, x18, x19, x20, x21, x22, x23, x24, x25, x26, x27)))
    (none)
abbrev ref52_Decode.l2006.pc (k : Nat) : Pc := .one ref52_Decode.l2006.A (.exit 0) ref52_Decode.l2006.R0 (Int × Int × Int × ByteArray × List Nd × Int × Int × Int × Int × ByteArray × Bool × Int × Int × Int × Int × List Int × Int × Int × Int × Int × ByteArray × Bool × Int × Int × Int × Int × List Int × List Nd) (fun x => ref52_Decode.l2006 k k x.1.1.1 x.1.1.2.1 x.1.1.2.2.1 x.1.1.2.2.2.1 x.1.1.2.2.2.2.1 x.1.2.1.1 x.1.2.1.2.1 x.1.2.1.2.2.1 x.1.2.1.2.2.2.2.1 x.1.2.1.2.2.2.2.2.1 x.1.2.1.2.2.2.2.2.2.1 x.1.2.1.2.2.2.2.2.2.2.1 x.1.2.1.2.2.2.2.2.2.2.2.1 x.1.2.1.2.2.2.2.2.2.2.2.2.1 x.1.2.1.2.2.2.2.2.2.2.2.2.2.1 x.1.2.2.1 x.1.2.2.2.1.1 x.1.2.2.2.1.2.1 x.1.2.2.2.1.2.2.1 x.1.2.2.2.1.2.2.2.2.1 x.1.2.2.2.1.2.2.2.2.2.1 x.1.2.2.2.1.2.2.2.2.2.2.1 x.1.2.2.2.1.2.2.2.2.2.2.2.1 x.1.2.2.2.1.2.2.2.2.2.2.2.2.1 x.1.2.2.2.1.2.2.2.2.2.2.2.2.2.1 x.1.2.2.2.1.2.2.2.2.2.2.2.2.2.2.1 x.1.2.2.2.2.1 x.2.2.2.2.1 x.2.2.2.2.2.1) (fun y => (((y.1, y.2.1, y.2.2.1, y.2.2.2.1, y.2.2.2.2.1, ()), (y.2.2.2.2.2.1, y.2.2.2.2.2.2.1, y.2.2.2.2.2.2.2.1, (), y.2.2.2.2.2.2.2.2.1, y.2.2.2.2.2.2.2.2.2.1, y.2.2.2.2.2.2.2.2.2.2.1, y.2.2.2.2.2.2.2.2.2.2.2.1, y.2.2.2.2.2.2.2.2.2.2.2.2.1, y.2.2.2.2.2.2.2.2.2.2.2.2.2.1, y.2.2.2.2.2.2.2.2.2.2.2.2.2.2.1, ()), y.2.2.2.2.2.2.2.2.2.2.2.2.2.2.2.1, (y.2.2.2.2.2.2.2.2.2.2.2.2.2.2.2.2.1, y.2.2.2.2.2.2.2.2.2.2.2.2.2.2.2.2.2.1, y.2.2.2.2.2.2.2.2.2.2.2.2.2.2.2.2.2.2.1, (), y.2.2.2.2.2.2.2.2.2.2.2.2.2.2.2.2.2.2.2.1, y.2.2.2.2.2.2.2.2.2.2.2.2.2.2.2.2.2.2.2.2.1, y.2.2.2.2.2.2.2.2.2.2.2.2.2.2.2.2.2.2.2.2.2.1, y.2.2.2.2.2.2.2.2.2.2.2.2.2.2.2.2.2.2.2.2.2.2.1, y.2.2.2.2.2.2.2.2.2.2.2.2.2.2.2.2.2.2.2.2.2.2.2.1, y.2.2.2.2.2.2.2.2.2.2.2.2.2.2.2.2.2.2.2.2.2.2.2.2.1, y.2.2.2.2.2.2.2.2.2.2.2.2.2.2.2.2.2.2.2.2.2.2.2.2.2.1, ()), y.2.2.2.2.2.2.2.2.2.2.2.2.2.2.2.2.2.2.2.2.2.2.2.2.2.2.1, ()), ((), (), (), y.2.2.2.2.2.2.2.2.2.2.2.2.2.2.2.2.2.2.2.2.2.2.2.2.2.2.2, ())))
abbrev ref52_Decode.j62.A : Sig := ⟨114, [.slot 1, .slot 2, .cell 1 3, .slot 5, .cell 3 3], (.cons (.obox (.cons (.v (.int .i64)) (.cons (.v (.int .i64)) (.cons (.v (.int .i64)) (.cons (.v .str) (.cons (.v (.sl .node)) .nilL)))))) (.cons (.obox (.cons (.v (.int .i64)) (.cons (.v (.int .i64)) (.cons (.v (.int .i64)) (.cons (.rowr 2) (.cons (.v (.int .i64)) (.cons (.v .str) (.cons (.v .bool) (.cons (.v (.int .i64)) (.cons (.v (.int .i64)) (.cons (.v (.int .i64)) (.cons (.v (.int .i64)) .nilL)))))))))))) (.cons (.orow 3 (.int .i64)) (.cons (.obox (.cons (.v (.int .i64)) (.cons (.v (.int .i64)) (.cons (.v (.int .i64)) (.cons (.rowr 4) (.cons (.v (.int .i64)) (.cons (.v .str) (.cons (.v .bool) (.cons (.v (.int .i64)) (.cons (.v (.int .i64)) (.cons (.v (.int .i64)) (.cons (.v (.int .i64)) .nilL)))))))))))) (.cons (.orow 3 (.int .i64)) .nilL))))), [1, 2, 5, 4], (.cons (.boxr 0 0) (.cons (.boxr 1 0) (.cons (.boxr 3 0) (.cons (.v (.sl .node)) .nilL))))⟩
abbrev ref52_Decode.j62.R0 : Sig := ⟨114, [.slot 1, .slot 2, .cell 1 3, .slot 5, .cell 3 3], (.cons (.obox (.cons (.v (.int .i64)) (.cons (.v (.int .i64)) (.cons (.v (.int .i64)) (.cons (.v .str) (.cons (.v (.sl .node)) .nilL)))))) (.cons (.obox (.cons (.v (.int .i64)) (.cons (.v (.int .i64)) (.cons (.v (.int .i64)) (.cons (.rowr 2) (.cons (.v (.int .i64)) (.cons (.v .str) (.cons (.v .bool) (.cons (.v (.int .i64)) (.cons (.v (.int .i64)) (.cons (.v (.int .i64)) (.cons (.v (.int .i64)) .nilL)))))))))))) (.cons (.orow 3 (.int .i64)) (.cons (.obox (.cons (.v (.int .i64)) (.cons (.v (.int .i64)) (.cons (.v (.int .i64)) (.cons (.rowr 4) (.cons (.v (.int .i64)) (.cons (.v .str) (.cons (.v .bool) (.cons (.v (.int .i64)) (.cons (.v (.int .i64)) (.cons (.v (.int .i64)) (.cons (.v (.int .i64)) .nilL)))))))))))) (.cons (.orow 3 (.int .i64)) .nilL))))), [1, 2, 5, 4], (.cons (.boxr 0 0) (.cons (.boxr 1 0) (.cons (.boxr 3 0) (.cons (.v (.sl .node)) .nilL))))⟩
def ref52_Decode.j62 (k : Nat) (x0 : Int) (x1 : Int) (x2 : Int) (x3 : ByteArray) (x4 : List Nd) (x5 : Int) (x6 : Int) (x7 : Int) (x8 : Int) (x9 : ByteArray) (x10 : Bool) (x11 : Int) (x12 : Int) (x13 : Int) (x14 : Int) (x15 : List Int) (x16 : Int) (x17 : Int) (x18 : Int) (x19 : Int) (x20 : ByteArray) (x21 : Bool) (x22 : Int) (x23 : Int) (x24 : Int) (x25 : Int) (x26 : List Int) (x27 : List Nd) : Option (Int × Int × Int × ByteArray × List Nd × Int × Int × Int × Int × ByteArray × Bool × Int × Int × Int × Int × List Int × Int × Int × Int × Int × ByteArray × Bool × Int × Int × Int × Int × List Int × List Nd) :=
  Option.bind (cond (x16 == 2)
    (some ((x27.length : Int) == 7))
    (some false)) fun (c9 : Bool) =>
  cond c9
  (cond (inB 2 x27.length)
    ((ref52_integer.f k ((rdL .node x27 2).tag) ((rdL .node x27 2).kind) ((rdL .node x27 2).n) ((rdL .node x27 2).s) ((rdL .node x27 2).kids)).bind fun y10 =>
      cond (inB 4 x27.length)
      ((ref52_integer.f k ((rdL .node x27 4).tag) ((rdL .node x27 4).kind) ((rdL .node x27 4).n) ((rdL .node x27 4).s) ((rdL .node x27 4).kids)).bind fun y11 =>
        cond (inB 5 x27.length)
        (cond (inB 6 x27.length)
          ((ref52_Decode.l2006 k k x0 x1 x2 x3 x4 x5 x6 x7 x8 x9 x10 x11 x12 x13 x14 x15 x16 x17 y10 y11 ((rdL .node x27 5).s) ((rdL .node x27 6).n == 1) x22 x23 x24 x25 ([] : List Int) x27 0).bind fun y12 =>
            some (y12.1, y12.2.1, y12.2.2.1, y12.2.2.2.1, y12.2.2.2.2.1, y12.2.2.2.2.2.1, y12.2.2.2.2.2.2.1, y12.2.2.2.2.2.2.2.1, y12.2.2.2.2.2.2.2.2.1, y12.2.2.2.2.2.2.2.2.2.1, y12.2.2.2.2.2.2.2.2.2.2.1, y12.2.2.2.2.2.2.2.2.2.2.2.1, y12.2.2.2.2.2.2.2.2.2.2.2.2.1, y12.2.2.2.2.2.2.2.2.2.2.2.2.2.1, y12.2.2.2.2.2.2.2.2.2.2.2.2.2.2.1, y12.2.2.2.2.2.2.2.2.2.2.2.2.2.2.2.1, y12.2.2.2.2.2.2.2.2.2.2.2.2.2.2.2.2.1, y12.2.2.2.2.2.2.2.2.2.2.2.2.2.2.2.2.2.1, y12.2.2.2.2.2.2.2.2.2.2.2.2.2.2.2.2.2.2.1, y12.2.2.2.2.2.2.2.2.2.2.2.2.2.2.2.2.2.2.2.1, y12.2.2.2.2.2.2.2.2.2.2.2.2.2.2.2.2.2.2.2.2.1, y12.2.2.2.2.2.2.2.2.2.2.2.2.2.2.2.2.2.2.2.2.2.1, y12.2.2.2.2.2.2.2.2.2.2.2.2.2.2.2.2.2.2.2.2.2.2.1, y12.2.2.2.2.2.2.2.2.2.2.2.2.2.2.2.2.2.2.2.2.2.2.2.1, y12.2.2.2.2.2.2.2.2.2.2.2.2.2.2.2.2.2.2.2.2.2.2.2.2.1, y12.2.2.2.2.2.2.2.2.2.2.2.2.2.2.2.2.2.2.2.2.2.2.2.2.2.1, y12.2.2.2.2.2.2.2.2.2.2.2.2.2.2.2.2.2.2.2.2.2.2.2.2.2.2.1, y12.2.2.2.2.2.2.2.2.2.2.2.2.2.2.2.2.2.2.2.2.2.2.2.2.2.2.2))
          (none))
        (none))
      (none))
    (none))
  (some (x0, x1, x2, x3, x4, x5, x6, x7, x8, x9, x10, x11, x12, x13, x14, x15, x16, x17, x18, x19, x20, x21, x22, x23, x24, x25, x26, x27))
abbrev ref52_Decode.j62.pc (k : Nat) : Pc := .one ref52_Decode.j62.A .normal ref52_Decode.j62.R0 (Int × Int × Int × ByteArray × List Nd × Int × Int × Int × Int × ByteArray × Bool × Int × Int × Int × Int × List Int × Int × Int × Int × Int × ByteArray × Bool × Int × Int × Int × Int × List Int × List Nd) (fun x => ref52_Decode.j62 k x.1.1.1 x.1.1.2.1 x.1.1.2.2.1 x.1.1.2.2.2.1 x.1.1.2.2.2.2.1 x.1.2.1.1 x.1.2.1.2.1 x.1.2.1.2.2.1 x.1.2.1.2.2.2.2.1 x.1.2.1.2.2.2.2.2.1 x.1.2.1.2.2.2.2.2.2.1 x.1.2.1.2.2.2.2.2.2.2.1 x.1.2.1.2.2.2.2.2.2.2.2.1 x.1.2.1.2.2.2.2.2.2.2.2.2.1 x.1.2.1.2.2.2.2.2.2.2.2.2.2.1 x.1.2.2.1 x.1.2.2.2.1.1 x.1.2.2.2.1.2.1 x.1.2.2.2.1.2.2.1 x.1.2.2.2.1.2.2.2.2.1 x.1.2.2.2.1.2.2.2.2.2.1 x.1.2.2.2.1.2.2.2.2.2.2.1 x.1.2.2.2.1.2.2.2.2.2.2.2.1 x.1.2.2.2.1.2.2.2.2.2.2.2.2.1 x.1.2.2.2.1.2.2.2.2.2.2.2.2.2.1 x.1.2.2.2.1.2.2.2.2.2.2.2.2.2.2.1 x.1.2.2.2.2.1 x.2.2.2.2.1) (fun y => (((y.1, y.2.1, y.2.2.1, y.2.2.2.1, y.2.2.2.2.1, ()), (y.2.2.2.2.2.1, y.2.2.2.2.2.2.1, y.2.2.2.2.2.2.2.1, (), y.2.2.2.2.2.2.2.2.1, y.2.2.2.2.2.2.2.2.2.1, y.2.2.2.2.2.2.2.2.2.2.1, y.2.2.2.2.2.2.2.2.2.2.2.1, y.2.2.2.2.2.2.2.2.2.2.2.2.1, y.2.2.2.2.2.2.2.2.2.2.2.2.2.1, y.2.2.2.2.2.2.2.2.2.2.2.2.2.2.1, ()), y.2.2.2.2.2.2.2.2.2.2.2.2.2.2.2.1, (y.2.2.2.2.2.2.2.2.2.2.2.2.2.2.2.2.1, y.2.2.2.2.2.2.2.2.2.2.2.2.2.2.2.2.2.1, y.2.2.2.2.2.2.2.2.2.2.2.2.2.2.2.2.2.2.1, (), y.2.2.2.2.2.2.2.2.2.2.2.2.2.2.2.2.2.2.2.1, y.2.2.2.2.2.2.2.2.2.2.2.2.2.2.2.2.2.2.2.2.1, y.2.2.2.2.2.2.2.2.2.2.2.2.2.2.2.2.2.2.2.2.2.1, y.2.2.2.2.2.2.2.2.2.2.2.2.2.2.2.2.2.2.2.2.2.2.1, y.2.2.2.2.2.2.2.2.2.2.2.2.2.2.2.2.2.2.2.2.2.2.2.1, y.2.2.2.2.2.2.2.2.2.2.2.2.2.2.2.2.2.2.2.2.2.2.2.2.1, y.2.2.2.2.2.2.2.2.2.2.2.2.2.2.2.2.2.2.2.2.2.2.2.2.2.1, ()), y.2.2.2.2.2.2.2.2.2.2.2.2.2.2.2.2.2.2.2.2.2.2.2.2.2.2.1, ()), ((), (), (), y.2.2.2.2.2.2.2.2.2.2.2.2.2.2.2.2.2.2.2.2.2.2.2.2.2.2.2, ())))
abbrev ref52_Decode.j126.A : Sig := ⟨114, [.slot 1, .slot 2, .cell 1 3, .slot 5, .cell 3 3], (.cons (.obox (.cons (.v (.int .i64)) (.cons (.v (.int .i64)) (.cons (.v (.int .i64)) (.cons (.v .str) (.cons (.v (.sl .node)) .nilL)))))) (.cons (.obox (.cons (.v (.int .i64)) (.cons (.v (.int .i64)) (.cons (.v (.int .i64)) (.cons (.rowr 2) (.cons (.v (.int .i64)) (.cons (.v .str) (.cons (.v .bool) (.cons (.v (.int .i64)) (.cons (.v (.int .i64)) (.cons (.v (.int .i64)) (.cons (.v (.int .i64)) .nilL)))))))))))) (.cons (.orow 3 (.int .i64)) (.cons (.obox (.cons (.v (.int .i64)) (.cons (.v (.int .i64)) (.cons (.v (.int .i64)) (.cons (.rowr 4) (.cons (.v (.int .i64)) (.cons (.v .str) (.cons (.v .bool) (.cons (.v (.int .i64)) (.cons (.v (.int .i64)) (.cons (.v (.int .i64)) (.cons (.v (.int .i64)) .nilL)))))))))))) (.cons (.orow 3 (.int .i64)) .nilL))))), [1, 2, 5, 4], (.cons (.boxr 0 0) (.cons (.boxr 1 0) (.cons (.boxr 3 0) (.cons (.v (.sl .node)) .nilL))))⟩
abbrev ref52_Decode.j126.R0 : Sig := ⟨114, [.slot 1, .slot 2, .cell 1 3, .slot 5, .cell 3 3], (.cons (.obox (.cons (.v (.int .i64)) (.cons (.v (.int .i64)) (.cons (.v (.int .i64)) (.cons (.v .str) (.cons (.v (.sl .node)) .nilL)))))) (.cons (.obox (.cons (.v (.int .i64)) (.cons (.v (.int .i64)) (.cons (.v (.int .i64)) (.cons (.rowr 2) (.cons (.v (.int .i64)) (.cons (.v .str) (.cons (.v .bool) (.cons (.v (.int .i64)) (.cons (.v (.int .i64)) (.cons (.v (.int .i64)) (.cons (.v (.int .i64)) .nilL)))))))))))) (.cons (.orow 3 (.int .i64)) (.cons (.obox (.cons (.v (.int .i64)) (.cons (.v (.int .i64)) (.cons (.v (.int .i64)) (.cons (.rowr 4) (.cons (.v (.int .i64)) (.cons (.v .str) (.cons (.v .bool) (.cons (.v (.int .i64)) (.cons (.v (.int .i64)) (.cons (.v (.int .i64)) (.cons (.v (.int .i64)) .nilL)))))))))))) (.cons (.orow 3 (.int .i64)) .nilL))))), [1, 2, 5], (.cons (.boxr 0 0) (.cons (.boxr 1 0) (.cons (.boxr 3 0) .nilL)))⟩
def ref52_Decode.j126 (k : Nat) (x0 : Int) (x1 : Int) (x2 : Int) (x3 : ByteArray) (x4 : List Nd) (x5 : Int) (x6 : Int) (x7 : Int) (x8 : Int) (x9 : ByteArray) (x10 : Bool) (x11 : Int) (x12 : Int) (x13 : Int) (x14 : Int) (x15 : List Int) (x16 : Int) (x17 : Int) (x18 : Int) (x19 : Int) (x20 : ByteArray) (x21 : Bool) (x22 : Int) (x23 : Int) (x24 : Int) (x25 : Int) (x26 : List Int) (x27 : List Nd) : Option (Int × Int × Int × ByteArray × List Nd × Int × Int × Int × Int × ByteArray × Bool × Int × Int × Int × Int × List Int × Int × Int × Int × Int × ByteArray × Bool × Int × Int × Int × Int × List Int) :=
  Option.bind (cond (x16 == 5)
    (some ((x27.length : Int) == 5))
    (some false)) fun (c18 : Bool) =>
  cond c18
  (cond (inB 2 x27.length)
    ((ref52_integer.f k ((rdL .node x27 2).tag) ((rdL .node x27 2).kind) ((rdL .node x27 2).n) ((rdL .node x27 2).s) ((rdL .node x27 2).kids)).bind fun y19 =>
      cond (inB 3 x27.length)
      ((ref52_integer.f k ((rdL .node x27 3).tag) ((rdL .node x27 3).kind) ((rdL .node x27 3).n) ((rdL .node x27 3).s) ((rdL .node x27 3).kids)).bind fun y20 =>
        cond (inB 4 x27.length)
        ((ref52_integer.f k ((rdL .node x27 4).tag) ((rdL .node x27 4).kind) ((rdL .node x27 4).n) ((rdL .node x27 4).s) ((rdL .node x27 4).kids)).bind fun y21 =>
          some (x0, x1, x2, x3, x4, x5, x6, x7, x8, x9, x10, x11, x12, x13, x14, x15, x16, x17, x18, x19, x20, x21, y19, x17, y20, y21, x26))
        (none))
      (none))
    (none))
  (some (x0, x1, x2, x3, x4, x5, x6, x7, x8, x9, x10, x11, x12, x13, x14, x15, x16, x17, x18, x19, x20, x21, x22, x23, x24, x25, x26))
abbrev ref52_Decode.j126.pc (k : Nat) : Pc := .one ref52_Decode.j126.A .normal ref52_Decode.j126.R0 (Int × Int × Int × ByteArray × List Nd × Int × Int × Int × Int × ByteArray × Bool × Int × Int × Int × Int × List Int × Int × Int × Int × Int × ByteArray × Bool × Int × Int × Int × Int × List Int) (fun x => ref52_Decode.j126 k x.1.1.1 x.1.1.2.1 x.1.1.2.2.1 x.1.1.2.2.2.1 x.1.1.2.2.2.2.1 x.1.2.1.1 x.1.2.1.2.1 x.1.2.1.2.2.1 x.1.2.1.2.2.2.2.1 x.1.2.1.2.2.2.2.2.1 x.1.2.1.2.2.2.2.2.2.1 x.1.2.1.2.2.2.2.2.2.2.1 x.1.2.1.2.2.2.2.2.2.2.2.1 x.1.2.1.2.2.2.2.2.2.2.2.2.1 x.1.2.1.2.2.2.2.2.2.2.2.2.2.1 x.1.2.2.1 x.1.2.2.2.1.1 x.1.2.2.2.1.2.1 x.1.2.2.2.1.2.2.1 x.1.2.2.2.1.2.2.2.2.1 x.1.2.2.2.1.2.2.2.2.2.1 x.1.2.2.2.1.2.2.2.2.2.2.1 x.1.2.2.2.1.2.2.2.2.2.2.2.1 x.1.2.2.2.1.2.2.2.2.2.2.2.2.1 x.1.2.2.2.1.2.2.2.2.2.2.2.2.2.1 x.1.2.2.2.1.2.2.2.2.2.2.2.2.2.2.1 x.1.2.2.2.2.1 x.2.2.2.2.1) (fun y => (((y.1, y.2.1, y.2.2.1, y.2.2.2.1, y.2.2.2.2.1, ()), (y.2.2.2.2.2.1, y.2.2.2.2.2.2.1, y.2.2.2.2.2.2.2.1, (), y.2.2.2.2.2.2.2.2.1, y.2.2.2.2.2.2.2.2.2.1, y.2.2.2.2.2.2.2.2.2.2.1, y.2.2.2.2.2.2.2.2.2.2.2.1, y.2.2.2.2.2.2.2.2.2.2.2.2.1, y.2.2.2.2.2.2.2.2.2.2.2.2.2.1, y.2.2.2.2.2.2.2.2.2.2.2.2.2.2.1, ()), y.2.2.2.2.2.2.2.2.2.2.2.2.2.2.2.1, (y.2.2.2.2.2.2.2.2.2.2.2.2.2.2.2.2.1, y.2.2.2.2.2.2.2.2.2.2.2.2.2.2.2.2.2.1, y.2.2.2.2.2.2.2.2.2.2.2.2.2.2.2.2.2.2.1, (), y.2.2.2.2.2.2.2.2.2.2.2.2.2.2.2.2.2.2.2.1, y.2.2.2.2.2.2.2.2.2.2.2.2.2.2.2.2.2.2.2.2.1, y.2.2.2.2.2.2.2.2.2.2.2.2.2.2.2.2.2.2.2.2.2.1, y.2.2.2.2.2.2.2.2.2.2.2.2.2.2.2.2.2.2.2.2.2.2.1, y.2.2.2.2.2.2.2.2.2.2.2.2.2.2.2.2.2.2.2.2.2.2.2.1, y.2.2.2.2.2.2.2.2.2.2.2.2.2.2.2.2.2.2.2.2.2.2.2.2.1, y.2.2.2.2.2.2.2.2.2.2.2.2.2.2.2.2.2.2.2.2.2.2.2.2.2.1, ()), y.2.2.2.2.2.2.2.2.2.2.2.2.2.2.2.2.2.2.2.2.2.2.2.2.2.2, ()), ((), (), (), ())))
def ref52_Decode.f (k : Nat) (a0 : Int) (a1 : Int) (a2 : Int) (a3 : ByteArray) (a4 : List Nd) : Option (Int × Int × Int × List Int × Int × ByteArray × Bool × Int × Int × Int × Int × Int) :=
  cond (decide ((a4.length : Int) < 2))
  (some (0, 0, 0, ([] : List Int), 0, (⟨#[]⟩ : ByteArray), false, 0, 0, 0, 0, 2))
  (cond (inB 0 a4.length)
    ((ref52_integer.f k ((rdL .node a4 0).tag) ((rdL .node a4 0).kind) ((rdL .node a4 0).n) ((rdL .node a4 0).s) ((rdL .node a4 0).kids)).bind fun y1 =>
      cond (inB 1 a4.length)
      ((ref52_integer.f k ((rdL .node a4 1).tag) ((rdL .node a4 1).kind) ((rdL .node a4 1).n) ((rdL .node a4 1).s) ((rdL .node a4 1).kids)).bind fun y2 =>
        (ref52_Decode.j62 k a0 a1 a2 a3 a4 0 0 0 0 (⟨#[]⟩ : ByteArray) false 0 0 0 0 ([] : List Int) y1 y2 0 0 (⟨#[]⟩ : ByteArray) false 0 0 0 0 ([] : List Int) a4).bind fun y13 =>
        (ref52_Decode.j126 k y13.1 y13.2.1 y13.2.2.1 y13.2.2.2.1 y13.2.2.2.2.1 y13.2.2.2.2.2.1 y13.2.2.2.2.2.2.1 y13.2.2.2.2.2.2.2.1 y13.2.2.2.2.2.2.2.2.1 y13.2.2.2.2.2.2.2.2.2.1 y13.2.2.2.2.2.2.2.2.2.2.1 y13.2.2.2.2.2.2.2.2.2.2.2.1 y13.2.2.2.2.2.2.2.2.2.2.2.2.1 y13.2.2.2.2.2.2.2.2.2.2.2.2.2.1 y13.2.2.2.2.2.2.2.2.2.2.2.2.2.2.1 y13.2.2.2.2.2.2.2.2.2.2.2.2.2.2.2.1 y13.2.2.2.2.2.2.2.2.2.2.2.2.2.2.2.2.1 y13.2.2.2.2.2.2.2.2.2.2.2.2.2.2.2.2.2.1 y13.2.2.2.2.2.2.2.2.2.2.2.2.2.2.2.2.2.2.1 y13.2.2.2.2.2.2.2.2.2.2.2.2.2.2.2.2.2.2.2.1 y13.2.2.2.2.2.2.2.2.2.2.2.2.2.2.2.2.2.2.2.2.1 y13.2.2.2.2.2.2.2.2.2.2.2.2.2.2.2.2.2.2.2.2.2.1 y13.2.2.2.2.2.2.2.2.2.2.2.2.2.2.2.2.2.2.2.2.2.2.1 y13.2.2.2.2.2.2.2.2.2.2.2.2.2.2.2.2.2.2.2.2.2.2.2.1 y13.2.2.2.2.2.2.2.2.2.2.2.2.2.2.2.2.2.2.2.2.2.2.2.2.1 y13.2.2.2.2.2.2.2.2.2.2.2.2.2.2.2.2.2.2.2.2.2.2.2.2.2.1 y13.2.2.2.2.2.2.2.2.2.2.2.2.2.2.2.2.2.2.2.2.2.2.2.2.2.2.1 y13.2.2.2.2.2.2.2.2.2.2.2.2.2.2.2.2.2.2.2.2.2.2.2.2.2.2.2).bind fun y22 =>
        (ref52_Encode.f k y22.2.2.2.2.2.2.2.2.2.2.2.2.2.2.2.2.1 y22.2.2.2.2.2.2.2.2.2.2.2.2.2.2.2.2.2.1 y22.2.2.2.2.2.2.2.2.2.2.2.2.2.2.2.2.2.2.1 y22.2.2.2.2.2.2.2.2.2.2.2.2.2.2.2.2.2.2.2.2.2.2.2.2.2.2 y22.2.2.2.2.2.2.2.2.2.2.2.2.2.2.2.2.2.2.2.1 y22.2.2.2.2.2.2.2.2.2.2.2.2.2.2.2.2.2.2.2.2.1 y22.2.2.2.2.2.2.2.2.2.2.2.2.2.2.2.2.2.2.2.2.2.1 y22.2.2.2.2.2.2.2.2.2.2.2.2.2.2.2.2.2.2.2.2.2.2.1 y22.2.2.2.2.2.2.2.2.2.2.2.2.2.2.2.2.2.2.2.2.2.2.2.1 y22.2.2.2.2.2.2.2.2.2.2.2.2.2.2.2.2.2.2.2.2.2.2.2.2.1 y22.2.2.2.2.2.2.2.2.2.2.2.2.2.2.2.2.2.2.2.2.2.2.2.2.2.1).bind fun y23 =>
        Option.bind (cond (y23.2.2.2.2.2 != 0)
          (some true)
          ((ref10_Equal.f k y23.1 y23.2.1 y23.2.2.1 y23.2.2.2.1 y23.2.2.2.2.1 y22.1 y22.2.1 y22.2.2.1 y22.2.2.2.1 y22.2.2.2.2.1).bind fun y24 =>
            some (!y24))) fun (c25 : Bool) =>
        cond c25
        (some (0, 0, 0, ([] : List Int), 0, (⟨#[]⟩ : ByteArray), false, 0, 0, 0, 0, 2))
        (some (y22.2.2.2.2.2.2.2.2.2.2.2.2.2.2.2.2.1, y22.2.2.2.2.2.2.2.2.2.2.2.2.2.2.2.2.2.1, y22.2.2.2.2.2.2.2.2.2.2.2.2.2.2.2.2.2.2.1, y22.2.2.2.2.2.2.2.2.2.2.2.2.2.2.2.2.2.2.2.2.2.2.2.2.2.2, y22.2.2.2.2.2.2.2.2.2.2.2.2.2.2.2.2.2.2.2.1, y22.2.2.2.2.2.2.2.2.2.2.2.2.2.2.2.2.2.2.2.2.1, y22.2.2.2.2.2.2.2.2.2.2.2.2.2.2.2.2.2.2.2.2.2.1, y22.2.2.2.2.2.2.2.2.2.2.2.2.2.2.2.2.2.2.2.2.2.2.1, y22.2.2.2.2.2.2.2.2.2.2.2.2.2.2.2.2.2.2.2.2.2.2.2.1, y22.2.2.2.2.2.2.2.2.2.2.2.2.2.2.2.2.2.2.2.2.2.2.2.2.1, y22.2.2.2.2.2.2.2.2.2.2.2.2.2.2.2.2.2.2.2.2.2.2.2.2.2.1, 0)))
      (none))
    (none))
abbrev ref52_Decode.E (k : Nat) : Ent := ⟨ref52_Decode.A, ref52_Decode.R, Int × Int × Int × List Int × Int × ByteArray × Bool × Int × Int × Int × Int × Int, fun x => ref52_Decode.f k x.2.1.1 x.2.1.2.1 x.2.1.2.2.1 x.2.1.2.2.2.1 x.2.1.2.2.2.2.1, fun y => ((), (((y.1, y.2.1, y.2.2.1, y.2.2.2.1, y.2.2.2.2.1, y.2.2.2.2.2.1, y.2.2.2.2.2.2.1, y.2.2.2.2.2.2.2.1, y.2.2.2.2.2.2.2.2.1, y.2.2.2.2.2.2.2.2.2.1, y.2.2.2.2.2.2.2.2.2.2.1, ()), y.2.2.2.2.2.2.2.2.2.2.2, ()), ()))⟩
noncomputable abbrev ref52_Decode.C (k : Nat) : Cfg := ⟨Try.prog, shs, look [(15, ref10_Equal.E k), (14, ref52_Encode.E k), (13, ref52_integer.E k)], look [(2006, ref52_Decode.l2006.pc k), (62, ref52_Decode.j62.pc k), (126, ref52_Decode.j126.pc k)]⟩
theorem ref52_Decode.l2006.ev (k q : Nat) (x : ref52_Decode.l2006.A.V) : ((codeAt 60 (bodyOf (Try.f7)) 2006).bind fun c => (loopOf c).bind fun c1 => evL1 (ref52_Decode.C k) c1 2006 ref52_Decode.l2006.A (.exit 0) ref52_Decode.l2006.R0 (Int × Int × Int × ByteArray × List Nd × Int × Int × Int × Int × ByteArray × Bool × Int × Int × Int × Int × List Int × Int × Int × Int × Int × ByteArray × Bool × Int × Int × Int × Int × List Int × List Nd) (fun x => (x.1.1.1, x.1.1.2.1, x.1.1.2.2.1, x.1.1.2.2.2.1, x.1.1.2.2.2.2.1, x.1.2.1.1, x.1.2.1.2.1, x.1.2.1.2.2.1, x.1.2.1.2.2.2.2.1, x.1.2.1.2.2.2.2.2.1, x.1.2.1.2.2.2.2.2.2.1, x.1.2.1.2.2.2.2.2.2.2.1, x.1.2.1.2.2.2.2.2.2.2.2.1, x.1.2.1.2.2.2.2.2.2.2.2.2.1, x.1.2.1.2.2.2.2.2.2.2.2.2.2.1, x.1.2.2.1, x.1.2.2.2.1.1, x.1.2.2.2.1.2.1, x.1.2.2.2.1.2.2.1, x.1.2.2.2.1.2.2.2.2.1, x.1.2.2.2.1.2.2.2.2.2.1, x.1.2.2.2.1.2.2.2.2.2.2.1, x.1.2.2.2.1.2.2.2.2.2.2.2.1, x.1.2.2.2.1.2.2.2.2.2.2.2.2.1, x.1.2.2.2.1.2.2.2.2.2.2.2.2.2.1, x.1.2.2.2.1.2.2.2.2.2.2.2.2.2.2.1, x.1.2.2.2.2.1, x.2.2.2.2.1)) (fun x => ref52_Decode.l2006 k q x.1.1.1 x.1.1.2.1 x.1.1.2.2.1 x.1.1.2.2.2.1 x.1.1.2.2.2.2.1 x.1.2.1.1 x.1.2.1.2.1 x.1.2.1.2.2.1 x.1.2.1.2.2.2.2.1 x.1.2.1.2.2.2.2.2.1 x.1.2.1.2.2.2.2.2.2.1 x.1.2.1.2.2.2.2.2.2.2.1 x.1.2.1.2.2.2.2.2.2.2.2.1 x.1.2.1.2.2.2.2.2.2.2.2.2.1 x.1.2.1.2.2.2.2.2.2.2.2.2.2.1 x.1.2.2.1 x.1.2.2.2.1.1 x.1.2.2.2.1.2.1 x.1.2.2.2.1.2.2.1 x.1.2.2.2.1.2.2.2.2.1 x.1.2.2.2.1.2.2.2.2.2.1 x.1.2.2.2.1.2.2.2.2.2.2.1 x.1.2.2.2.1.2.2.2.2.2.2.2.1 x.1.2.2.2.1.2.2.2.2.2.2.2.2.1 x.1.2.2.2.1.2.2.2.2.2.2.2.2.2.1 x.1.2.2.2.1.2.2.2.2.2.2.2.2.2.2.1 x.1.2.2.2.2.1 x.2.2.2.2.1 x.2.2.2.2.2.1) x) = ref52_Decode.l2006 k (q + 1) x.1.1.1 x.1.1.2.1 x.1.1.2.2.1 x.1.1.2.2.2.1 x.1.1.2.2.2.2.1 x.1.2.1.1 x.1.2.1.2.1 x.1.2.1.2.2.1 x.1.2.1.2.2.2.2.1 x.1.2.1.2.2.2.2.2.1 x.1.2.1.2.2.2.2.2.2.1 x.1.2.1.2.2.2.2.2.2.2.1 x.1.2.1.2.2.2.2.2.2.2.2.1 x.1.2.1.2.2.2.2.2.2.2.2.2.1 x.1.2.1.2.2.2.2.2.2.2.2.2.2.1 x.1.2.2.1 x.1.2.2.2.1.1 x.1.2.2.2.1.2.1 x.1.2.2.2.1.2.2.1 x.1.2.2.2.1.2.2.2.2.1 x.1.2.2.2.1.2.2.2.2.2.1 x.1.2.2.2.1.2.2.2.2.2.2.1 x.1.2.2.2.1.2.2.2.2.2.2.2.1 x.1.2.2.2.1.2.2.2.2.2.2.2.2.1 x.1.2.2.2.1.2.2.2.2.2.2.2.2.2.1 x.1.2.2.2.1.2.2.2.2.2.2.2.2.2.2.1 x.1.2.2.2.2.1 x.2.2.2.2.1 x.2.2.2.2.2.1 := by kernel_rfl
theorem ref52_Decode.j62.ev (k : Nat) (x : ref52_Decode.j62.A.V) : ((codeAt 60 (bodyOf (Try.f7)) 62).bind fun c => evP1 (ref52_Decode.C k) c 62 ref52_Decode.j62.A .normal ref52_Decode.j62.R0 (Int × Int × Int × ByteArray × List Nd × Int × Int × Int × Int × ByteArray × Bool × Int × Int × Int × Int × List Int × Int × Int × Int × Int × ByteArray × Bool × Int × Int × Int × Int × List Int × List Nd) (fun x => (x.1.1.1, x.1.1.2.1, x.1.1.2.2.1, x.1.1.2.2.2.1, x.1.1.2.2.2.2.1, x.1.2.1.1, x.1.2.1.2.1, x.1.2.1.2.2.1, x.1.2.1.2.2.2.2.1, x.1.2.1.2.2.2.2.2.1, x.1.2.1.2.2.2.2.2.2.1, x.1.2.1.2.2.2.2.2.2.2.1, x.1.2.1.2.2.2.2.2.2.2.2.1, x.1.2.1.2.2.2.2.2.2.2.2.2.1, x.1.2.1.2.2.2.2.2.2.2.2.2.2.1, x.1.2.2.1, x.1.2.2.2.1.1, x.1.2.2.2.1.2.1, x.1.2.2.2.1.2.2.1, x.1.2.2.2.1.2.2.2.2.1, x.1.2.2.2.1.2.2.2.2.2.1, x.1.2.2.2.1.2.2.2.2.2.2.1, x.1.2.2.2.1.2.2.2.2.2.2.2.1, x.1.2.2.2.1.2.2.2.2.2.2.2.2.1, x.1.2.2.2.1.2.2.2.2.2.2.2.2.2.1, x.1.2.2.2.1.2.2.2.2.2.2.2.2.2.2.1, x.1.2.2.2.2.1, x.2.2.2.2.1)) x) = ref52_Decode.j62 k x.1.1.1 x.1.1.2.1 x.1.1.2.2.1 x.1.1.2.2.2.1 x.1.1.2.2.2.2.1 x.1.2.1.1 x.1.2.1.2.1 x.1.2.1.2.2.1 x.1.2.1.2.2.2.2.1 x.1.2.1.2.2.2.2.2.1 x.1.2.1.2.2.2.2.2.2.1 x.1.2.1.2.2.2.2.2.2.2.1 x.1.2.1.2.2.2.2.2.2.2.2.1 x.1.2.1.2.2.2.2.2.2.2.2.2.1 x.1.2.1.2.2.2.2.2.2.2.2.2.2.1 x.1.2.2.1 x.1.2.2.2.1.1 x.1.2.2.2.1.2.1 x.1.2.2.2.1.2.2.1 x.1.2.2.2.1.2.2.2.2.1 x.1.2.2.2.1.2.2.2.2.2.1 x.1.2.2.2.1.2.2.2.2.2.2.1 x.1.2.2.2.1.2.2.2.2.2.2.2.1 x.1.2.2.2.1.2.2.2.2.2.2.2.2.1 x.1.2.2.2.1.2.2.2.2.2.2.2.2.2.1 x.1.2.2.2.1.2.2.2.2.2.2.2.2.2.2.1 x.1.2.2.2.2.1 x.2.2.2.2.1 := by kernel_rfl
theorem ref52_Decode.j126.ev (k : Nat) (x : ref52_Decode.j126.A.V) : ((codeAt 60 (bodyOf (Try.f7)) 126).bind fun c => evP1 (ref52_Decode.C k) c 126 ref52_Decode.j126.A .normal ref52_Decode.j126.R0 (Int × Int × Int × ByteArray × List Nd × Int × Int × Int × Int × ByteArray × Bool × Int × Int × Int × Int × List Int × Int × Int × Int × Int × ByteArray × Bool × Int × Int × Int × Int × List Int) (fun x => (x.1.1.1, x.1.1.2.1, x.1.1.2.2.1, x.1.1.2.2.2.1, x.1.1.2.2.2.2.1, x.1.2.1.1, x.1.2.1.2.1, x.1.2.1.2.2.1, x.1.2.1.2.2.2.2.1, x.1.2.1.2.2.2.2.2.1, x.1.2.1.2.2.2.2.2.2.1, x.1.2.1.2.2.2.2.2.2.2.1, x.1.2.1.2.2.2.2.2.2.2.2.1, x.1.2.1.2.2.2.2.2.2.2.2.2.1, x.1.2.1.2.2.2.2.2.2.2.2.2.2.1, x.1.2.2.1, x.1.2.2.2.1.1, x.1.2.2.2.1.2.1, x.1.2.2.2.1.2.2.1, x.1.2.2.2.1.2.2.2.2.1, x.1.2.2.2.1.2.2.2.2.2.1, x.1.2.2.2.1.2.2.2.2.2.2.1, x.1.2.2.2.1.2.2.2.2.2.2.2.1, x.1.2.2.2.1.2.2.2.2.2.2.2.2.1, x.1.2.2.2.1.2.2.2.2.2.2.2.2.2.1, x.1.2.2.2.1.2.2.2.2.2.2.2.2.2.2.1, x.1.2.2.2.2.1)) x) = ref52_Decode.j126 k x.1.1.1 x.1.1.2.1 x.1.1.2.2.1 x.1.1.2.2.2.1 x.1.1.2.2.2.2.1 x.1.2.1.1 x.1.2.1.2.1 x.1.2.1.2.2.1 x.1.2.1.2.2.2.2.1 x.1.2.1.2.2.2.2.2.1 x.1.2.1.2.2.2.2.2.2.1 x.1.2.1.2.2.2.2.2.2.2.1 x.1.2.1.2.2.2.2.2.2.2.2.1 x.1.2.1.2.2.2.2.2.2.2.2.2.1 x.1.2.1.2.2.2.2.2.2.2.2.2.2.1 x.1.2.2.1 x.1.2.2.2.1.1 x.1.2.2.2.1.2.1 x.1.2.2.2.1.2.2.1 x.1.2.2.2.1.2.2.2.2.1 x.1.2.2.2.1.2.2.2.2.2.1 x.1.2.2.2.1.2.2.2.2.2.2.1 x.1.2.2.2.1.2.2.2.2.2.2.2.1 x.1.2.2.2.1.2.2.2.2.2.2.2.2.1 x.1.2.2.2.1.2.2.2.2.2.2.2.2.2.1 x.1.2.2.2.1.2.2.2.2.2.2.2.2.2.2.1 x.1.2.2.2.2.1 x.2.2.2.2.1 := by kernel_rfl
theorem ref52_Decode.ev (k : Nat) (x : ref52_Decode.A.V) : evF (ref52_Decode.C k) Try.f7 ref52_Decode.A ref52_Decode.R (Int × Int × Int × List Int × Int × ByteArray × Bool × Int × Int × Int × Int × Int) (fun x => (x.2.1.1.1, x.2.1.1.2.1, x.2.1.1.2.2.1, x.2.1.1.2.2.2.1, x.2.1.1.2.2.2.2.1, x.2.1.1.2.2.2.2.2.1, x.2.1.1.2.2.2.2.2.2.1, x.2.1.1.2.2.2.2.2.2.2.1, x.2.1.1.2.2.2.2.2.2.2.2.1, x.2.1.1.2.2.2.2.2.2.2.2.2.1, x.2.1.1.2.2.2.2.2.2.2.2.2.2.1, x.2.1.2.1)) x = ref52_Decode.f k x.2.1.1 x.2.1.2.1 x.2.1.2.2.1 x.2.1.2.2.2.1 x.2.1.2.2.2.2.1 := by kernel_rfl
theorem ref52_Decode.at : Try.prog.funcs[7]? = some Try.f7 := by kernel_rfl
theorem ref52_Decode.bo : Try.f7.body = some (bodyOf (Try.f7)) := by kernel_rfl
theorem ref52_Decode.nm : (Try.f7.name == "runtime.NumGoroutine") = false := by kernel_rfl
theorem ref52_Decode.sat (k : Nat) : Sat Try.prog 7 (ref52_Decode.E k) :=
  have hC : ∀ g N, (ref52_Decode.C k).orc g = some N → Sat Try.prog g N := satAll (satCons (ref10_Equal.sat k) (satCons (ref52_Encode.sat k) (satCons (ref52_integer.sat k) satNil)))
  sat_of (C := ref52_Decode.C k) hC mixed ref52_Decode.at ref52_Decode.nm ref52_Decode.bo (all_pieces rfl (locCons (loc_loop1 hC mixed (dstOk_zero _) (fun (q : Nat) (x : ref52_Decode.l2006.A.V) => ref52_Decode.l2006 k q x.1.1.1 x.1.1.2.1 x.1.1.2.2.1 x.1.1.2.2.2.1 x.1.1.2.2.2.2.1 x.1.2.1.1 x.1.2.1.2.1 x.1.2.1.2.2.1 x.1.2.1.2.2.2.2.1 x.1.2.1.2.2.2.2.2.1 x.1.2.1.2.2.2.2.2.2.1 x.1.2.1.2.2.2.2.2.2.2.1 x.1.2.1.2.2.2.2.2.2.2.2.1 x.1.2.1.2.2.2.2.2.2.2.2.2.1 x.1.2.1.2.2.2.2.2.2.2.2.2.2.1 x.1.2.2.1 x.1.2.2.2.1.1 x.1.2.2.2.1.2.1 x.1.2.2.2.1.2.2.1 x.1.2.2.2.1.2.2.2.2.1 x.1.2.2.2.1.2.2.2.2.2.1 x.1.2.2.2.1.2.2.2.2.2.2.1 x.1.2.2.2.1.2.2.2.2.2.2.2.1 x.1.2.2.2.1.2.2.2.2.2.2.2.2.1 x.1.2.2.2.1.2.2.2.2.2.2.2.2.2.1 x.1.2.2.2.1.2.2.2.2.2.2.2.2.2.2.1 x.1.2.2.2.2.1 x.2.2.2.2.1 x.2.2.2.2.2.1) (fun _ => rfl) (ref52_Decode.l2006.ev k) (fun _ => rfl) k) (locCons (loc_one hC mixed (dstOk_zero _) (fun (x : ref52_Decode.j62.A.V) => ref52_Decode.j62 k x.1.1.1 x.1.1.2.1 x.1.1.2.2.1 x.1.1.2.2.2.1 x.1.1.2.2.2.2.1 x.1.2.1.1 x.1.2.1.2.1 x.1.2.1.2.2.1 x.1.2.1.2.2.2.2.1 x.1.2.1.2.2.2.2.2.1 x.1.2.1.2.2.2.2.2.2.1 x.1.2.1.2.2.2.2.2.2.2.1 x.1.2.1.2.2.2.2.2.2.2.2.1 x.1.2.1.2.2.2.2.2.2.2.2.2.1 x.1.2.1.2.2.2.2.2.2.2.2.2.2.1 x.1.2.2.1 x.1.2.2.2.1.1 x.1.2.2.2.1.2.1 x.1.2.2.2.1.2.2.1 x.1.2.2.2.1.2.2.2.2.1 x.1.2.2.2.1.2.2.2.2.2.1 x.1.2.2.2.1.2.2.2.2.2.2.1 x.1.2.2.2.1.2.2.2.2.2.2.2.1 x.1.2.2.2.1.2.2.2.2.2.2.2.2.1 x.1.2.2.2.1.2.2.2.2.2.2.2.2.2.1 x.1.2.2.2.1.2.2.2.2.2.2.2.2.2.2.1 x.1.2.2.2.2.1 x.2.2.2.2.1) (ref52_Decode.j62.ev k) (fun _ => rfl)) (locCons (loc_one hC mixed (dstOk_zero _) (fun (x : ref52_Decode.j126.A.V) => ref52_Decode.j126 k x.1.1.1 x.1.1.2.1 x.1.1.2.2.1 x.1.1.2.2.2.1 x.1.1.2.2.2.2.1 x.1.2.1.1 x.1.2.1.2.1 x.1.2.1.2.2.1 x.1.2.1.2.2.2.2.1 x.1.2.1.2.2.2.2.2.1 x.1.2.1.2.2.2.2.2.2.1 x.1.2.1.2.2.2.2.2.2.2.1 x.1.2.1.2.2.2.2.2.2.2.2.1 x.1.2.1.2.2.2.2.2.2.2.2.2.1 x.1.2.1.2.2.2.2.2.2.2.2.2.2.1 x.1.2.2.1 x.1.2.2.2.1.1 x.1.2.2.2.1.2.1 x.1.2.2.2.1.2.2.1 x.1.2.2.2.1.2.2.2.2.1 x.1.2.2.2.1.2.2.2.2.2.1 x.1.2.2.2.1.2.2.2.2.2.2.1 x.1.2.2.2.1.2.2.2.2.2.2.2.1 x.1.2.2.2.1.2.2.2.2.2.2.2.2.1 x.1.2.2.2.1.2.2.2.2.2.2.2.2.2.1 x.1.2.2.2.1.2.2.2.2.2.2.2.2.2.2.1 x.1.2.2.2.2.1 x.2.2.2.2.1) (ref52_Decode.j126.ev k) (fun _ => rfl)) locNil)))) (ref52_Decode.ev k) (fun _ => rfl) rfl

/-! ### law52_same: function 8 (examboard/examboardlaw52.same) -/
abbrev law52_same.A : Sig := ⟨2, [], (.nilL), [0, 1], (.cons (.agg (.cons (.v (.int .i64)) (.cons (.v (.int .i64)) (.cons (.v (.int .i64)) (.cons (.v (.sl (.int .i64))) (.cons (.v (.int .i64)) (.cons (.v .str) (.cons (.v .bool) (.cons (.v (.int .i64)) (.cons (.v (.int .i64)) (.cons (.v (.int .i64)) (.cons (.v (.int .i64)) .nilL)))))))))))) (.cons (.agg (.cons (.v (.int .i64)) (.cons (.v (.int .i64)) (.cons (.v (.int .i64)) (.cons (.v (.sl (.int .i64))) (.cons (.v (.int .i64)) (.cons (.v .str) (.cons (.v .bool) (.cons (.v (.int .i64)) (.cons (.v (.int .i64)) (.cons (.v (.int .i64)) (.cons (.v (.int .i64)) .nilL)))))))))))) .nilL))⟩
abbrev law52_same.R : Sig := ⟨1, [], (.nilL), [0], (.cons (.v .bool) .nilL)⟩
abbrev law52_same.l58.A : Sig := ⟨91, [.slot 2, .slot 3], (.cons (.obox (.cons (.v (.int .i64)) (.cons (.v (.int .i64)) (.cons (.v (.int .i64)) (.cons (.v (.sl (.int .i64))) (.cons (.v (.int .i64)) (.cons (.v .str) (.cons (.v .bool) (.cons (.v (.int .i64)) (.cons (.v (.int .i64)) (.cons (.v (.int .i64)) (.cons (.v (.int .i64)) .nilL)))))))))))) (.cons (.obox (.cons (.v (.int .i64)) (.cons (.v (.int .i64)) (.cons (.v (.int .i64)) (.cons (.v (.sl (.int .i64))) (.cons (.v (.int .i64)) (.cons (.v .str) (.cons (.v .bool) (.cons (.v (.int .i64)) (.cons (.v (.int .i64)) (.cons (.v (.int .i64)) (.cons (.v (.int .i64)) .nilL)))))))))))) .nilL)), [2, 3, 5], (.cons (.boxr 0 0) (.cons (.boxr 1 0) (.cons (.v (.int .i64)) .nilL)))⟩
abbrev law52_same.l58.R0 : Sig := ⟨91, [.slot 2, .slot 3], (.cons (.obox (.cons (.v (.int .i64)) (.cons (.v (.int .i64)) (.cons (.v (.int .i64)) (.cons (.v (.sl (.int .i64))) (.cons (.v (.int .i64)) (.cons (.v .str) (.cons (.v .bool) (.cons (.v (.int .i64)) (.cons (.v (.int .i64)) (.cons (.v (.int .i64)) (.cons (.v (.int .i64)) .nilL)))))))))))) (.cons (.obox (.cons (.v (.int .i64)) (.cons (.v (.int .i64)) (.cons (.v (.int .i64)) (.cons (.v (.sl (.int .i64))) (.cons (.v (.int .i64)) (.cons (.v .str) (.cons (.v .bool) (.cons (.v (.int .i64)) (.cons (.v (.int .i64)) (.cons (.v (.int .i64)) (.cons (.v (.int .i64)) .nilL)))))))))))) .nilL)), [2, 3], (.cons (.boxr 0 0) (.cons (.boxr 1 0) .nilL))⟩
abbrev law52_same.l58.R1 : Sig := ⟨91, [], (.nilL), [4], (.cons (.v .bool) .nilL)⟩
def law52_same.l58 (k : Nat) : Nat → Int → Int → Int → (List Int) → Int → ByteArray → Bool → Int → Int → Int → Int → Int → Int → Int → (List Int) → Int → ByteArray → Bool → Int → Int → Int → Int → Int → Option ((Int × Int × Int × List Int × Int × ByteArray × Bool × Int × Int × Int × Int × Int × Int × Int × List Int × Int × ByteArray × Bool × Int × Int × Int × Int) ⊕ (Bool))
  | 0, _, _, _, _, _, _, _, _, _, _, _, _, _, _, _, _, _, _, _, _, _, _, _ => none
  | q + 1, x0, x1, x2, x3, x4, x5, x6, x7, x8, x9, x10, x11, x12, x13, x14, x15, x16, x17, x18, x19, x20, x21, x22 =>
    cond (decide (x22 < (x3.length : Int)))
    (cond (inB x22 x3.length)
      (cond (inB x22 x14.length)
        (cond ((rdL (.int .i64) x3 x22) != (rdL (.int .i64) x14 x22))
          (some (.inr false))
          (law52_same.l58 k q x0 x1 x2 x3 x4 x5 x6 x7 x8 x9 x10 x11 x12 x13 x14 x15 x16 x17 x18 x19 x20 x21 (IntKind.wrap .i64 (x22 + 1))))
        (none))
      (none))
    (some (.inl (x0, x1, x2, x3, x4, x5, x6, x7, x8, x9, x10, x11, x12, x13, x14, x15, x16, x17, x18, x19, x20, x21)))
abbrev law52_same.l58.pc (k : Nat) : Pc := .two law52_same.l58.A (.exit 0) law52_same.l58.R0 (Int × Int × Int × List Int × Int × ByteArray × Bool × Int × Int × Int × Int × Int × Int × Int × List Int × Int × ByteArray × Bool × Int × Int × Int × Int) (fun y => (((y.1, y.2.1, y.2.2.1, y.2.2.2.1, y.2.2.2.2.1, y.2.2.2.2.2.1, y.2.2.2.2.2.2.1, y.2.2.2.2.2.2.2.1, y.2.2.2.2.2.2.2.2.1, y.2.2.2.2.2.2.2.2.2.1, y.2.2.2.2.2.2.2.2.2.2.1, ()), (y.2.2.2.2.2.2.2.2.2.2.2.1, y.2.2.2.2.2.2.2.2.2.2.2.2.1, y.2.2.2.2.2.2.2.2.2.2.2.2.2.1, y.2.2.2.2.2.2.2.2.2.2.2.2.2.2.1, y.2.2.2.2.2.2.2.2.2.2.2.2.2.2.2.1, y.2.2.2.2.2.2.2.2.2.2.2.2.2.2.2.2.1, y.2.2.2.2.2.2.2.2.2.2.2.2.2.2.2.2.2.1, y.2.2.2.2.2.2.2.2.2.2.2.2.2.2.2.2.2.2.1, y.2.2.2.2.2.2.2.2.2.2.2.2.2.2.2.2.2.2.2.1, y.2.2.2.2.2.2.2.2.2.2.2.2.2.2.2.2.2.2.2.2.1, y.2.2.2.2.2.2.2.2.2.2.2.2.2.2.2.2.2.2.2.2.2, ()), ()), ((), (), ()))) .ret law52_same.l58.R1 (Bool) (fun y => ((), (y, ()))) (fun x => law52_same.l58 k k x.1.1.1 x.1.1.2.1 x.1.1.2.2.1 x.1.1.2.2.2.1 x.1.1.2.2.2.2.1 x.1.1.2.2.2.2.2.1 x.1.1.2.2.2.2.2.2.1 x.1.1.2.2.2.2.2.2.2.1 x.1.1.2.2.2.2.2.2.2.2.1 x.1.1.2.2.2.2.2.2.2.2.2.1 x.1.1.2.2.2.2.2.2.2.2.2.2.1 x.1.2.1.1 x.1.2.1.2.1 x.1.2.1.2.2.1 x.1.2.1.2.2.2.1 x.1.2.1.2.2.2.2.1 x.1.2.1.2.2.2.2.2.1 x.1.2.1.2.2.2.2.2.2.1 x.1.2.1.2.2.2.2.2.2.2.1 x.1.2.1.2.2.2.2.2.2.2.2.1 x.1.2.1.2.2.2.2.2.2.2.2.2.1 x.1.2.1.2.2.2.2.2.2.2.2.2.2.1 x.2.2.2.1)
def law52_same.f (k : Nat) (a0 : Int) (a1 : Int) (a2 : Int) (a3 : List Int) (a4 : Int) (a5 : ByteArray) (a6 : Bool) (a7 : Int) (a8 : Int) (a9 : Int) (a10 : Int) (a11 : Int) (a12 : Int) (a13 : Int) (a14 : List Int) (a15 : Int) (a16 : ByteArray) (a17 : Bool) (a18 : Int) (a19 : Int) (a20 : Int) (a21 : Int) : Option (Bool) :=
  Option.bind (cond (a0 != a11)
    (some true)
    (some (a1 != a12))) fun (c1 : Bool) =>
  Option.bind (cond c1
    (some true)
    (some (!((a7 == a18) && ((a8 == a19) && ((a9 == a20) && ((a10 == a21) && true))))))) fun (c2 : Bool) =>
  Option.bind (cond c2
    (some true)
    (some ((a3.length : Int) != (a14.length : Int)))) fun (c3 : Bool) =>
  cond c3
  (some false)
  ((law52_same.l58 k k a0 a1 a2 a3 a4 a5 a6 a7 a8 a9 a10 a11 a12 a13 a14 a15 a16 a17 a18 a19 a20 a21 0).bind fun y7 => Sum.casesOn y7 (fun u8 =>
    Option.bind (cond (u8.2.2.1 == u8.2.2.2.2.2.2.2.2.2.2.2.2.2.1)
        (some (u8.2.2.2.2.1 == u8.2.2.2.2.2.2.2.2.2.2.2.2.2.2.2.1))
        (some false)) fun (c10 : Bool) =>
      Option.bind (cond c10
        (some (u8.2.2.2.2.2.1.toList == u8.2.2.2.2.2.2.2.2.2.2.2.2.2.2.2.2.1.toList))
        (some false)) fun (c11 : Bool) =>
      Option.bind (cond c11
        (some (u8.2.2.2.2.2.2.1 == u8.2.2.2.2.2.2.2.2.2.2.2.2.2.2.2.2.2.1))
        (some false)) fun (c12 : Bool) =>
      some c12)
    (fun v9 =>
    some v9))
abbrev law52_same.E (k : Nat) : Ent := ⟨law52_same.A, law52_same.R, Bool, fun x => law52_same.f k x.2.1.1 x.2.1.2.1 x.2.1.2.2.1 x.2.1.2.2.2.1 x.2.1.2.2.2.2.1 x.2.1.2.2.2.2.2.1 x.2.1.2.2.2.2.2.2.1 x.2.1.2.2.2.2.2.2.2.1 x.2.1.2.2.2.2.2.2.2.2.1 x.2.1.2.2.2.2.2.2.2.2.2.1 x.2.1.2.2.2.2.2.2.2.2.2.2.1 x.2.2.1.1 x.2.2.1.2.1 x.2.2.1.2.2.1 x.2.2.1.2.2.2.1 x.2.2.1.2.2.2.2.1 x.2.2.1.2.2.2.2.2.1 x.2.2.1.2.2.2.2.2.2.1 x.2.2.1.2.2.2.2.2.2.2.1 x.2.2.1.2.2.2.2.2.2.2.2.1 x.2.2.1.2.2.2.2.2.2.2.2.2.1 x.2.2.1.2.2.2.2.2.2.2.2.2.2.1, fun y => ((), (y, ()))⟩
noncomputable abbrev law52_same.C (k : Nat) : Cfg := ⟨Try.prog, shs, look [], look [(58, law52_same.l58.pc k)]⟩
theorem law52_same.l58.ev (k q : Nat) (x : law52_same.l58.A.V) : ((codeAt 60 (bodyOf (Try.f8)) 58).bind fun c => (loopOf c).bind fun c1 => evL2 (law52_same.C k) c1 58 law52_same.l58.A (.exit 0) law52_same.l58.R0 (Int × Int × Int × List Int × Int × ByteArray × Bool × Int × Int × Int × Int × Int × Int × Int × List Int × Int × ByteArray × Bool × Int × Int × Int × Int) (fun x => (x.1.1.1, x.1.1.2.1, x.1.1.2.2.1, x.1.1.2.2.2.1, x.1.1.2.2.2.2.1, x.1.1.2.2.2.2.2.1, x.1.1.2.2.2.2.2.2.1, x.1.1.2.2.2.2.2.2.2.1, x.1.1.2.2.2.2.2.2.2.2.1, x.1.1.2.2.2.2.2.2.2.2.2.1, x.1.1.2.2.2.2.2.2.2.2.2.2.1, x.1.2.1.1, x.1.2.1.2.1, x.1.2.1.2.2.1, x.1.2.1.2.2.2.1, x.1.2.1.2.2.2.2.1, x.1.2.1.2.2.2.2.2.1, x.1.2.1.2.2.2.2.2.2.1, x.1.2.1.2.2.2.2.2.2.2.1, x.1.2.1.2.2.2.2.2.2.2.2.1, x.1.2.1.2.2.2.2.2.2.2.2.2.1, x.1.2.1.2.2.2.2.2.2.2.2.2.2.1)) .ret law52_same.l58.R1 (Bool) (fun x => x.2.1) (fun x => law52_same.l58 k q x.1.1.1 x.1.1.2.1 x.1.1.2.2.1 x.1.1.2.2.2.1 x.1.1.2.2.2.2.1 x.1.1.2.2.2.2.2.1 x.1.1.2.2.2.2.2.2.1 x.1.1.2.2.2.2.2.2.2.1 x.1.1.2.2.2.2.2.2.2.2.1 x.1.1.2.2.2.2.2.2.2.2.2.1 x.1.1.2.2.2.2.2.2.2.2.2.2.1 x.1.2.1.1 x.1.2.1.2.1 x.1.2.1.2.2.1 x.1.2.1.2.2.2.1 x.1.2.1.2.2.2.2.1 x.1.2.1.2.2.2.2.2.1 x.1.2.1.2.2.2.2.2.2.1 x.1.2.1.2.2.2.2.2.2.2.1 x.1.2.1.2.2.2.2.2.2.2.2.1 x.1.2.1.2.2.2.2.2.2.2.2.2.1 x.1.2.1.2.2.2.2.2.2.2.2.2.2.1 x.2.2.2.1) x) = law52_same.l58 k (q + 1) x.1.1.1 x.1.1.2.1 x.1.1.2.2.1 x.1.1.2.2.2.1 x.1.1.2.2.2.2.1 x.1.1.2.2.2.2.2.1 x.1.1.2.2.2.2.2.2.1 x.1.1.2.2.2.2.2.2.2.1 x.1.1.2.2.2.2.2.2.2.2.1 x.1.1.2.2.2.2.2.2.2.2.2.1 x.1.1.2.2.2.2.2.2.2.2.2.2.1 x.1.2.1.1 x.1.2.1.2.1 x.1.2.1.2.2.1 x.1.2.1.2.2.2.1 x.1.2.1.2.2.2.2.1 x.1.2.1.2.2.2.2.2.1 x.1.2.1.2.2.2.2.2.2.1 x.1.2.1.2.2.2.2.2.2.2.1 x.1.2.1.2.2.2.2.2.2.2.2.1 x.1.2.1.2.2.2.2.2.2.2.2.2.1 x.1.2.1.2.2.2.2.2.2.2.2.2.2.1 x.2.2.2.1 := by kernel_rfl
theorem law52_same.ev (k : Nat) (x : law52_same.A.V) : evF (law52_same.C k) Try.f8 law52_same.A law52_same.R (Bool) (fun x => x.2.1) x = law52_same.f k x.2.1.1 x.2.1.2.1 x.2.1.2.2.1 x.2.1.2.2.2.1 x.2.1.2.2.2.2.1 x.2.1.2.2.2.2.2.1 x.2.1.2.2.2.2.2.2.1 x.2.1.2.2.2.2.2.2.2.1 x.2.1.2.2.2.2.2.2.2.2.1 x.2.1.2.2.2.2.2.2.2.2.2.1 x.2.1.2.2.2.2.2.2.2.2.2.2.1 x.2.2.1.1 x.2.2.1.2.1 x.2.2.1.2.2.1 x.2.2.1.2.2.2.1 x.2.2.1.2.2.2.2.1 x.2.2.1.2.2.2.2.2.1 x.2.2.1.2.2.2.2.2.2.1 x.2.2.1.2.2.2.2.2.2.2.1 x.2.2.1.2.2.2.2.2.2.2.2.1 x.2.2.1.2.2.2.2.2.2.2.2.2.1 x.2.2.1.2.2.2.2.2.2.2.2.2.2.1 := by kernel_rfl
theorem law52_same.at : Try.prog.funcs[8]? = some Try.f8 := by kernel_rfl
theorem law52_same.bo : Try.f8.body = some (bodyOf (Try.f8)) := by kernel_rfl
theorem law52_same.nm : (Try.f8.name == "runtime.NumGoroutine") = false := by kernel_rfl
theorem law52_same.sat (k : Nat) : Sat Try.prog 8 (law52_same.E k) :=
  have hC : ∀ g N, (law52_same.C k).orc g = some N → Sat Try.prog g N := satAll satNil
  sat_of (C := law52_same.C k) hC mixed law52_same.at law52_same.nm law52_same.bo (all_pieces rfl (locCons (loc_loop2 hC mixed (dstOk_zero _) (fun (q : Nat) (x : law52_same.l58.A.V) => law52_same.l58 k q x.1.1.1 x.1.1.2.1 x.1.1.2.2.1 x.1.1.2.2.2.1 x.1.1.2.2.2.2.1 x.1.1.2.2.2.2.2.1 x.1.1.2.2.2.2.2.2.1 x.1.1.2.2.2.2.2.2.2.1 x.1.1.2.2.2.2.2.2.2.2.1 x.1.1.2.2.2.2.2.2.2.2.2.1 x.1.1.2.2.2.2.2.2.2.2.2.2.1 x.1.2.1.1 x.1.2.1.2.1 x.1.2.1.2.2.1 x.1.2.1.2.2.2.1 x.1.2.1.2.2.2.2.1 x.1.2.1.2.2.2.2.2.1 x.1.2.1.2.2.2.2.2.2.1 x.1.2.1.2.2.2.2.2.2.2.1 x.1.2.1.2.2.2.2.2.2.2.2.1 x.1.2.1.2.2.2.2.2.2.2.2.2.1 x.1.2.1.2.2.2.2.2.2.2.2.2.2.1 x.2.2.2.1) (fun _ => rfl) (law52_same.l58.ev k) (fun _ => rfl) (fun _ => rfl) k) locNil)) (law52_same.ev k) (fun _ => rfl) rfl

/-! ### law52_ResumeDecodes: function 3 (examboard/examboardlaw52.ResumeDecodes) -/
abbrev law52_ResumeDecodes.A : Sig := ⟨1, [], (.nilL), [0], (.cons (.agg (.cons (.v (.int .i64)) (.cons (.v (.int .i64)) (.cons (.v (.int .i64)) (.cons (.v .str) (.cons (.v (.sl .node)) .nilL)))))) .nilL)⟩
abbrev law52_ResumeDecodes.R : Sig := ⟨1, [], (.nilL), [0], (.cons (.v .bool) .nilL)⟩
def law52_ResumeDecodes.f (k : Nat) (a0 : Int) (a1 : Int) (a2 : Int) (a3 : ByteArray) (a4 : List Nd) : Option (Bool) :=
  (law52_nodes.f k a0 a1 a2 a3 a4 1).bind fun y1 =>
  cond (decide (y1 > 40))
  (some true)
  ((resume_Decode.f k a0 a1 a2 a3 a4).bind fun y2 =>
    (ref52_Decode.f k a0 a1 a2 a3 a4).bind fun y3 =>
    Option.bind (cond (y2.2.2.2.2.2.2.2.2.2.2.2 == y3.2.2.2.2.2.2.2.2.2.2.2)
      ((law52_same.f k y2.1 y2.2.1 y2.2.2.1 y2.2.2.2.1 y2.2.2.2.2.1 y2.2.2.2.2.2.1 y2.2.2.2.2.2.2.1 y2.2.2.2.2.2.2.2.1 y2.2.2.2.2.2.2.2.2.1 y2.2.2.2.2.2.2.2.2.2.1 y2.2.2.2.2.2.2.2.2.2.2.1 y3.1 y3.2.1 y3.2.2.1 y3.2.2.2.1 y3.2.2.2.2.1 y3.2.2.2.2.2.1 y3.2.2.2.2.2.2.1 y3.2.2.2.2.2.2.2.1 y3.2.2.2.2.2.2.2.2.1 y3.2.2.2.2.2.2.2.2.2.1 y3.2.2.2.2.2.2.2.2.2.2.1).bind fun y4 =>
        some y4)
      (some false)) fun (c5 : Bool) =>
    some c5)
abbrev law52_ResumeDecodes.E (k : Nat) : Ent := ⟨law52_ResumeDecodes.A, law52_ResumeDecodes.R, Bool, fun x => law52_ResumeDecodes.f k x.2.1.1 x.2.1.2.1 x.2.1.2.2.1 x.2.1.2.2.2.1 x.2.1.2.2.2.2.1, fun y => ((), (y, ()))⟩
noncomputable abbrev law52_ResumeDecodes.C (k : Nat) : Cfg := ⟨Try.prog, shs, look [(5, law52_nodes.E k), (8, law52_same.E k), (7, ref52_Decode.E k), (6, resume_Decode.E k)], look []⟩
theorem law52_ResumeDecodes.ev (k : Nat) (x : law52_ResumeDecodes.A.V) : evF (law52_ResumeDecodes.C k) Try.f3 law52_ResumeDecodes.A law52_ResumeDecodes.R (Bool) (fun x => x.2.1) x = law52_ResumeDecodes.f k x.2.1.1 x.2.1.2.1 x.2.1.2.2.1 x.2.1.2.2.2.1 x.2.1.2.2.2.2.1 := by kernel_rfl
theorem law52_ResumeDecodes.at : Try.prog.funcs[3]? = some Try.f3 := by kernel_rfl
theorem law52_ResumeDecodes.bo : Try.f3.body = some (bodyOf (Try.f3)) := by kernel_rfl
theorem law52_ResumeDecodes.nm : (Try.f3.name == "runtime.NumGoroutine") = false := by kernel_rfl
theorem law52_ResumeDecodes.sat (k : Nat) : Sat Try.prog 3 (law52_ResumeDecodes.E k) :=
  have hC : ∀ g N, (law52_ResumeDecodes.C k).orc g = some N → Sat Try.prog g N := satAll (satCons (law52_nodes.sat k) (satCons (law52_same.sat k) (satCons (ref52_Decode.sat k) (satCons (resume_Decode.sat k) satNil))))
  sat_of (C := law52_ResumeDecodes.C k) hC mixed law52_ResumeDecodes.at law52_ResumeDecodes.nm law52_ResumeDecodes.bo (all_pieces rfl locNil) (law52_ResumeDecodes.ev k) (fun _ => rfl) rfl

/-! ### codec_varintSize: function 30 (examboard/codec.varintSize) -/
abbrev codec_varintSize.A : Sig := ⟨1, [], (.nilL), [0], (.cons (.v (.int .u64)) .nilL)⟩
abbrev codec_varintSize.R : Sig := ⟨1, [], (.nilL), [0], (.cons (.v (.int .i64)) .nilL)⟩
abbrev codec_varintSize.l28.A : Sig := ⟨11, [], (.nilL), [0, 3], (.cons (.v (.int .u64)) (.cons (.v (.int .i64)) .nilL))⟩
abbrev codec_varintSize.l28.R0 : Sig := ⟨11, [], (.nilL), [3], (.cons (.v (.int .i64)) .nilL)⟩
def codec_varintSize.l28 (k : Nat) : Nat → Int → Int → Option (Int)
  | 0, _, _ => none
  | q + 1, x0, x1 =>
    cond (decide (x0 > 127))
    (codec_varintSize.l28 k q (Int.fdiv x0 (2 ^ (7))) (IntKind.wrap .i64 (x1 + 1)))
    (some x1)
abbrev codec_varintSize.l28.pc (k : Nat) : Pc := .one codec_varintSize.l28.A (.exit 0) codec_varintSize.l28.R0 (Int) (fun x => codec_varintSize.l28 k k x.2.1 x.2.2.1) (fun y => ((), (y, ())))
def codec_varintSize.f (k : Nat) (a0 : Int) : Option (Int) :=
  (codec_varintSize.l28 k k a0 1).bind fun y1 =>
  some y1
abbrev codec_varintSize.E (k : Nat) : Ent := ⟨codec_varintSize.A, codec_varintSize.R, Int, fun x => codec_varintSize.f k x.2.1, fun y => ((), (y, ()))⟩
noncomputable abbrev codec_varintSize.C (k : Nat) : Cfg := ⟨Try.prog, shs, look [], look [(28, codec_varintSize.l28.pc k)]⟩
theorem codec_varintSize.l28.ev (k q : Nat) (x : codec_varintSize.l28.A.V) : ((codeAt 60 (bodyOf (Try.f30)) 28).bind fun c => (loopOf c).bind fun c1 => evL1 (codec_varintSize.C k) c1 28 codec_varintSize.l28.A (.exit 0) codec_varintSize.l28.R0 (Int) (fun x => x.2.1) (fun x => codec_varintSize.l28 k q x.2.1 x.2.2.1) x) = codec_varintSize.l28 k (q + 1) x.2.1 x.2.2.1 := by kernel_rfl
theorem codec_varintSize.ev (k : Nat) (x : codec_varintSize.A.V) : evF (codec_varintSize.C k) Try.f30 codec_varintSize.A codec_varintSize.R (Int) (fun x => x.2.1) x = codec_varintSize.f k x.2.1 := by kernel_rfl
theorem codec_varintSize.at : Try.prog.funcs[30]? = some Try.f30 := by kernel_rfl
theorem codec_varintSize.bo : Try.f30.body = some (bodyOf (Try.f30)) := by kernel_rfl
theorem codec_varintSize.nm : (Try.f30.name == "runtime.NumGoroutine") = false := by kernel_rfl
theorem codec_varintSize.sat (k : Nat) : Sat Try.prog 30 (codec_varintSize.E k) :=
  have hC : ∀ g N, (codec_varintSize.C k).orc g = some N → Sat Try.prog g N := satAll satNil
  sat_of (C := codec_varintSize.C k) hC mixed codec_varintSize.at codec_varintSize.nm codec_varintSize.bo (all_pieces rfl (locCons (loc_loop1 hC mixed (dstOk_zero _) (fun (q : Nat) (x : codec_varintSize.l28.A.V) => codec_varintSize.l28 k q x.2.1 x.2.2.1) (fun _ => rfl) (codec_varintSize.l28.ev k) (fun _ => rfl) k) locNil)) (codec_varintSize.ev k) (fun _ => rfl) rfl

/-! ### codec_zigzag: function 31 (examboard/codec.zigzag) -/
abbrev codec_zigzag.A : Sig := ⟨1, [], (.nilL), [0], (.cons (.v (.int .i64)) .nilL)⟩
abbrev codec_zigzag.R : Sig := ⟨1, [], (.nilL), [0], (.cons (.v (.int .u64)) .nilL)⟩
def codec_zigzag.f (k : Nat) (a0 : Int) : Option (Int) :=
  cond (decide (a0 < 0))
  (some (IntKind.wrap .u64 (((BitVec.ofInt 64 (IntKind.wrap .u64 ((IntKind.wrap .u64 (IntKind.wrap .i64 (0 - (IntKind.wrap .i64 (a0 + 1))))) * 2 ^ (1)))) ||| (BitVec.ofInt 64 1)).toNat : Int)))
  (some (IntKind.wrap .u64 ((IntKind.wrap .u64 a0) * 2 ^ (1))))
abbrev codec_zigzag.E (k : Nat) : Ent := ⟨codec_zigzag.A, codec_zigzag.R, Int, fun x => codec_zigzag.f k x.2.1, fun y => ((), (y, ()))⟩
noncomputable abbrev codec_zigzag.C (k : Nat) : Cfg := ⟨Try.prog, shs, look [], look []⟩
theorem codec_zigzag.ev (k : Nat) (x : codec_zigzag.A.V) : evF (codec_zigzag.C k) Try.f31 codec_zigzag.A codec_zigzag.R (Int) (fun x => x.2.1) x = codec_zigzag.f k x.2.1 := by kernel_rfl
theorem codec_zigzag.at : Try.prog.funcs[31]? = some Try.f31 := by kernel_rfl
theorem codec_zigzag.bo : Try.f31.body = some (bodyOf (Try.f31)) := by kernel_rfl
theorem codec_zigzag.nm : (Try.f31.name == "runtime.NumGoroutine") = false := by kernel_rfl
theorem codec_zigzag.sat (k : Nat) : Sat Try.prog 31 (codec_zigzag.E k) :=
  have hC : ∀ g N, (codec_zigzag.C k).orc g = some N → Sat Try.prog g N := satAll satNil
  sat_of (C := codec_zigzag.C k) hC mixed codec_zigzag.at codec_zigzag.nm codec_zigzag.bo (all_pieces rfl locNil) (codec_zigzag.ev k) (fun _ => rfl) rfl

/-! ### codec_size: function 20 (examboard/codec.size) -/
abbrev codec_size.A : Sig := ⟨2, [], (.nilL), [0, 1], (.cons (.agg (.cons (.v (.int .i64)) (.cons (.v (.int .i64)) (.cons (.v (.int .i64)) (.cons (.v .str) (.cons (.v (.sl .node)) .nilL)))))) (.cons (.v (.int .i64)) .nilL))⟩
abbrev codec_size.R : Sig := ⟨1, [], (.nilL), [0], (.cons (.v (.int .i64)) .nilL)⟩
abbrev codec_size.l251866.A : Sig := ⟨117, [], (.nilL), [1, 6, 98, 99, 100], (.cons (.v (.int .i64)) (.cons (.v (.int .i64)) (.cons (.v (.sl .node)) (.cons (.v (.int .i64)) (.cons (.v (.int .i64)) .nilL)))))⟩
abbrev codec_size.l251866.R0 : Sig := ⟨117, [], (.nilL), [6], (.cons (.v (.int .i64)) .nilL)⟩
abbrev codec_size.l251866.R1 : Sig := ⟨117, [], (.nilL), [4], (.cons (.v (.int .i64)) .nilL)⟩
def codec_size.l251866 (self : Int → Int → Int → ByteArray → (List Nd) → Int → Option (Int)) (k : Nat) : Nat → Int → Int → (List Nd) → Int → Int → Option ((Int) ⊕ (Int))
  | 0, _, _, _, _, _ => none
  | q + 1, x0, x1, x2, x3, x4 =>
    cond (decide (x4 < x3))
    (cond (inB x4 x2.length)
      ((self ((rdL .node x2 x4).tag) ((rdL .node x2 x4).kind) ((rdL .node x2 x4).n) ((rdL .node x2 x4).s) ((rdL .node x2 x4).kids) (IntKind.wrap .i64 (x0 + 1))).bind fun y14 =>
        cond (decide (y14 < 0))
        (some (.inr (-1)))
        (cond (decide ((IntKind.wrap .i64 (x1 + y14)) > 1048576))
          (some (.inr (-1)))
          (codec_size.l251866 self k q x0 (IntKind.wrap .i64 (x1 + y14)) x2 x3 (IntKind.wrap .i64 (x4 + 1)))))
      (none))
    (some (.inl x1))
abbrev codec_size.l251866.pc (self : Int → Int → Int → ByteArray → (List Nd) → Int → Option (Int)) (k : Nat) : Pc := .two codec_size.l251866.A (.exit 1) codec_size.l251866.R0 (Int) (fun y => ((), (y, ()))) .ret codec_size.l251866.R1 (Int) (fun y => ((), (y, ()))) (fun x => codec_size.l251866 self k k x.2.1 x.2.2.1 x.2.2.2.1 x.2.2.2.2.1 x.2.2.2.2.2.1)
def codec_size.g (self : Int → Int → Int → ByteArray → (List Nd) → Int → Option (Int)) (k : Nat) (a0 : Int) (a1 : Int) (a2 : Int) (a3 : ByteArray) (a4 : List Nd) (a5 : Int) : Option (Int) :=
  Option.bind (cond (decide (a5 > 8))
    (some true)
    (some (decide (a0 < 0)))) fun (c1 : Bool) =>
  Option.bind (cond c1
    (some true)
    (some (decide (a0 > 9999999)))) fun (c2 : Bool) =>
  cond c2
  (some (-1))
  ((codec_varintSize.f k (IntKind.wrap .u64 a0)).bind fun y3 =>
    cond (a1 == 1)
    (Option.bind (cond (!(a3.toList == (⟨#[]⟩ : ByteArray).toList))
        (some true)
        (some (decide ((a4.length : Int) > 0)))) fun (c4 : Bool) =>
      cond c4
      (some (-1))
      ((codec_zigzag.f k a2).bind fun y5 =>
        (codec_varintSize.f k y5).bind fun y6 =>
        some (IntKind.wrap .i64 ((IntKind.wrap .i64 (y3 + 1)) + y6))))
    (cond (a1 == 2)
      (Option.bind (cond (a2 != 0)
          (some true)
          (some (decide ((a4.length : Int) > 0)))) fun (c7 : Bool) =>
        Option.bind (cond c7
          (some true)
          (some (decide ((a3.size : Int) > 2000)))) fun (c8 : Bool) =>
        cond c8
        (some (-1))
        ((codec_varintSize.f k (IntKind.wrap .u64 (a3.size : Int))).bind fun y9 =>
          some (IntKind.wrap .i64 ((IntKind.wrap .i64 ((IntKind.wrap .i64 (y3 + 1)) + y9)) + (a3.size : Int)))))
      (cond (a1 == 3)
        (Option.bind (cond (a2 != 0)
            (some true)
            (some (!(a3.toList == (⟨#[]⟩ : ByteArray).toList)))) fun (c10 : Bool) =>
          Option.bind (cond c10
            (some true)
            (some (decide ((a4.length : Int) > 1024)))) fun (c11 : Bool) =>
          cond c11
          (some (-1))
          ((codec_varintSize.f k (IntKind.wrap .u64 (a4.length : Int))).bind fun y12 =>
            (codec_size.l251866 self k k a5 (IntKind.wrap .i64 ((IntKind.wrap .i64 (y3 + 1)) + y12)) a4 (a4.length : Int) 0).bind fun y15 => Sum.casesOn y15 (fun u16 =>
            some u16)
            (fun v17 =>
            some v17)))
        (some (-1)))))
def codec_size.f : Nat → Int → Int → Int → ByteArray → (List Nd) → Int → Option (Int)
  | 0, _, _, _, _, _, _ => none
  | k + 1, a0, a1, a2, a3, a4, a5 => codec_size.g (codec_size.f k) k a0 a1 a2 a3 a4 a5
abbrev codec_size.ES (self : Int → Int → Int → ByteArray → (List Nd) → Int → Option (Int)) : Ent := ⟨codec_size.A, codec_size.R, Int, fun x => self x.2.1.1 x.2.1.2.1 x.2.1.2.2.1 x.2.1.2.2.2.1 x.2.1.2.2.2.2.1 x.2.2.1, fun y => ((), (y, ()))⟩
abbrev codec_size.E (k : Nat) : Ent := ⟨codec_size.A, codec_size.R, Int, fun x => codec_size.f k x.2.1.1 x.2.1.2.1 x.2.1.2.2.1 x.2.1.2.2.2.1 x.2.1.2.2.2.2.1 x.2.2.1, fun y => ((), (y, ()))⟩
noncomputable abbrev codec_size.C (self : Int → Int → Int → ByteArray → (List Nd) → Int → Option (Int)) (k : Nat) : Cfg := ⟨Try.prog, shs, look [(20, codec_size.ES self), (30, codec_varintSize.E k), (31, codec_zigzag.E k)], look [(251866, codec_size.l251866.pc self k)]⟩
theorem codec_size.l251866.ev (self : Int → Int → Int → ByteArray → (List Nd) → Int → Option (Int)) (k q : Nat) (x : codec_size.l251866.A.V) : ((codeAt 60 (bodyOf (Try.f20)) 251866).bind fun c => (loopOf c).bind fun c1 => evL2 (codec_size.C self k) c1 251866 codec_size.l251866.A (.exit 1) codec_size.l251866.R0 (Int) (fun x => x.2.1) .ret codec_size.l251866.R1 (Int) (fun x => x.2.1) (fun x => codec_size.l251866 self k q x.2.1 x.2.2.1 x.2.2.2.1 x.2.2.2.2.1 x.2.2.2.2.2.1) x) = codec_size.l251866 self k (q + 1) x.2.1 x.2.2.1 x.2.2.2.1 x.2.2.2.2.1 x.2.2.2.2.2.1 := by kernel_rfl
theorem codec_size.ev (self : Int → Int → Int → ByteArray → (List Nd) → Int → Option (Int)) (k : Nat) (x : codec_size.A.V) : evF (codec_size.C self k) Try.f20 codec_size.A codec_size.R (Int) (fun x => x.2.1) x = codec_size.g self k x.2.1.1 x.2.1.2.1 x.2.1.2.2.1 x.2.1.2.2.2.1 x.2.1.2.2.2.2.1 x.2.2.1 := by kernel_rfl
theorem codec_size.at : Try.prog.funcs[20]? = some Try.f20 := by kernel_rfl
theorem codec_size.bo : Try.f20.body = some (bodyOf (Try.f20)) := by kernel_rfl
theorem codec_size.nm : (Try.f20.name == "runtime.NumGoroutine") = false := by kernel_rfl
theorem codec_size.satS (self : Int → Int → Int → ByteArray → (List Nd) → Int → Option (Int)) (k : Nat) (hS : Sat Try.prog 20 (codec_size.ES self)) : Sat Try.prog 20 ⟨codec_size.A, codec_size.R, Int, fun x => codec_size.g self k x.2.1.1 x.2.1.2.1 x.2.1.2.2.1 x.2.1.2.2.2.1 x.2.1.2.2.2.2.1 x.2.2.1, fun y => ((), (y, ()))⟩ :=
  have hC : ∀ g N, (codec_size.C self k).orc g = some N → Sat Try.prog g N := satAll (satCons hS (satCons (codec_varintSize.sat k) (satCons (codec_zigzag.sat k) satNil)))
  sat_of (C := codec_size.C self k) hC mixed codec_size.at codec_size.nm codec_size.bo (all_pieces rfl (locCons (loc_loop2 hC mixed (dstOk_zero _) (fun (q : Nat) (x : codec_size.l251866.A.V) => codec_size.l251866 self k q x.2.1 x.2.2.1 x.2.2.2.1 x.2.2.2.2.1 x.2.2.2.2.2.1) (fun _ => rfl) (codec_size.l251866.ev self k) (fun _ => rfl) (fun _ => rfl) k) locNil)) (codec_size.ev self k) (fun _ => rfl) rfl
theorem codec_size.sat : ∀ k, Sat Try.prog 20 (codec_size.E k)
  | 0 => sat_none codec_size.at codec_size.nm codec_size.bo (fun _ => rfl)
  | k + 1 => codec_size.satS (codec_size.f k) k (codec_size.sat k)

/-! ### codec_Valid: function 10 (examboard/codec.Valid) -/
abbrev codec_Valid.A : Sig := ⟨1, [], (.nilL), [0], (.cons (.agg (.cons (.v (.int .i64)) (.cons (.v (.int .i64)) (.cons (.v (.int .i64)) (.cons (.v .str) (.cons (.v (.sl .node)) .nilL)))))) .nilL)⟩
abbrev codec_Valid.R : Sig := ⟨1, [], (.nilL), [0], (.cons (.v .bool) .nilL)⟩
def codec_Valid.f (k : Nat) (a0 : Int) (a1 : Int) (a2 : Int) (a3 : ByteArray) (a4 : List Nd) : Option (Bool) :=
  (codec_size.f k a0 a1 a2 a3 a4 1).bind fun y1 =>
  some (decide (y1 > 0))
abbrev codec_Valid.E (k : Nat) : Ent := ⟨codec_Valid.A, codec_Valid.R, Bool, fun x => codec_Valid.f k x.2.1.1 x.2.1.2.1 x.2.1.2.2.1 x.2.1.2.2.2.1 x.2.1.2.2.2.2.1, fun y => ((), (y, ()))⟩
noncomputable abbrev codec_Valid.C (k : Nat) : Cfg := ⟨Try.prog, shs, look [(20, codec_size.E k)], look []⟩
theorem codec_Valid.ev (k : Nat) (x : codec_Valid.A.V) : evF (codec_Valid.C k) Try.f10 codec_Valid.A codec_Valid.R (Bool) (fun x => x.2.1) x = codec_Valid.f k x.2.1.1 x.2.1.2.1 x.2.1.2.2.1 x.2.1.2.2.2.1 x.2.1.2.2.2.2.1 := by kernel_rfl
theorem codec_Valid.at : Try.prog.funcs[10]? = some Try.f10 := by kernel_rfl
theorem codec_Valid.bo : Try.f10.body = some (bodyOf (Try.f10)) := by kernel_rfl
theorem codec_Valid.nm : (Try.f10.name == "runtime.NumGoroutine") = false := by kernel_rfl
theorem codec_Valid.sat (k : Nat) : Sat Try.prog 10 (codec_Valid.E k) :=
  have hC : ∀ g N, (codec_Valid.C k).orc g = some N → Sat Try.prog g N := satAll (satCons (codec_size.sat k) satNil)
  sat_of (C := codec_Valid.C k) hC mixed codec_Valid.at codec_Valid.nm codec_Valid.bo (all_pieces rfl locNil) (codec_Valid.ev k) (fun _ => rfl) rfl

/-! ### law52_ResumeRoundTrip: function 4 (examboard/examboardlaw52.ResumeRoundTrip) -/
abbrev law52_ResumeRoundTrip.A : Sig := ⟨2, [], (.nilL), [0, 1], (.cons (.agg (.cons (.v (.int .i64)) (.cons (.v (.int .i64)) (.cons (.v (.int .i64)) (.cons (.v (.sl (.int .i64))) (.cons (.v (.int .i64)) (.cons (.v .str) (.cons (.v .bool) (.cons (.v (.int .i64)) (.cons (.v (.int .i64)) (.cons (.v (.int .i64)) (.cons (.v (.int .i64)) .nilL)))))))))))) (.cons (.agg (.cons (.v (.int .i64)) (.cons (.v (.int .i64)) (.cons (.v (.int .i64)) (.cons (.v (.sl (.int .i64))) (.cons (.v (.int .i64)) (.cons (.v .str) (.cons (.v .bool) (.cons (.v (.int .i64)) (.cons (.v (.int .i64)) (.cons (.v (.int .i64)) (.cons (.v (.int .i64)) .nilL)))))))))))) .nilL))⟩
abbrev law52_ResumeRoundTrip.R : Sig := ⟨1, [], (.nilL), [0], (.cons (.v .bool) .nilL)⟩
def law52_ResumeRoundTrip.f (k : Nat) (a0 : Int) (a1 : Int) (a2 : Int) (a3 : List Int) (a4 : Int) (a5 : ByteArray) (a6 : Bool) (a7 : Int) (a8 : Int) (a9 : Int) (a10 : Int) (a11 : Int) (a12 : Int) (a13 : Int) (a14 : List Int) (a15 : Int) (a16 : ByteArray) (a17 : Bool) (a18 : Int) (a19 : Int) (a20 : Int) (a21 : Int) : Option (Bool) :=
  (resume_Encode.f k a0 a1 a2 a3 a4 a5 a6 a7 a8 a9 a10).bind fun y1 =>
  cond (y1.2.2.2.2.2 != 0)
  ((resume_Decode.f k y1.1 y1.2.1 y1.2.2.1 y1.2.2.2.1 y1.2.2.2.2.1).bind fun y2 =>
    Option.bind (cond (y2.2.2.2.2.2.2.2.2.2.2.2 == 2)
      ((law52_same.f k y2.1 y2.2.1 y2.2.2.1 y2.2.2.2.1 y2.2.2.2.2.1 y2.2.2.2.2.2.1 y2.2.2.2.2.2.2.1 y2.2.2.2.2.2.2.2.1 y2.2.2.2.2.2.2.2.2.1 y2.2.2.2.2.2.2.2.2.2.1 y2.2.2.2.2.2.2.2.2.2.2.1 0 0 0 ([] : List Int) 0 (⟨#[]⟩ : ByteArray) false 0 0 0 0).bind fun y3 =>
        some y3)
      (some false)) fun (c4 : Bool) =>
    some c4)
  ((resume_Decode.f k y1.1 y1.2.1 y1.2.2.1 y1.2.2.2.1 y1.2.2.2.2.1).bind fun y5 =>
    Option.bind (cond (y5.2.2.2.2.2.2.2.2.2.2.2 != 0)
      (some true)
      ((law52_same.f k y5.1 y5.2.1 y5.2.2.1 y5.2.2.2.1 y5.2.2.2.2.1 y5.2.2.2.2.2.1 y5.2.2.2.2.2.2.1 y5.2.2.2.2.2.2.2.1 y5.2.2.2.2.2.2.2.2.1 y5.2.2.2.2.2.2.2.2.2.1 y5.2.2.2.2.2.2.2.2.2.2.1 a0 a1 a2 a3 a4 a5 a6 a7 a8 a9 a10).bind fun y6 =>
        some (!y6))) fun (c7 : Bool) =>
    Option.bind (cond c7
      (some true)
      ((codec_Valid.f k y1.1 y1.2.1 y1.2.2.1 y1.2.2.2.1 y1.2.2.2.2.1).bind fun y8 =>
        some (!y8))) fun (c9 : Bool) =>
    cond c9
    (some false)
    ((resume_Encode.f k a11 a12 a13 a14 a15 a16 a17 a18 a19 a20 a21).bind fun y10 =>
      Option.bind (cond (y10.2.2.2.2.2 != 0)
        (some true)
        ((codec_Equal.f k y1.1 y1.2.1 y1.2.2.1 y1.2.2.2.1 y1.2.2.2.2.1 y10.1 y10.2.1 y10.2.2.1 y10.2.2.2.1 y10.2.2.2.2.1).bind fun y11 =>
          (law52_same.f k a0 a1 a2 a3 a4 a5 a6 a7 a8 a9 a10 a11 a12 a13 a14 a15 a16 a17 a18 a19 a20 a21).bind fun y12 =>
          some (y11 == y12))) fun (c13 : Bool) =>
      some c13))
abbrev law52_ResumeRoundTrip.E (k : Nat) : Ent := ⟨law52_ResumeRoundTrip.A, law52_ResumeRoundTrip.R, Bool, fun x => law52_ResumeRoundTrip.f k x.2.1.1 x.2.1.2.1 x.2.1.2.2.1 x.2.1.2.2.2.1 x.2.1.2.2.2.2.1 x.2.1.2.2.2.2.2.1 x.2.1.2.2.2.2.2.2.1 x.2.1.2.2.2.2.2.2.2.1 x.2.1.2.2.2.2.2.2.2.2.1 x.2.1.2.2.2.2.2.2.2.2.2.1 x.2.1.2.2.2.2.2.2.2.2.2.2.1 x.2.2.1.1 x.2.2.1.2.1 x.2.2.1.2.2.1 x.2.2.1.2.2.2.1 x.2.2.1.2.2.2.2.1 x.2.2.1.2.2.2.2.2.1 x.2.2.1.2.2.2.2.2.2.1 x.2.2.1.2.2.2.2.2.2.2.1 x.2.2.1.2.2.2.2.2.2.2.2.1 x.2.2.1.2.2.2.2.2.2.2.2.2.1 x.2.2.1.2.2.2.2.2.2.2.2.2.2.1, fun y => ((), (y, ()))⟩
noncomputable abbrev law52_ResumeRoundTrip.C (k : Nat) : Cfg := ⟨Try.prog, shs, look [(11, codec_Equal.E k), (10, codec_Valid.E k), (8, law52_same.E k), (6, resume_Decode.E k), (9, resume_Encode.E k)], look []⟩
theorem law52_ResumeRoundTrip.ev (k : Nat) (x : law52_ResumeRoundTrip.A.V) : evF (law52_ResumeRoundTrip.C k) Try.f4 law52_ResumeRoundTrip.A law52_ResumeRoundTrip.R (Bool) (fun x => x.2.1) x = law52_ResumeRoundTrip.f k x.2.1.1 x.2.1.2.1 x.2.1.2.2.1 x.2.1.2.2.2.1 x.2.1.2.2.2.2.1 x.2.1.2.2.2.2.2.1 x.2.1.2.2.2.2.2.2.1 x.2.1.2.2.2.2.2.2.2.1 x.2.1.2.2.2.2.2.2.2.2.1 x.2.1.2.2.2.2.2.2.2.2.2.1 x.2.1.2.2.2.2.2.2.2.2.2.2.1 x.2.2.1.1 x.2.2.1.2.1 x.2.2.1.2.2.1 x.2.2.1.2.2.2.1 x.2.2.1.2.2.2.2.1 x.2.2.1.2.2.2.2.2.1 x.2.2.1.2.2.2.2.2.2.1 x.2.2.1.2.2.2.2.2.2.2.1 x.2.2.1.2.2.2.2.2.2.2.2.1 x.2.2.1.2.2.2.2.2.2.2.2.2.1 x.2.2.1.2.2.2.2.2.2.2.2.2.2.1 := by kernel_rfl
theorem law52_ResumeRoundTrip.at : Try.prog.funcs[4]? = some Try.f4 := by kernel_rfl
theorem law52_ResumeRoundTrip.bo : Try.f4.body = some (bodyOf (Try.f4)) := by kernel_rfl
theorem law52_ResumeRoundTrip.nm : (Try.f4.name == "runtime.NumGoroutine") = false := by kernel_rfl
theorem law52_ResumeRoundTrip.sat (k : Nat) : Sat Try.prog 4 (law52_ResumeRoundTrip.E k) :=
  have hC : ∀ g N, (law52_ResumeRoundTrip.C k).orc g = some N → Sat Try.prog g N := satAll (satCons (codec_Equal.sat k) (satCons (codec_Valid.sat k) (satCons (law52_same.sat k) (satCons (resume_Decode.sat k) (satCons (resume_Encode.sat k) satNil)))))
  sat_of (C := law52_ResumeRoundTrip.C k) hC mixed law52_ResumeRoundTrip.at law52_ResumeRoundTrip.nm law52_ResumeRoundTrip.bo (all_pieces rfl locNil) (law52_ResumeRoundTrip.ev k) (fun _ => rfl) rfl
end Gv
