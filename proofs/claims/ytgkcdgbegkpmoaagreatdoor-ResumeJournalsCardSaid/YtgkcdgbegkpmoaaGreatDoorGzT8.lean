import Derived.Test.YtgkcdgbegkpmoaaGreatDoorGzT6
namespace Gv
open Go Go.Proofs
set_option linter.unusedVariables false
set_option linter.unusedSectionVars false
set_option maxRecDepth 1000000

section
/-! ### ref52_blank: function 61 (examboard/examboardref52.blank) -/
abbrev ref52_blank.A : Sig := ⟨1, [], (.nilL), [0], (.cons (.agg (.cons (.v (.int .i64)) (.cons (.v (.sl (.int .i64))) (.cons (.v (.int .i64)) (.cons (.v .str) (.cons (.v .bool) .nilL)))))) .nilL)⟩
abbrev ref52_blank.R0 : Sig := ⟨1, [], (.nilL), [0], (.cons (.v .bool) .nilL)⟩
abbrev ref52_blank.outs : List Out := [⟨.ret, ref52_blank.R0, Bool, fun y => ((), (y, ())), fun x => x.2.1⟩]
def ref52_blank.f (k : Nat) (a0 : Int) (a1 : List Int) (a2 : Int) (a3 : ByteArray) (a4 : Bool) : Option (Bool) :=
  Option.bind (cond (a0 == 0)
    (some ((a1.length : Int) == 0))
    (some false)) fun (c1 : Bool) =>
  Option.bind (cond c1
    (some (a2 == 0))
    (some false)) fun (c2 : Bool) =>
  Option.bind (cond c2
    (some (a3.toList == (⟨#[]⟩ : ByteArray).toList))
    (some false)) fun (c3 : Bool) =>
  Option.bind (cond c3
    (some (!a4))
    (some false)) fun (c4 : Bool) =>
  some c4
abbrev ref52_blank.E (k : Nat) : Ent := ⟨ref52_blank.A, ref52_blank.outs, fun x => ref52_blank.f k x.2.1.1 x.2.1.2.1 x.2.1.2.2.1 x.2.1.2.2.2.1 x.2.1.2.2.2.2.1⟩
noncomputable abbrev ref52_blank.C (k : Nat) : Cfg := ⟨Tryz.prog, shs, look2 [], look []⟩
theorem ref52_blank.ev (k : Nat) (x : ref52_blank.A.V) : evF (ref52_blank.C k) Tryz.f61 ref52_blank.A ref52_blank.outs x = ref52_blank.f k x.2.1.1 x.2.1.2.1 x.2.1.2.2.1 x.2.1.2.2.2.1 x.2.1.2.2.2.2.1 := by kernel_rfl
theorem ref52_blank.at : Tryz.prog.funcs[61]? = some Tryz.f61 := by kernel_rfl
theorem ref52_blank.bo : Tryz.f61.body = some (bodyOf (Tryz.f61)) := by kernel_rfl
theorem ref52_blank.nm : (Tryz.f61.name == "runtime.NumGoroutine") = false := by kernel_rfl
theorem ref52_blank.sat (k : Nat) : Sat Tryz.prog 61 (ref52_blank.E k) :=
  have hC : ∀ g l N, (ref52_blank.C k).orc g l = some N → Sat Tryz.prog g N := satAll satNil
  sat_of (C := ref52_blank.C k) hC mixed ref52_blank.at ref52_blank.nm ref52_blank.bo (all_pieces rfl locNil) (ref52_blank.ev k) (ooC (fun _ => rfl) ooN) (dstOk_zero _) (by decide) rfl

/-! ### ref52_check: function 37 (examboard/examboardref52.check) -/
abbrev ref52_check.A : Sig := ⟨1, [], (.nilL), [0], (.cons (.agg (.cons (.v (.int .i64)) (.cons (.v (.int .i64)) (.cons (.v (.int .i64)) (.cons (.v (.sl (.int .i64))) (.cons (.v (.int .i64)) (.cons (.v .str) (.cons (.v .bool) (.cons (.v (.int .i64)) (.cons (.v (.int .i64)) (.cons (.v (.int .i64)) (.cons (.v (.int .i64)) .nilL)))))))))))) .nilL)⟩
abbrev ref52_check.R0 : Sig := ⟨1, [], (.nilL), [0], (.cons (.v (.int .i64)) .nilL)⟩
abbrev ref52_check.outs : List Out := [⟨.ret, ref52_check.R0, Int, fun y => ((), (y, ())), fun x => x.2.1⟩]
def ref52_check.f (k : Nat) (a0 : Int) (a1 : Int) (a2 : Int) (a3 : List Int) (a4 : Int) (a5 : ByteArray) (a6 : Bool) (a7 : Int) (a8 : Int) (a9 : Int) (a10 : Int) : Option (Int) :=
  Option.bind (cond (decide (a0 < 1))
    (some true)
    (some (decide (a0 > 6)))) fun (c1 : Bool) =>
  cond c1
  (some 1)
  (Option.bind (cond (a0 != 2)
      ((ref52_blank.f k a2 a3 a4 a5 a6).bind fun y2 =>
        some (!y2))
      (some false)) fun (c3 : Bool) =>
    cond c3
    (some 1)
    (Option.bind (cond (a0 != 5)
        (some (!((a7 == 0) && ((a8 == 0) && ((a9 == 0) && ((a10 == 0) && true))))))
        (some false)) fun (c4 : Bool) =>
      cond c4
      (some 1)
      (Option.bind (cond (a0 == 5)
          (some (a8 != a1))
          (some false)) fun (c5 : Bool) =>
        cond c5
        (some 1)
        (Option.bind (cond (decide (a1 < 0))
            (some true)
            (some (decide (a1 > 1099511627776)))) fun (c6 : Bool) =>
          cond c6
          (some 3)
          (Option.bind (cond (decide ((a3.length : Int) > 10))
              (some true)
              (some (decide ((a5.size : Int) > 1000)))) fun (c7 : Bool) =>
            cond c7
            (some 5)
            (some 0))))))
abbrev ref52_check.E (k : Nat) : Ent := ⟨ref52_check.A, ref52_check.outs, fun x => ref52_check.f k x.2.1.1 x.2.1.2.1 x.2.1.2.2.1 x.2.1.2.2.2.1 x.2.1.2.2.2.2.1 x.2.1.2.2.2.2.2.1 x.2.1.2.2.2.2.2.2.1 x.2.1.2.2.2.2.2.2.2.1 x.2.1.2.2.2.2.2.2.2.2.1 x.2.1.2.2.2.2.2.2.2.2.2.1 x.2.1.2.2.2.2.2.2.2.2.2.2.1⟩
noncomputable abbrev ref52_check.C (k : Nat) : Cfg := ⟨Tryz.prog, shs, look2 [(61, [], ref52_blank.E k)], look []⟩
theorem ref52_check.ev (k : Nat) (x : ref52_check.A.V) : evF (ref52_check.C k) Tryz.f37 ref52_check.A ref52_check.outs x = ref52_check.f k x.2.1.1 x.2.1.2.1 x.2.1.2.2.1 x.2.1.2.2.2.1 x.2.1.2.2.2.2.1 x.2.1.2.2.2.2.2.1 x.2.1.2.2.2.2.2.2.1 x.2.1.2.2.2.2.2.2.2.1 x.2.1.2.2.2.2.2.2.2.2.1 x.2.1.2.2.2.2.2.2.2.2.2.1 x.2.1.2.2.2.2.2.2.2.2.2.2.1 := by kernel_rfl
theorem ref52_check.at : Tryz.prog.funcs[37]? = some Tryz.f37 := by kernel_rfl
theorem ref52_check.bo : Tryz.f37.body = some (bodyOf (Tryz.f37)) := by kernel_rfl
theorem ref52_check.nm : (Tryz.f37.name == "runtime.NumGoroutine") = false := by kernel_rfl
theorem ref52_check.sat (k : Nat) : Sat Tryz.prog 37 (ref52_check.E k) :=
  have hC : ∀ g l N, (ref52_check.C k).orc g l = some N → Sat Tryz.prog g N := satAll (satCons (ref52_blank.sat k) satNil)
  sat_of (C := ref52_check.C k) hC mixed ref52_check.at ref52_check.nm ref52_check.bo (all_pieces rfl locNil) (ref52_check.ev k) (ooC (fun _ => rfl) ooN) (dstOk_zero _) (by decide) rfl

/-! ### ref10_Int: function 62 (examboard/examboardref10.Int) -/
abbrev ref10_Int.A : Sig := ⟨2, [], (.nilL), [0, 1], (.cons (.v (.int .i64)) (.cons (.v (.int .i64)) .nilL))⟩
abbrev ref10_Int.R0 : Sig := ⟨1, [], (.nilL), [0], (.cons (.agg (.cons (.v (.int .i64)) (.cons (.v (.int .i64)) (.cons (.v (.int .i64)) (.cons (.v .str) (.cons (.v (.sl .node)) .nilL)))))) .nilL)⟩
abbrev ref10_Int.outs : List Out := [⟨.ret, ref10_Int.R0, Int × Int × Int × ByteArray × List Nd, fun y => ((), ((y.1, y.2.1, y.2.2.1, y.2.2.2.1, y.2.2.2.2, ()), ())), fun x => (x.2.1.1, x.2.1.2.1, x.2.1.2.2.1, x.2.1.2.2.2.1, x.2.1.2.2.2.2.1)⟩]
def ref10_Int.f (k : Nat) (a0 : Int) (a1 : Int) : Option (Int × Int × Int × ByteArray × List Nd) :=
  some (a0, 1, a1, (⟨#[]⟩ : ByteArray), ([] : List Nd))
abbrev ref10_Int.E (k : Nat) : Ent := ⟨ref10_Int.A, ref10_Int.outs, fun x => ref10_Int.f k x.2.1 x.2.2.1⟩
noncomputable abbrev ref10_Int.C (k : Nat) : Cfg := ⟨Tryz.prog, shs, look2 [], look []⟩
theorem ref10_Int.ev (k : Nat) (x : ref10_Int.A.V) : evF (ref10_Int.C k) Tryz.f62 ref10_Int.A ref10_Int.outs x = ref10_Int.f k x.2.1 x.2.2.1 := by kernel_rfl
theorem ref10_Int.at : Tryz.prog.funcs[62]? = some Tryz.f62 := by kernel_rfl
theorem ref10_Int.bo : Tryz.f62.body = some (bodyOf (Tryz.f62)) := by kernel_rfl
theorem ref10_Int.nm : (Tryz.f62.name == "runtime.NumGoroutine") = false := by kernel_rfl
theorem ref10_Int.sat (k : Nat) : Sat Tryz.prog 62 (ref10_Int.E k) :=
  have hC : ∀ g l N, (ref10_Int.C k).orc g l = some N → Sat Tryz.prog g N := satAll satNil
  sat_of (C := ref10_Int.C k) hC mixed ref10_Int.at ref10_Int.nm ref10_Int.bo (all_pieces rfl locNil) (ref10_Int.ev k) (ooC (fun _ => rfl) ooN) (dstOk_zero _) (by decide) rfl

/-! ### ref52_number: function 38 (examboard/examboardref52.number) -/
abbrev ref52_number.A : Sig := ⟨2, [], (.nilL), [0, 1], (.cons (.v (.int .i64)) (.cons (.v (.int .i64)) .nilL))⟩
abbrev ref52_number.R0 : Sig := ⟨1, [], (.nilL), [0], (.cons (.agg (.cons (.v (.int .i64)) (.cons (.v (.int .i64)) (.cons (.v (.int .i64)) (.cons (.v .str) (.cons (.v (.sl .node)) .nilL)))))) .nilL)⟩
abbrev ref52_number.outs : List Out := [⟨.ret, ref52_number.R0, Int × Int × Int × ByteArray × List Nd, fun y => ((), ((y.1, y.2.1, y.2.2.1, y.2.2.2.1, y.2.2.2.2, ()), ())), fun x => (x.2.1.1, x.2.1.2.1, x.2.1.2.2.1, x.2.1.2.2.2.1, x.2.1.2.2.2.2.1)⟩]
def ref52_number.f (k : Nat) (a0 : Int) (a1 : Int) : Option (Int × Int × Int × ByteArray × List Nd) :=
  (ref10_Int.f k a0 a1).bind fun y1 =>
  some (y1.1, y1.2.1, y1.2.2.1, y1.2.2.2.1, y1.2.2.2.2)
abbrev ref52_number.E (k : Nat) : Ent := ⟨ref52_number.A, ref52_number.outs, fun x => ref52_number.f k x.2.1 x.2.2.1⟩
noncomputable abbrev ref52_number.C (k : Nat) : Cfg := ⟨Tryz.prog, shs, look2 [(62, [], ref10_Int.E k)], look []⟩
theorem ref52_number.ev (k : Nat) (x : ref52_number.A.V) : evF (ref52_number.C k) Tryz.f38 ref52_number.A ref52_number.outs x = ref52_number.f k x.2.1 x.2.2.1 := by kernel_rfl
theorem ref52_number.at : Tryz.prog.funcs[38]? = some Tryz.f38 := by kernel_rfl
theorem ref52_number.bo : Tryz.f38.body = some (bodyOf (Tryz.f38)) := by kernel_rfl
theorem ref52_number.nm : (Tryz.f38.name == "runtime.NumGoroutine") = false := by kernel_rfl
theorem ref52_number.sat (k : Nat) : Sat Tryz.prog 38 (ref52_number.E k) :=
  have hC : ∀ g l N, (ref52_number.C k).orc g l = some N → Sat Tryz.prog g N := satAll (satCons (ref10_Int.sat k) satNil)
  sat_of (C := ref52_number.C k) hC mixed ref52_number.at ref52_number.nm ref52_number.bo (all_pieces rfl locNil) (ref52_number.ev k) (ooC (fun _ => rfl) ooN) (dstOk_zero _) (by decide) rfl

/-! ### ref10_Copy: function 63 (examboard/examboardref10.Copy) -/
abbrev ref10_Copy.A : Sig := ⟨1, [], (.nilL), [0], (.cons (.agg (.cons (.v (.int .i64)) (.cons (.v (.int .i64)) (.cons (.v (.int .i64)) (.cons (.v .str) (.cons (.v (.sl .node)) .nilL)))))) .nilL)⟩
abbrev ref10_Copy.R0 : Sig := ⟨1, [], (.nilL), [0], (.cons (.agg (.cons (.v (.int .i64)) (.cons (.v (.int .i64)) (.cons (.v (.int .i64)) (.cons (.v .str) (.cons (.v (.sl .node)) .nilL)))))) .nilL)⟩
abbrev ref10_Copy.outs : List Out := [⟨.ret, ref10_Copy.R0, Int × Int × Int × ByteArray × List Nd, fun y => ((), ((y.1, y.2.1, y.2.2.1, y.2.2.2.1, y.2.2.2.2, ()), ())), fun x => (x.2.1.1, x.2.1.2.1, x.2.1.2.2.1, x.2.1.2.2.2.1, x.2.1.2.2.2.2.1)⟩]
abbrev ref10_Copy.l58.A : Sig := ⟨33, [.slot 1, .slot 2, .cell 1 4, .slot 3, .cell 3 4], (.cons (.obox (.cons (.v (.int .i64)) (.cons (.v (.int .i64)) (.cons (.v (.int .i64)) (.cons (.v .str) (.cons (.v (.sl .node)) .nilL)))))) (.cons (.obox (.cons (.v (.int .i64)) (.cons (.v (.int .i64)) (.cons (.v (.int .i64)) (.cons (.v .str) (.cons (.rowr 2) .nilL)))))) (.cons (.orow 42 .node) (.cons (.obox (.cons (.v (.int .i64)) (.cons (.v (.int .i64)) (.cons (.v (.int .i64)) (.cons (.v .str) (.cons (.rowr 4) .nilL)))))) (.cons (.orow 42 .node) .nilL))))), [1, 2, 3, 4], (.cons (.boxr 0 0) (.cons (.boxr 1 0) (.cons (.boxr 3 0) (.cons (.v (.int .i64)) .nilL))))⟩
abbrev ref10_Copy.l58.R0 : Sig := ⟨33, [.slot 2, .cell 0 4, .slot 3, .cell 2 4], (.cons (.obox (.cons (.v (.int .i64)) (.cons (.v (.int .i64)) (.cons (.v (.int .i64)) (.cons (.v .str) (.cons (.rowr 1) .nilL)))))) (.cons (.orow 42 .node) (.cons (.obox (.cons (.v (.int .i64)) (.cons (.v (.int .i64)) (.cons (.v (.int .i64)) (.cons (.v .str) (.cons (.rowr 3) .nilL)))))) (.cons (.orow 42 .node) .nilL)))), [2, 3], (.cons (.boxr 0 0) (.cons (.boxr 2 0) .nilL))⟩
abbrev ref10_Copy.l58.outs : List Out := [⟨(.exit 0), ref10_Copy.l58.R0, Int × Int × Int × ByteArray × List Nd × Int × Int × Int × ByteArray × List Nd, fun y => (((y.1, y.2.1, y.2.2.1, y.2.2.2.1, (), ()), y.2.2.2.2.1, (y.2.2.2.2.2.1, y.2.2.2.2.2.2.1, y.2.2.2.2.2.2.2.1, y.2.2.2.2.2.2.2.2.1, (), ()), y.2.2.2.2.2.2.2.2.2, ()), ((), (), ())), fun x => (x.1.1.1, x.1.1.2.1, x.1.1.2.2.1, x.1.1.2.2.2.1, x.1.2.1, x.1.2.2.1.1, x.1.2.2.1.2.1, x.1.2.2.1.2.2.1, x.1.2.2.1.2.2.2.1, x.1.2.2.2.1)⟩]
def ref10_Copy.l58 (self : Int → Int → Int → ByteArray → (List Nd) → Option (Int × Int × Int × ByteArray × List Nd)) (k : Nat) : Nat → Int → Int → Int → ByteArray → (List Nd) → Int → Int → Int → ByteArray → (List Nd) → Int → Int → Int → ByteArray → (List Nd) → Int → Option (Int × Int × Int × ByteArray × List Nd × Int × Int × Int × ByteArray × List Nd)
  | 0, _, _, _, _, _, _, _, _, _, _, _, _, _, _, _, _ => none
  | q + 1, x0, x1, x2, x3, x4, x5, x6, x7, x8, x9, x10, x11, x12, x13, x14, x15 =>
    cond (decide (x15 < (x4.length : Int)))
    (cond (inB x15 x4.length)
      ((self ((rdL .node x4 x15).tag) ((rdL .node x4 x15).kind) ((rdL .node x4 x15).n) ((rdL .node x4 x15).s) ((rdL .node x4 x15).kids)).bind fun y2 =>
        cond (fits (x14.length + 1) 64)
        (ref10_Copy.l58 self k q x0 x1 x2 x3 x4 x5 x6 x7 x8 x9 x10 x11 x12 x13 (x14 ++ [(⟨y2.1, y2.2.1, y2.2.2.1, y2.2.2.2.1, y2.2.2.2.2⟩ : Nd)]) (IntKind.wrap .i64 (x15 + 1)))
        (none))
      (none))
    (some (x5, x6, x7, x8, x9, x10, x11, x12, x13, x14))
abbrev ref10_Copy.l58.pc (self : Int → Int → Int → ByteArray → (List Nd) → Option (Int × Int × Int × ByteArray × List Nd)) (k : Nat) : Pc := ⟨ref10_Copy.l58.A, ref10_Copy.l58.outs, fun x => ref10_Copy.l58 self k k x.1.1.1 x.1.1.2.1 x.1.1.2.2.1 x.1.1.2.2.2.1 x.1.1.2.2.2.2.1 x.1.2.1.1 x.1.2.1.2.1 x.1.2.1.2.2.1 x.1.2.1.2.2.2.1 x.1.2.2.1 x.1.2.2.2.1.1 x.1.2.2.2.1.2.1 x.1.2.2.2.1.2.2.1 x.1.2.2.2.1.2.2.2.1 x.1.2.2.2.2.1 x.2.2.2.2.1⟩
def ref10_Copy.g (self : Int → Int → Int → ByteArray → (List Nd) → Option (Int × Int × Int × ByteArray × List Nd)) (k : Nat) (a0 : Int) (a1 : Int) (a2 : Int) (a3 : ByteArray) (a4 : List Nd) : Option (Int × Int × Int × ByteArray × List Nd) :=
  (ref10_Copy.l58 self k k a0 a1 a2 a3 a4 0 0 0 (⟨#[]⟩ : ByteArray) ([] : List Nd) a0 a1 a2 a3 ([] : List Nd) 0).bind fun y3 =>
  some (y3.2.2.2.2.2.1, y3.2.2.2.2.2.2.1, y3.2.2.2.2.2.2.2.1, y3.2.2.2.2.2.2.2.2.1, y3.2.2.2.2.2.2.2.2.2)
def ref10_Copy.f : Nat → Int → Int → Int → ByteArray → (List Nd) → Option (Int × Int × Int × ByteArray × List Nd)
  | 0, _, _, _, _, _ => none
  | k + 1, a0, a1, a2, a3, a4 => ref10_Copy.g (ref10_Copy.f k) k a0 a1 a2 a3 a4
abbrev ref10_Copy.ES (self : Int → Int → Int → ByteArray → (List Nd) → Option (Int × Int × Int × ByteArray × List Nd)) : Ent := ⟨ref10_Copy.A, ref10_Copy.outs, fun x => self x.2.1.1 x.2.1.2.1 x.2.1.2.2.1 x.2.1.2.2.2.1 x.2.1.2.2.2.2.1⟩
abbrev ref10_Copy.E (k : Nat) : Ent := ⟨ref10_Copy.A, ref10_Copy.outs, fun x => ref10_Copy.f k x.2.1.1 x.2.1.2.1 x.2.1.2.2.1 x.2.1.2.2.2.1 x.2.1.2.2.2.2.1⟩
noncomputable abbrev ref10_Copy.C (self : Int → Int → Int → ByteArray → (List Nd) → Option (Int × Int × Int × ByteArray × List Nd)) (k : Nat) : Cfg := ⟨Tryz.prog, shs, look2 [(63, [], ref10_Copy.ES self)], look [(58, ref10_Copy.l58.pc self k)]⟩
theorem ref10_Copy.l58.ev (self : Int → Int → Int → ByteArray → (List Nd) → Option (Int × Int × Int × ByteArray × List Nd)) (k q : Nat) (x : ref10_Copy.l58.A.V) : ((codeAt 60 (bodyOf (Tryz.f63)) 58).bind fun c => (loopOf c).bind fun c1 => evL (ref10_Copy.C self k) c1 58 ref10_Copy.l58.A ref10_Copy.l58.outs (fun x => ref10_Copy.l58 self k q x.1.1.1 x.1.1.2.1 x.1.1.2.2.1 x.1.1.2.2.2.1 x.1.1.2.2.2.2.1 x.1.2.1.1 x.1.2.1.2.1 x.1.2.1.2.2.1 x.1.2.1.2.2.2.1 x.1.2.2.1 x.1.2.2.2.1.1 x.1.2.2.2.1.2.1 x.1.2.2.2.1.2.2.1 x.1.2.2.2.1.2.2.2.1 x.1.2.2.2.2.1 x.2.2.2.2.1) x) = ref10_Copy.l58 self k (q + 1) x.1.1.1 x.1.1.2.1 x.1.1.2.2.1 x.1.1.2.2.2.1 x.1.1.2.2.2.2.1 x.1.2.1.1 x.1.2.1.2.1 x.1.2.1.2.2.1 x.1.2.1.2.2.2.1 x.1.2.2.1 x.1.2.2.2.1.1 x.1.2.2.2.1.2.1 x.1.2.2.2.1.2.2.1 x.1.2.2.2.1.2.2.2.1 x.1.2.2.2.2.1 x.2.2.2.2.1 := by kernel_rfl
theorem ref10_Copy.ev (self : Int → Int → Int → ByteArray → (List Nd) → Option (Int × Int × Int × ByteArray × List Nd)) (k : Nat) (x : ref10_Copy.A.V) : evF (ref10_Copy.C self k) Tryz.f63 ref10_Copy.A ref10_Copy.outs x = ref10_Copy.g self k x.2.1.1 x.2.1.2.1 x.2.1.2.2.1 x.2.1.2.2.2.1 x.2.1.2.2.2.2.1 := by kernel_rfl
theorem ref10_Copy.at : Tryz.prog.funcs[63]? = some Tryz.f63 := by kernel_rfl
theorem ref10_Copy.bo : Tryz.f63.body = some (bodyOf (Tryz.f63)) := by kernel_rfl
theorem ref10_Copy.nm : (Tryz.f63.name == "runtime.NumGoroutine") = false := by kernel_rfl
theorem ref10_Copy.satS (self : Int → Int → Int → ByteArray → (List Nd) → Option (Int × Int × Int × ByteArray × List Nd)) (k : Nat) (hS : Sat Tryz.prog 63 (ref10_Copy.ES self)) : Sat Tryz.prog 63 ⟨ref10_Copy.A, ref10_Copy.outs, fun x => ref10_Copy.g self k x.2.1.1 x.2.1.2.1 x.2.1.2.2.1 x.2.1.2.2.2.1 x.2.1.2.2.2.2.1⟩ :=
  have hC : ∀ g l N, (ref10_Copy.C self k).orc g l = some N → Sat Tryz.prog g N := satAll (satCons hS satNil)
  sat_of (C := ref10_Copy.C self k) hC mixed ref10_Copy.at ref10_Copy.nm ref10_Copy.bo (all_pieces rfl (locCons (loc_loop (A := ref10_Copy.l58.A) (outs := ref10_Copy.l58.outs) hC mixed (dstOk_zero _) (fun (q : Nat) (x : ref10_Copy.l58.A.V) => ref10_Copy.l58 self k q x.1.1.1 x.1.1.2.1 x.1.1.2.2.1 x.1.1.2.2.2.1 x.1.1.2.2.2.2.1 x.1.2.1.1 x.1.2.1.2.1 x.1.2.1.2.2.1 x.1.2.1.2.2.2.1 x.1.2.2.1 x.1.2.2.2.1.1 x.1.2.2.2.1.2.1 x.1.2.2.2.1.2.2.1 x.1.2.2.2.1.2.2.2.1 x.1.2.2.2.2.1 x.2.2.2.2.1) (fun _ => rfl) (ref10_Copy.l58.ev self k) (ooC (fun _ => rfl) ooN) rfl rfl k) locNil)) (ref10_Copy.ev self k) (ooC (fun _ => rfl) ooN) (dstOk_zero _) (by decide) rfl
theorem ref10_Copy.sat : ∀ k, Sat Tryz.prog 63 (ref10_Copy.E k)
  | 0 => sat_none ref10_Copy.at ref10_Copy.nm ref10_Copy.bo (fun _ => rfl)
  | k + 1 => ref10_Copy.satS (ref10_Copy.f k) k (ref10_Copy.sat k)

/-! ### ref10_List: function 39 (examboard/examboardref10.List) -/
abbrev ref10_List.A : Sig := ⟨2, [], (.nilL), [0, 1], (.cons (.v (.int .i64)) (.cons (.v (.sl .node)) .nilL))⟩
abbrev ref10_List.R0 : Sig := ⟨1, [], (.nilL), [0], (.cons (.agg (.cons (.v (.int .i64)) (.cons (.v (.int .i64)) (.cons (.v (.int .i64)) (.cons (.v .str) (.cons (.v (.sl .node)) .nilL)))))) .nilL)⟩
abbrev ref10_List.outs : List Out := [⟨.ret, ref10_List.R0, Int × Int × Int × ByteArray × List Nd, fun y => ((), ((y.1, y.2.1, y.2.2.1, y.2.2.2.1, y.2.2.2.2, ()), ())), fun x => (x.2.1.1, x.2.1.2.1, x.2.1.2.2.1, x.2.1.2.2.2.1, x.2.1.2.2.2.2.1)⟩]
def ref10_List.f (k : Nat) (a0 : Int) (a1 : List Nd) : Option (Int × Int × Int × ByteArray × List Nd) :=
  (ref10_Copy.f k a0 3 0 (⟨#[]⟩ : ByteArray) a1).bind fun y1 =>
  some (y1.1, y1.2.1, y1.2.2.1, y1.2.2.2.1, y1.2.2.2.2)
abbrev ref10_List.E (k : Nat) : Ent := ⟨ref10_List.A, ref10_List.outs, fun x => ref10_List.f k x.2.1 x.2.2.1⟩
noncomputable abbrev ref10_List.C (k : Nat) : Cfg := ⟨Tryz.prog, shs, look2 [(63, [], ref10_Copy.E k)], look []⟩
theorem ref10_List.ev (k : Nat) (x : ref10_List.A.V) : evF (ref10_List.C k) Tryz.f39 ref10_List.A ref10_List.outs x = ref10_List.f k x.2.1 x.2.2.1 := by kernel_rfl
theorem ref10_List.at : Tryz.prog.funcs[39]? = some Tryz.f39 := by kernel_rfl
theorem ref10_List.bo : Tryz.f39.body = some (bodyOf (Tryz.f39)) := by kernel_rfl
theorem ref10_List.nm : (Tryz.f39.name == "runtime.NumGoroutine") = false := by kernel_rfl
theorem ref10_List.sat (k : Nat) : Sat Tryz.prog 39 (ref10_List.E k) :=
  have hC : ∀ g l N, (ref10_List.C k).orc g l = some N → Sat Tryz.prog g N := satAll (satCons (ref10_Copy.sat k) satNil)
  sat_of (C := ref10_List.C k) hC mixed ref10_List.at ref10_List.nm ref10_List.bo (all_pieces rfl locNil) (ref10_List.ev k) (ooC (fun _ => rfl) ooN) (dstOk_zero _) (by decide) rfl

/-! ### ref10_String: function 40 (examboard/examboardref10.String) -/
abbrev ref10_String.A : Sig := ⟨2, [], (.nilL), [0, 1], (.cons (.v (.int .i64)) (.cons (.v .str) .nilL))⟩
abbrev ref10_String.R0 : Sig := ⟨1, [], (.nilL), [0], (.cons (.agg (.cons (.v (.int .i64)) (.cons (.v (.int .i64)) (.cons (.v (.int .i64)) (.cons (.v .str) (.cons (.v (.sl .node)) .nilL)))))) .nilL)⟩
abbrev ref10_String.outs : List Out := [⟨.ret, ref10_String.R0, Int × Int × Int × ByteArray × List Nd, fun y => ((), ((y.1, y.2.1, y.2.2.1, y.2.2.2.1, y.2.2.2.2, ()), ())), fun x => (x.2.1.1, x.2.1.2.1, x.2.1.2.2.1, x.2.1.2.2.2.1, x.2.1.2.2.2.2.1)⟩]
def ref10_String.f (k : Nat) (a0 : Int) (a1 : ByteArray) : Option (Int × Int × Int × ByteArray × List Nd) :=
  some (a0, 2, 0, a1, ([] : List Nd))
abbrev ref10_String.E (k : Nat) : Ent := ⟨ref10_String.A, ref10_String.outs, fun x => ref10_String.f k x.2.1 x.2.2.1⟩
noncomputable abbrev ref10_String.C (k : Nat) : Cfg := ⟨Tryz.prog, shs, look2 [], look []⟩
theorem ref10_String.ev (k : Nat) (x : ref10_String.A.V) : evF (ref10_String.C k) Tryz.f40 ref10_String.A ref10_String.outs x = ref10_String.f k x.2.1 x.2.2.1 := by kernel_rfl
theorem ref10_String.at : Tryz.prog.funcs[40]? = some Tryz.f40 := by kernel_rfl
theorem ref10_String.bo : Tryz.f40.body = some (bodyOf (Tryz.f40)) := by kernel_rfl
theorem ref10_String.nm : (Tryz.f40.name == "runtime.NumGoroutine") = false := by kernel_rfl
theorem ref10_String.sat (k : Nat) : Sat Tryz.prog 40 (ref10_String.E k) :=
  have hC : ∀ g l N, (ref10_String.C k).orc g l = some N → Sat Tryz.prog g N := satAll satNil
  sat_of (C := ref10_String.C k) hC mixed ref10_String.at ref10_String.nm ref10_String.bo (all_pieces rfl locNil) (ref10_String.ev k) (ooC (fun _ => rfl) ooN) (dstOk_zero _) (by decide) rfl

/-! ### ref52_Encode: function 14 (examboard/examboardref52.Encode) -/
abbrev ref52_Encode.A : Sig := ⟨1, [], (.nilL), [0], (.cons (.agg (.cons (.v (.int .i64)) (.cons (.v (.int .i64)) (.cons (.v (.int .i64)) (.cons (.v (.sl (.int .i64))) (.cons (.v (.int .i64)) (.cons (.v .str) (.cons (.v .bool) (.cons (.v (.int .i64)) (.cons (.v (.int .i64)) (.cons (.v (.int .i64)) (.cons (.v (.int .i64)) .nilL)))))))))))) .nilL)⟩
abbrev ref52_Encode.R0 : Sig := ⟨1, [], (.nilL), [0], (.cons (.tup (.cons (.agg (.cons (.v (.int .i64)) (.cons (.v (.int .i64)) (.cons (.v (.int .i64)) (.cons (.v .str) (.cons (.v (.sl .node)) .nilL)))))) (.cons (.v (.int .i64)) .nilL))) .nilL)⟩
abbrev ref52_Encode.outs : List Out := [⟨.ret, ref52_Encode.R0, Int × Int × Int × ByteArray × List Nd × Int, fun y => ((), (((y.1, y.2.1, y.2.2.1, y.2.2.2.1, y.2.2.2.2.1, ()), y.2.2.2.2.2, ()), ())), fun x => (x.2.1.1.1, x.2.1.1.2.1, x.2.1.1.2.2.1, x.2.1.1.2.2.2.1, x.2.1.1.2.2.2.2.1, x.2.1.2.1)⟩]
abbrev ref52_Encode.l4010.A : Sig := ⟨85, [.slot 1, .slot 2, .cell 1 4, .slot 5, .slot 6], (.cons (.obox (.cons (.v (.int .i64)) (.cons (.v (.int .i64)) (.cons (.v (.int .i64)) (.cons (.v (.sl (.int .i64))) (.cons (.v (.int .i64)) (.cons (.v .str) (.cons (.v .bool) (.cons (.v (.int .i64)) (.cons (.v (.int .i64)) (.cons (.v (.int .i64)) (.cons (.v (.int .i64)) .nilL)))))))))))) (.cons (.obox (.cons (.v (.int .i64)) (.cons (.v (.int .i64)) (.cons (.v (.int .i64)) (.cons (.v .str) (.cons (.rowr 2) .nilL)))))) (.cons (.orow 42 .node) (.cons (.orow 42 .node) (.cons (.orow 42 .node) .nilL))))), [1, 2, 5, 6, 7], (.cons (.boxr 0 0) (.cons (.boxr 1 0) (.cons (.rowr 3) (.cons (.rowr 4) (.cons (.v (.int .i64)) .nilL)))))⟩
abbrev ref52_Encode.l4010.R0 : Sig := ⟨85, [.slot 1, .slot 2, .cell 1 4, .slot 5, .slot 6], (.cons (.obox (.cons (.v (.int .i64)) (.cons (.v (.int .i64)) (.cons (.v (.int .i64)) (.cons (.v (.sl (.int .i64))) (.cons (.v (.int .i64)) (.cons (.v .str) (.cons (.v .bool) (.cons (.v (.int .i64)) (.cons (.v (.int .i64)) (.cons (.v (.int .i64)) (.cons (.v (.int .i64)) .nilL)))))))))))) (.cons (.obox (.cons (.v (.int .i64)) (.cons (.v (.int .i64)) (.cons (.v (.int .i64)) (.cons (.v .str) (.cons (.rowr 2) .nilL)))))) (.cons (.orow 42 .node) (.cons (.orow 42 .node) (.cons (.orow 42 .node) .nilL))))), [1, 2, 5, 6], (.cons (.boxr 0 0) (.cons (.boxr 1 0) (.cons (.rowr 3) (.cons (.rowr 4) .nilL))))⟩
abbrev ref52_Encode.l4010.outs : List Out := [⟨(.exit 0), ref52_Encode.l4010.R0, Int × Int × Int × List Int × Int × ByteArray × Bool × Int × Int × Int × Int × Int × Int × Int × ByteArray × List Nd × List Nd × List Nd, fun y => (((y.1, y.2.1, y.2.2.1, y.2.2.2.1, y.2.2.2.2.1, y.2.2.2.2.2.1, y.2.2.2.2.2.2.1, y.2.2.2.2.2.2.2.1, y.2.2.2.2.2.2.2.2.1, y.2.2.2.2.2.2.2.2.2.1, y.2.2.2.2.2.2.2.2.2.2.1, ()), (y.2.2.2.2.2.2.2.2.2.2.2.1, y.2.2.2.2.2.2.2.2.2.2.2.2.1, y.2.2.2.2.2.2.2.2.2.2.2.2.2.1, y.2.2.2.2.2.2.2.2.2.2.2.2.2.2.1, (), ()), y.2.2.2.2.2.2.2.2.2.2.2.2.2.2.2.1, y.2.2.2.2.2.2.2.2.2.2.2.2.2.2.2.2.1, y.2.2.2.2.2.2.2.2.2.2.2.2.2.2.2.2.2, ()), ((), (), (), (), ())), fun x => (x.1.1.1, x.1.1.2.1, x.1.1.2.2.1, x.1.1.2.2.2.1, x.1.1.2.2.2.2.1, x.1.1.2.2.2.2.2.1, x.1.1.2.2.2.2.2.2.1, x.1.1.2.2.2.2.2.2.2.1, x.1.1.2.2.2.2.2.2.2.2.1, x.1.1.2.2.2.2.2.2.2.2.2.1, x.1.1.2.2.2.2.2.2.2.2.2.2.1, x.1.2.1.1, x.1.2.1.2.1, x.1.2.1.2.2.1, x.1.2.1.2.2.2.1, x.1.2.2.1, x.1.2.2.2.1, x.1.2.2.2.2.1)⟩]
def ref52_Encode.l4010 (k : Nat) : Nat → Int → Int → Int → (List Int) → Int → ByteArray → Bool → Int → Int → Int → Int → Int → Int → Int → ByteArray → (List Nd) → (List Nd) → (List Nd) → Int → Option (Int × Int × Int × List Int × Int × ByteArray × Bool × Int × Int × Int × Int × Int × Int × Int × ByteArray × List Nd × List Nd × List Nd)
  | 0, _, _, _, _, _, _, _, _, _, _, _, _, _, _, _, _, _, _, _ => none
  | q + 1, x0, x1, x2, x3, x4, x5, x6, x7, x8, x9, x10, x11, x12, x13, x14, x15, x16, x17, x18 =>
    cond (decide (x18 < (x3.length : Int)))
    (cond (inB x18 x3.length)
      ((ref52_number.f k 0 (rdL (.int .i64) x3 x18)).bind fun y5 =>
        cond (fits (x17.length + 1) 64)
        (ref52_Encode.l4010 k q x0 x1 x2 x3 x4 x5 x6 x7 x8 x9 x10 x11 x12 x13 x14 x15 x16 (x17 ++ [(⟨y5.1, y5.2.1, y5.2.2.1, y5.2.2.2.1, y5.2.2.2.2⟩ : Nd)]) (IntKind.wrap .i64 (x18 + 1)))
        (none))
      (none))
    (some (x0, x1, x2, x3, x4, x5, x6, x7, x8, x9, x10, x11, x12, x13, x14, x15, x16, x17))
abbrev ref52_Encode.l4010.pc (k : Nat) : Pc := ⟨ref52_Encode.l4010.A, ref52_Encode.l4010.outs, fun x => ref52_Encode.l4010 k k x.1.1.1 x.1.1.2.1 x.1.1.2.2.1 x.1.1.2.2.2.1 x.1.1.2.2.2.2.1 x.1.1.2.2.2.2.2.1 x.1.1.2.2.2.2.2.2.1 x.1.1.2.2.2.2.2.2.2.1 x.1.1.2.2.2.2.2.2.2.2.1 x.1.1.2.2.2.2.2.2.2.2.2.1 x.1.1.2.2.2.2.2.2.2.2.2.2.1 x.1.2.1.1 x.1.2.1.2.1 x.1.2.1.2.2.1 x.1.2.1.2.2.2.1 x.1.2.2.1 x.1.2.2.2.1 x.1.2.2.2.2.1 x.2.2.2.2.2.1⟩
abbrev ref52_Encode.j4014.A : Sig := ⟨85, [.slot 1, .slot 2, .cell 1 4, .slot 5, .slot 6], (.cons (.obox (.cons (.v (.int .i64)) (.cons (.v (.int .i64)) (.cons (.v (.int .i64)) (.cons (.v (.sl (.int .i64))) (.cons (.v (.int .i64)) (.cons (.v .str) (.cons (.v .bool) (.cons (.v (.int .i64)) (.cons (.v (.int .i64)) (.cons (.v (.int .i64)) (.cons (.v (.int .i64)) .nilL)))))))))))) (.cons (.obox (.cons (.v (.int .i64)) (.cons (.v (.int .i64)) (.cons (.v (.int .i64)) (.cons (.v .str) (.cons (.rowr 2) .nilL)))))) (.cons (.orow 42 .node) (.cons (.orow 42 .node) (.cons (.orow 42 .node) .nilL))))), [1, 2, 5, 6, 8], (.cons (.boxr 0 0) (.cons (.boxr 1 0) (.cons (.rowr 3) (.cons (.rowr 4) (.cons (.v (.int .i64)) .nilL)))))⟩
abbrev ref52_Encode.j4014.R0 : Sig := ⟨85, [.slot 1, .slot 2, .cell 1 4, .slot 5, .slot 6], (.cons (.obox (.cons (.v (.int .i64)) (.cons (.v (.int .i64)) (.cons (.v (.int .i64)) (.cons (.v (.sl (.int .i64))) (.cons (.v (.int .i64)) (.cons (.v .str) (.cons (.v .bool) (.cons (.v (.int .i64)) (.cons (.v (.int .i64)) (.cons (.v (.int .i64)) (.cons (.v (.int .i64)) .nilL)))))))))))) (.cons (.obox (.cons (.v (.int .i64)) (.cons (.v (.int .i64)) (.cons (.v (.int .i64)) (.cons (.v .str) (.cons (.rowr 2) .nilL)))))) (.cons (.orow 42 .node) (.cons (.orow 42 .node) (.cons (.orow 42 .node) .nilL))))), [1, 2, 5, 6, 8], (.cons (.boxr 0 0) (.cons (.boxr 1 0) (.cons (.rowr 3) (.cons (.rowr 4) (.cons (.v (.int .i64)) .nilL)))))⟩
abbrev ref52_Encode.j4014.outs : List Out := [⟨.normal, ref52_Encode.j4014.R0, Int × Int × Int × List Int × Int × ByteArray × Bool × Int × Int × Int × Int × Int × Int × Int × ByteArray × List Nd × List Nd × List Nd × Int, fun y => (((y.1, y.2.1, y.2.2.1, y.2.2.2.1, y.2.2.2.2.1, y.2.2.2.2.2.1, y.2.2.2.2.2.2.1, y.2.2.2.2.2.2.2.1, y.2.2.2.2.2.2.2.2.1, y.2.2.2.2.2.2.2.2.2.1, y.2.2.2.2.2.2.2.2.2.2.1, ()), (y.2.2.2.2.2.2.2.2.2.2.2.1, y.2.2.2.2.2.2.2.2.2.2.2.2.1, y.2.2.2.2.2.2.2.2.2.2.2.2.2.1, y.2.2.2.2.2.2.2.2.2.2.2.2.2.2.1, (), ()), y.2.2.2.2.2.2.2.2.2.2.2.2.2.2.2.1, y.2.2.2.2.2.2.2.2.2.2.2.2.2.2.2.2.1, y.2.2.2.2.2.2.2.2.2.2.2.2.2.2.2.2.2.1, ()), ((), (), (), (), y.2.2.2.2.2.2.2.2.2.2.2.2.2.2.2.2.2.2, ())), fun x => (x.1.1.1, x.1.1.2.1, x.1.1.2.2.1, x.1.1.2.2.2.1, x.1.1.2.2.2.2.1, x.1.1.2.2.2.2.2.1, x.1.1.2.2.2.2.2.2.1, x.1.1.2.2.2.2.2.2.2.1, x.1.1.2.2.2.2.2.2.2.2.1, x.1.1.2.2.2.2.2.2.2.2.2.1, x.1.1.2.2.2.2.2.2.2.2.2.2.1, x.1.2.1.1, x.1.2.1.2.1, x.1.2.1.2.2.1, x.1.2.1.2.2.2.1, x.1.2.2.1, x.1.2.2.2.1, x.1.2.2.2.2.1, x.2.2.2.2.2.1)⟩]
def ref52_Encode.j4014 (k : Nat) (x0 : Int) (x1 : Int) (x2 : Int) (x3 : List Int) (x4 : Int) (x5 : ByteArray) (x6 : Bool) (x7 : Int) (x8 : Int) (x9 : Int) (x10 : Int) (x11 : Int) (x12 : Int) (x13 : Int) (x14 : ByteArray) (x15 : List Nd) (x16 : List Nd) (x17 : List Nd) (x18 : Int) : Option (Int × Int × Int × List Int × Int × ByteArray × Bool × Int × Int × Int × Int × Int × Int × Int × ByteArray × List Nd × List Nd × List Nd × Int) :=
  cond x6
  (some (x0, x1, x2, x3, x4, x5, x6, x7, x8, x9, x10, x11, x12, x13, x14, x15, x16, x17, 1))
  (some (x0, x1, x2, x3, x4, x5, x6, x7, x8, x9, x10, x11, x12, x13, x14, x15, x16, x17, x18))
abbrev ref52_Encode.j4014.pc (k : Nat) : Pc := ⟨ref52_Encode.j4014.A, ref52_Encode.j4014.outs, fun x => ref52_Encode.j4014 k x.1.1.1 x.1.1.2.1 x.1.1.2.2.1 x.1.1.2.2.2.1 x.1.1.2.2.2.2.1 x.1.1.2.2.2.2.2.1 x.1.1.2.2.2.2.2.2.1 x.1.1.2.2.2.2.2.2.2.1 x.1.1.2.2.2.2.2.2.2.2.1 x.1.1.2.2.2.2.2.2.2.2.2.1 x.1.1.2.2.2.2.2.2.2.2.2.2.1 x.1.2.1.1 x.1.2.1.2.1 x.1.2.1.2.2.1 x.1.2.1.2.2.2.1 x.1.2.2.1 x.1.2.2.2.1 x.1.2.2.2.2.1 x.2.2.2.2.2.1⟩
abbrev ref52_Encode.j62.A : Sig := ⟨85, [.slot 1, .slot 2, .cell 1 4, .slot 5], (.cons (.obox (.cons (.v (.int .i64)) (.cons (.v (.int .i64)) (.cons (.v (.int .i64)) (.cons (.v (.sl (.int .i64))) (.cons (.v (.int .i64)) (.cons (.v .str) (.cons (.v .bool) (.cons (.v (.int .i64)) (.cons (.v (.int .i64)) (.cons (.v (.int .i64)) (.cons (.v (.int .i64)) .nilL)))))))))))) (.cons (.obox (.cons (.v (.int .i64)) (.cons (.v (.int .i64)) (.cons (.v (.int .i64)) (.cons (.v .str) (.cons (.rowr 2) .nilL)))))) (.cons (.orow 42 .node) (.cons (.orow 42 .node) .nilL)))), [1, 2, 5], (.cons (.boxr 0 0) (.cons (.boxr 1 0) (.cons (.rowr 3) .nilL)))⟩
abbrev ref52_Encode.j62.R0 : Sig := ⟨85, [.slot 1, .slot 2, .cell 1 4, .slot 5], (.cons (.obox (.cons (.v (.int .i64)) (.cons (.v (.int .i64)) (.cons (.v (.int .i64)) (.cons (.v (.sl (.int .i64))) (.cons (.v (.int .i64)) (.cons (.v .str) (.cons (.v .bool) (.cons (.v (.int .i64)) (.cons (.v (.int .i64)) (.cons (.v (.int .i64)) (.cons (.v (.int .i64)) .nilL)))))))))))) (.cons (.obox (.cons (.v (.int .i64)) (.cons (.v (.int .i64)) (.cons (.v (.int .i64)) (.cons (.v .str) (.cons (.rowr 2) .nilL)))))) (.cons (.orow 42 .node) (.cons (.orow 42 .node) .nilL)))), [1, 2, 5], (.cons (.boxr 0 0) (.cons (.boxr 1 0) (.cons (.rowr 3) .nilL)))⟩
abbrev ref52_Encode.j62.outs : List Out := [⟨.normal, ref52_Encode.j62.R0, Int × Int × Int × List Int × Int × ByteArray × Bool × Int × Int × Int × Int × Int × Int × Int × ByteArray × List Nd × List Nd, fun y => (((y.1, y.2.1, y.2.2.1, y.2.2.2.1, y.2.2.2.2.1, y.2.2.2.2.2.1, y.2.2.2.2.2.2.1, y.2.2.2.2.2.2.2.1, y.2.2.2.2.2.2.2.2.1, y.2.2.2.2.2.2.2.2.2.1, y.2.2.2.2.2.2.2.2.2.2.1, ()), (y.2.2.2.2.2.2.2.2.2.2.2.1, y.2.2.2.2.2.2.2.2.2.2.2.2.1, y.2.2.2.2.2.2.2.2.2.2.2.2.2.1, y.2.2.2.2.2.2.2.2.2.2.2.2.2.2.1, (), ()), y.2.2.2.2.2.2.2.2.2.2.2.2.2.2.2.1, y.2.2.2.2.2.2.2.2.2.2.2.2.2.2.2.2, ()), ((), (), (), ())), fun x => (x.1.1.1, x.1.1.2.1, x.1.1.2.2.1, x.1.1.2.2.2.1, x.1.1.2.2.2.2.1, x.1.1.2.2.2.2.2.1, x.1.1.2.2.2.2.2.2.1, x.1.1.2.2.2.2.2.2.2.1, x.1.1.2.2.2.2.2.2.2.2.1, x.1.1.2.2.2.2.2.2.2.2.2.1, x.1.1.2.2.2.2.2.2.2.2.2.2.1, x.1.2.1.1, x.1.2.1.2.1, x.1.2.1.2.2.1, x.1.2.1.2.2.2.1, x.1.2.2.1, x.1.2.2.2.1)⟩]
def ref52_Encode.j62 (k : Nat) (x0 : Int) (x1 : Int) (x2 : Int) (x3 : List Int) (x4 : Int) (x5 : ByteArray) (x6 : Bool) (x7 : Int) (x8 : Int) (x9 : Int) (x10 : Int) (x11 : Int) (x12 : Int) (x13 : Int) (x14 : ByteArray) (x15 : List Nd) (x16 : List Nd) : Option (Int × Int × Int × List Int × Int × ByteArray × Bool × Int × Int × Int × Int × Int × Int × Int × ByteArray × List Nd × List Nd) :=
  cond (x0 == 2)
  ((ref52_Encode.l4010 k k x0 x1 x2 x3 x4 x5 x6 x7 x8 x9 x10 x11 x12 x13 x14 x15 x16 ([] : List Nd) 0).bind fun y15 =>
    (ref52_Encode.j4014 k y15.1 y15.2.1 y15.2.2.1 y15.2.2.2.1 y15.2.2.2.2.1 y15.2.2.2.2.2.1 y15.2.2.2.2.2.2.1 y15.2.2.2.2.2.2.2.1 y15.2.2.2.2.2.2.2.2.1 y15.2.2.2.2.2.2.2.2.2.1 y15.2.2.2.2.2.2.2.2.2.2.1 y15.2.2.2.2.2.2.2.2.2.2.2.1 y15.2.2.2.2.2.2.2.2.2.2.2.2.1 y15.2.2.2.2.2.2.2.2.2.2.2.2.2.1 y15.2.2.2.2.2.2.2.2.2.2.2.2.2.2.1 y15.2.2.2.2.2.2.2.2.2.2.2.2.2.2.2.1 y15.2.2.2.2.2.2.2.2.2.2.2.2.2.2.2.2.1 y15.2.2.2.2.2.2.2.2.2.2.2.2.2.2.2.2.2 0).bind fun y16 =>
    (ref52_number.f k 3 y16.2.2.1).bind fun y17 =>
    (ref10_List.f k 4 y16.2.2.2.2.2.2.2.2.2.2.2.2.2.2.2.2.2.1).bind fun y18 =>
    (ref52_number.f k 5 y16.2.2.2.2.1).bind fun y19 =>
    (ref10_String.f k 6 y16.2.2.2.2.2.1).bind fun y20 =>
    (ref52_number.f k 7 y16.2.2.2.2.2.2.2.2.2.2.2.2.2.2.2.2.2.2).bind fun y21 =>
    cond (fits (y16.2.2.2.2.2.2.2.2.2.2.2.2.2.2.2.2.1.length + 5) 64)
    (some (y16.1, y16.2.1, y16.2.2.1, y16.2.2.2.1, y16.2.2.2.2.1, y16.2.2.2.2.2.1, y16.2.2.2.2.2.2.1, y16.2.2.2.2.2.2.2.1, y16.2.2.2.2.2.2.2.2.1, y16.2.2.2.2.2.2.2.2.2.1, y16.2.2.2.2.2.2.2.2.2.2.1, y16.2.2.2.2.2.2.2.2.2.2.2.1, y16.2.2.2.2.2.2.2.2.2.2.2.2.1, y16.2.2.2.2.2.2.2.2.2.2.2.2.2.1, y16.2.2.2.2.2.2.2.2.2.2.2.2.2.2.1, y16.2.2.2.2.2.2.2.2.2.2.2.2.2.2.2.1, (y16.2.2.2.2.2.2.2.2.2.2.2.2.2.2.2.2.1 ++ [(⟨y17.1, y17.2.1, y17.2.2.1, y17.2.2.2.1, y17.2.2.2.2⟩ : Nd), (⟨y18.1, y18.2.1, y18.2.2.1, y18.2.2.2.1, y18.2.2.2.2⟩ : Nd), (⟨y19.1, y19.2.1, y19.2.2.1, y19.2.2.2.1, y19.2.2.2.2⟩ : Nd), (⟨y20.1, y20.2.1, y20.2.2.1, y20.2.2.2.1, y20.2.2.2.2⟩ : Nd), (⟨y21.1, y21.2.1, y21.2.2.1, y21.2.2.2.1, y21.2.2.2.2⟩ : Nd)])))
    (none))
  (some (x0, x1, x2, x3, x4, x5, x6, x7, x8, x9, x10, x11, x12, x13, x14, x15, x16))
abbrev ref52_Encode.j62.pc (k : Nat) : Pc := ⟨ref52_Encode.j62.A, ref52_Encode.j62.outs, fun x => ref52_Encode.j62 k x.1.1.1 x.1.1.2.1 x.1.1.2.2.1 x.1.1.2.2.2.1 x.1.1.2.2.2.2.1 x.1.1.2.2.2.2.2.1 x.1.1.2.2.2.2.2.2.1 x.1.1.2.2.2.2.2.2.2.1 x.1.1.2.2.2.2.2.2.2.2.1 x.1.1.2.2.2.2.2.2.2.2.2.1 x.1.1.2.2.2.2.2.2.2.2.2.2.1 x.1.2.1.1 x.1.2.1.2.1 x.1.2.1.2.2.1 x.1.2.1.2.2.2.1 x.1.2.2.1 x.1.2.2.2.1⟩
def ref52_Encode.f (k : Nat) (a0 : Int) (a1 : Int) (a2 : Int) (a3 : List Int) (a4 : Int) (a5 : ByteArray) (a6 : Bool) (a7 : Int) (a8 : Int) (a9 : Int) (a10 : Int) : Option (Int × Int × Int × ByteArray × List Nd × Int) :=
  (ref52_check.f k a0 a1 a2 a3 a4 a5 a6 a7 a8 a9 a10).bind fun y1 =>
  cond (y1 != 0)
  (some (0, 0, 0, (⟨#[]⟩ : ByteArray), ([] : List Nd), y1))
  ((ref52_number.f k 1 a0).bind fun y2 =>
    (ref52_number.f k 2 a1).bind fun y3 =>
    (ref52_Encode.j62 k a0 a1 a2 a3 a4 a5 a6 a7 a8 a9 a10 0 0 0 (⟨#[]⟩ : ByteArray) ([] : List Nd) [(⟨y2.1, y2.2.1, y2.2.2.1, y2.2.2.2.1, y2.2.2.2.2⟩ : Nd), (⟨y3.1, y3.2.1, y3.2.2.1, y3.2.2.2.1, y3.2.2.2.2⟩ : Nd)]).bind fun y22 =>
    cond (y22.1 == 5)
    ((ref52_number.f k 8 y22.2.2.2.2.2.2.2.1).bind fun y23 =>
      (ref52_number.f k 9 y22.2.2.2.2.2.2.2.2.2.1).bind fun y24 =>
      (ref52_number.f k 10 y22.2.2.2.2.2.2.2.2.2.2.1).bind fun y25 =>
      cond (fits (y22.2.2.2.2.2.2.2.2.2.2.2.2.2.2.2.2.length + 3) 64)
      ((ref10_List.f k 50 (y22.2.2.2.2.2.2.2.2.2.2.2.2.2.2.2.2 ++ [(⟨y23.1, y23.2.1, y23.2.2.1, y23.2.2.2.1, y23.2.2.2.2⟩ : Nd), (⟨y24.1, y24.2.1, y24.2.2.1, y24.2.2.2.1, y24.2.2.2.2⟩ : Nd), (⟨y25.1, y25.2.1, y25.2.2.1, y25.2.2.2.1, y25.2.2.2.2⟩ : Nd)])).bind fun y26 =>
        some (y26.1, y26.2.1, y26.2.2.1, y26.2.2.2.1, y26.2.2.2.2, 0))
      (none))
    ((ref10_List.f k 50 y22.2.2.2.2.2.2.2.2.2.2.2.2.2.2.2.2).bind fun y27 =>
      some (y27.1, y27.2.1, y27.2.2.1, y27.2.2.2.1, y27.2.2.2.2, 0)))
abbrev ref52_Encode.E (k : Nat) : Ent := ⟨ref52_Encode.A, ref52_Encode.outs, fun x => ref52_Encode.f k x.2.1.1 x.2.1.2.1 x.2.1.2.2.1 x.2.1.2.2.2.1 x.2.1.2.2.2.2.1 x.2.1.2.2.2.2.2.1 x.2.1.2.2.2.2.2.2.1 x.2.1.2.2.2.2.2.2.2.1 x.2.1.2.2.2.2.2.2.2.2.1 x.2.1.2.2.2.2.2.2.2.2.2.1 x.2.1.2.2.2.2.2.2.2.2.2.2.1⟩
noncomputable abbrev ref52_Encode.C (k : Nat) : Cfg := ⟨Tryz.prog, shs, look2 [(39, [], ref10_List.E k), (40, [], ref10_String.E k), (37, [], ref52_check.E k), (38, [], ref52_number.E k)], look [(4010, ref52_Encode.l4010.pc k), (4014, ref52_Encode.j4014.pc k), (62, ref52_Encode.j62.pc k)]⟩
theorem ref52_Encode.l4010.ev (k q : Nat) (x : ref52_Encode.l4010.A.V) : ((codeAt 60 (bodyOf (Tryz.f14)) 4010).bind fun c => (loopOf c).bind fun c1 => evL (ref52_Encode.C k) c1 4010 ref52_Encode.l4010.A ref52_Encode.l4010.outs (fun x => ref52_Encode.l4010 k q x.1.1.1 x.1.1.2.1 x.1.1.2.2.1 x.1.1.2.2.2.1 x.1.1.2.2.2.2.1 x.1.1.2.2.2.2.2.1 x.1.1.2.2.2.2.2.2.1 x.1.1.2.2.2.2.2.2.2.1 x.1.1.2.2.2.2.2.2.2.2.1 x.1.1.2.2.2.2.2.2.2.2.2.1 x.1.1.2.2.2.2.2.2.2.2.2.2.1 x.1.2.1.1 x.1.2.1.2.1 x.1.2.1.2.2.1 x.1.2.1.2.2.2.1 x.1.2.2.1 x.1.2.2.2.1 x.1.2.2.2.2.1 x.2.2.2.2.2.1) x) = ref52_Encode.l4010 k (q + 1) x.1.1.1 x.1.1.2.1 x.1.1.2.2.1 x.1.1.2.2.2.1 x.1.1.2.2.2.2.1 x.1.1.2.2.2.2.2.1 x.1.1.2.2.2.2.2.2.1 x.1.1.2.2.2.2.2.2.2.1 x.1.1.2.2.2.2.2.2.2.2.1 x.1.1.2.2.2.2.2.2.2.2.2.1 x.1.1.2.2.2.2.2.2.2.2.2.2.1 x.1.2.1.1 x.1.2.1.2.1 x.1.2.1.2.2.1 x.1.2.1.2.2.2.1 x.1.2.2.1 x.1.2.2.2.1 x.1.2.2.2.2.1 x.2.2.2.2.2.1 := by kernel_rfl
theorem ref52_Encode.j4014.ev (k : Nat) (x : ref52_Encode.j4014.A.V) : ((codeAt 60 (bodyOf (Tryz.f14)) 4014).bind fun c => evP (ref52_Encode.C k) c 4014 ref52_Encode.j4014.A ref52_Encode.j4014.outs x) = ref52_Encode.j4014 k x.1.1.1 x.1.1.2.1 x.1.1.2.2.1 x.1.1.2.2.2.1 x.1.1.2.2.2.2.1 x.1.1.2.2.2.2.2.1 x.1.1.2.2.2.2.2.2.1 x.1.1.2.2.2.2.2.2.2.1 x.1.1.2.2.2.2.2.2.2.2.1 x.1.1.2.2.2.2.2.2.2.2.2.1 x.1.1.2.2.2.2.2.2.2.2.2.2.1 x.1.2.1.1 x.1.2.1.2.1 x.1.2.1.2.2.1 x.1.2.1.2.2.2.1 x.1.2.2.1 x.1.2.2.2.1 x.1.2.2.2.2.1 x.2.2.2.2.2.1 := by kernel_rfl
theorem ref52_Encode.j62.ev (k : Nat) (x : ref52_Encode.j62.A.V) : ((codeAt 60 (bodyOf (Tryz.f14)) 62).bind fun c => evP (ref52_Encode.C k) c 62 ref52_Encode.j62.A ref52_Encode.j62.outs x) = ref52_Encode.j62 k x.1.1.1 x.1.1.2.1 x.1.1.2.2.1 x.1.1.2.2.2.1 x.1.1.2.2.2.2.1 x.1.1.2.2.2.2.2.1 x.1.1.2.2.2.2.2.2.1 x.1.1.2.2.2.2.2.2.2.1 x.1.1.2.2.2.2.2.2.2.2.1 x.1.1.2.2.2.2.2.2.2.2.2.1 x.1.1.2.2.2.2.2.2.2.2.2.2.1 x.1.2.1.1 x.1.2.1.2.1 x.1.2.1.2.2.1 x.1.2.1.2.2.2.1 x.1.2.2.1 x.1.2.2.2.1 := by kernel_rfl
theorem ref52_Encode.ev (k : Nat) (x : ref52_Encode.A.V) : evF (ref52_Encode.C k) Tryz.f14 ref52_Encode.A ref52_Encode.outs x = ref52_Encode.f k x.2.1.1 x.2.1.2.1 x.2.1.2.2.1 x.2.1.2.2.2.1 x.2.1.2.2.2.2.1 x.2.1.2.2.2.2.2.1 x.2.1.2.2.2.2.2.2.1 x.2.1.2.2.2.2.2.2.2.1 x.2.1.2.2.2.2.2.2.2.2.1 x.2.1.2.2.2.2.2.2.2.2.2.1 x.2.1.2.2.2.2.2.2.2.2.2.2.1 := by kernel_rfl
theorem ref52_Encode.at : Tryz.prog.funcs[14]? = some Tryz.f14 := by kernel_rfl
theorem ref52_Encode.bo : Tryz.f14.body = some (bodyOf (Tryz.f14)) := by kernel_rfl
theorem ref52_Encode.nm : (Tryz.f14.name == "runtime.NumGoroutine") = false := by kernel_rfl
theorem ref52_Encode.sat (k : Nat) : Sat Tryz.prog 14 (ref52_Encode.E k) :=
  have hC : ∀ g l N, (ref52_Encode.C k).orc g l = some N → Sat Tryz.prog g N := satAll (satCons (ref10_List.sat k) (satCons (ref10_String.sat k) (satCons (ref52_check.sat k) (satCons (ref52_number.sat k) satNil))))
  sat_of (C := ref52_Encode.C k) hC mixed ref52_Encode.at ref52_Encode.nm ref52_Encode.bo (all_pieces rfl (locCons (loc_loop (A := ref52_Encode.l4010.A) (outs := ref52_Encode.l4010.outs) hC mixed (dstOk_zero _) (fun (q : Nat) (x : ref52_Encode.l4010.A.V) => ref52_Encode.l4010 k q x.1.1.1 x.1.1.2.1 x.1.1.2.2.1 x.1.1.2.2.2.1 x.1.1.2.2.2.2.1 x.1.1.2.2.2.2.2.1 x.1.1.2.2.2.2.2.2.1 x.1.1.2.2.2.2.2.2.2.1 x.1.1.2.2.2.2.2.2.2.2.1 x.1.1.2.2.2.2.2.2.2.2.2.1 x.1.1.2.2.2.2.2.2.2.2.2.2.1 x.1.2.1.1 x.1.2.1.2.1 x.1.2.1.2.2.1 x.1.2.1.2.2.2.1 x.1.2.2.1 x.1.2.2.2.1 x.1.2.2.2.2.1 x.2.2.2.2.2.1) (fun _ => rfl) (ref52_Encode.l4010.ev k) (ooC (fun _ => rfl) ooN) rfl rfl k) (locCons (loc_code (A := ref52_Encode.j4014.A) (outs := ref52_Encode.j4014.outs) hC mixed (dstOk_zero _) (fun (x : ref52_Encode.j4014.A.V) => ref52_Encode.j4014 k x.1.1.1 x.1.1.2.1 x.1.1.2.2.1 x.1.1.2.2.2.1 x.1.1.2.2.2.2.1 x.1.1.2.2.2.2.2.1 x.1.1.2.2.2.2.2.2.1 x.1.1.2.2.2.2.2.2.2.1 x.1.1.2.2.2.2.2.2.2.2.1 x.1.1.2.2.2.2.2.2.2.2.2.1 x.1.1.2.2.2.2.2.2.2.2.2.2.1 x.1.2.1.1 x.1.2.1.2.1 x.1.2.1.2.2.1 x.1.2.1.2.2.2.1 x.1.2.2.1 x.1.2.2.2.1 x.1.2.2.2.2.1 x.2.2.2.2.2.1) (ref52_Encode.j4014.ev k) (ooC (fun _ => rfl) ooN) rfl) (locCons (loc_code (A := ref52_Encode.j62.A) (outs := ref52_Encode.j62.outs) hC mixed (dstOk_zero _) (fun (x : ref52_Encode.j62.A.V) => ref52_Encode.j62 k x.1.1.1 x.1.1.2.1 x.1.1.2.2.1 x.1.1.2.2.2.1 x.1.1.2.2.2.2.1 x.1.1.2.2.2.2.2.1 x.1.1.2.2.2.2.2.2.1 x.1.1.2.2.2.2.2.2.2.1 x.1.1.2.2.2.2.2.2.2.2.1 x.1.1.2.2.2.2.2.2.2.2.2.1 x.1.1.2.2.2.2.2.2.2.2.2.2.1 x.1.2.1.1 x.1.2.1.2.1 x.1.2.1.2.2.1 x.1.2.1.2.2.2.1 x.1.2.2.1 x.1.2.2.2.1) (ref52_Encode.j62.ev k) (ooC (fun _ => rfl) ooN) rfl) locNil)))) (ref52_Encode.ev k) (ooC (fun _ => rfl) ooN) (dstOk_zero _) (by decide) rfl

/-! ### ref11_extend: function 85 (examboard/examboardref11.extend) -/
abbrev ref11_extend.A : Sig := ⟨2, [], (.nilL), [0, 1], (.cons (.v (.int .u64)) (.cons (.v (.int .u8)) .nilL))⟩
abbrev ref11_extend.R0 : Sig := ⟨1, [], (.nilL), [0], (.cons (.v (.int .u64)) .nilL)⟩
abbrev ref11_extend.outs : List Out := [⟨.ret, ref11_extend.R0, Int, fun y => ((), (y, ())), fun x => x.2.1⟩]
def ref11_extend.f (k : Nat) (a0 : Int) (a1 : Int) : Option (Int) :=
  some (IntKind.wrap .u64 ((IntKind.wrap .u64 (((BitVec.ofInt 64 a0) ^^^ (BitVec.ofInt 64 (IntKind.wrap .u64 a1))).toNat : Int)) * 1099511628211))
abbrev ref11_extend.E (k : Nat) : Ent := ⟨ref11_extend.A, ref11_extend.outs, fun x => ref11_extend.f k x.2.1 x.2.2.1⟩
noncomputable abbrev ref11_extend.C (k : Nat) : Cfg := ⟨Tryz.prog, shs, look2 [], look []⟩
theorem ref11_extend.ev (k : Nat) (x : ref11_extend.A.V) : evF (ref11_extend.C k) Tryz.f85 ref11_extend.A ref11_extend.outs x = ref11_extend.f k x.2.1 x.2.2.1 := by kernel_rfl
theorem ref11_extend.at : Tryz.prog.funcs[85]? = some Tryz.f85 := by kernel_rfl
theorem ref11_extend.bo : Tryz.f85.body = some (bodyOf (Tryz.f85)) := by kernel_rfl
theorem ref11_extend.nm : (Tryz.f85.name == "runtime.NumGoroutine") = false := by kernel_rfl
theorem ref11_extend.sat (k : Nat) : Sat Tryz.prog 85 (ref11_extend.E k) :=
  have hC : ∀ g l N, (ref11_extend.C k).orc g l = some N → Sat Tryz.prog g N := satAll satNil
  sat_of (C := ref11_extend.C k) hC mixed ref11_extend.at ref11_extend.nm ref11_extend.bo (all_pieces rfl locNil) (ref11_extend.ev k) (ooC (fun _ => rfl) ooN) (dstOk_zero _) (by decide) rfl

/-! ### ref11_Add: function 68 (examboard/examboardref11.Add) -/
abbrev ref11_Add.A : Sig := ⟨2, [], (.nilL), [0, 1], (.cons (.v (.int .u64)) (.cons (.v (.sl (.int .u8))) .nilL))⟩
abbrev ref11_Add.R0 : Sig := ⟨1, [], (.nilL), [0], (.cons (.v (.int .u64)) .nilL)⟩
abbrev ref11_Add.outs : List Out := [⟨.ret, ref11_Add.R0, Int, fun y => ((), (y, ())), fun x => x.2.1⟩]
abbrev ref11_Add.l26.A : Sig := ⟨19, [], (.nilL), [0, 1, 5], (.cons (.v (.int .u64)) (.cons (.v (.sl (.int .u8))) (.cons (.v (.int .i64)) .nilL)))⟩
abbrev ref11_Add.l26.R0 : Sig := ⟨19, [], (.nilL), [0], (.cons (.v (.int .u64)) .nilL)⟩
abbrev ref11_Add.l26.outs : List Out := [⟨(.exit 0), ref11_Add.l26.R0, Int, fun y => ((), (y, ())), fun x => x.2.1⟩]
def ref11_Add.l26 (k : Nat) : Nat → Int → (List Int) → Int → Option (Int)
  | 0, _, _, _ => none
  | q + 1, x0, x1, x2 =>
    cond (decide (x2 < (x1.length : Int)))
    (cond (inB x2 x1.length)
      ((ref11_extend.f k x0 (rdL (.int .u8) x1 x2)).bind fun y2 =>
        ref11_Add.l26 k q y2 x1 (IntKind.wrap .i64 (x2 + 1)))
      (none))
    (some x0)
abbrev ref11_Add.l26.pc (k : Nat) : Pc := ⟨ref11_Add.l26.A, ref11_Add.l26.outs, fun x => ref11_Add.l26 k k x.2.1 x.2.2.1 x.2.2.2.1⟩
def ref11_Add.f (k : Nat) (a0 : Int) (a1 : List Int) : Option (Int) :=
  (ref11_Add.l26 k k a0 a1 0).bind fun y3 =>
  some y3
abbrev ref11_Add.E (k : Nat) : Ent := ⟨ref11_Add.A, ref11_Add.outs, fun x => ref11_Add.f k x.2.1 x.2.2.1⟩
noncomputable abbrev ref11_Add.C (k : Nat) : Cfg := ⟨Tryz.prog, shs, look2 [(85, [], ref11_extend.E k)], look [(26, ref11_Add.l26.pc k)]⟩
theorem ref11_Add.l26.ev (k q : Nat) (x : ref11_Add.l26.A.V) : ((codeAt 60 (bodyOf (Tryz.f68)) 26).bind fun c => (loopOf c).bind fun c1 => evL (ref11_Add.C k) c1 26 ref11_Add.l26.A ref11_Add.l26.outs (fun x => ref11_Add.l26 k q x.2.1 x.2.2.1 x.2.2.2.1) x) = ref11_Add.l26 k (q + 1) x.2.1 x.2.2.1 x.2.2.2.1 := by kernel_rfl
theorem ref11_Add.ev (k : Nat) (x : ref11_Add.A.V) : evF (ref11_Add.C k) Tryz.f68 ref11_Add.A ref11_Add.outs x = ref11_Add.f k x.2.1 x.2.2.1 := by kernel_rfl
theorem ref11_Add.at : Tryz.prog.funcs[68]? = some Tryz.f68 := by kernel_rfl
theorem ref11_Add.bo : Tryz.f68.body = some (bodyOf (Tryz.f68)) := by kernel_rfl
theorem ref11_Add.nm : (Tryz.f68.name == "runtime.NumGoroutine") = false := by kernel_rfl
theorem ref11_Add.sat (k : Nat) : Sat Tryz.prog 68 (ref11_Add.E k) :=
  have hC : ∀ g l N, (ref11_Add.C k).orc g l = some N → Sat Tryz.prog g N := satAll (satCons (ref11_extend.sat k) satNil)
  sat_of (C := ref11_Add.C k) hC mixed ref11_Add.at ref11_Add.nm ref11_Add.bo (all_pieces rfl (locCons (loc_loop (A := ref11_Add.l26.A) (outs := ref11_Add.l26.outs) hC mixed (dstOk_zero _) (fun (q : Nat) (x : ref11_Add.l26.A.V) => ref11_Add.l26 k q x.2.1 x.2.2.1 x.2.2.2.1) (fun _ => rfl) (ref11_Add.l26.ev k) (ooC (fun _ => rfl) ooN) rfl rfl k) locNil)) (ref11_Add.ev k) (ooC (fun _ => rfl) ooN) (dstOk_zero _) (by decide) rfl

/-! ### ref11_Of: function 64 (examboard/examboardref11.Of) -/
abbrev ref11_Of.A : Sig := ⟨1, [], (.nilL), [0], (.cons (.v (.sl (.int .u8))) .nilL)⟩
abbrev ref11_Of.R0 : Sig := ⟨1, [], (.nilL), [0], (.cons (.v (.int .u64)) .nilL)⟩
abbrev ref11_Of.outs : List Out := [⟨.ret, ref11_Of.R0, Int, fun y => ((), (y, ())), fun x => x.2.1⟩]
def ref11_Of.f (k : Nat) (a0 : List Int) : Option (Int) :=
  (ref11_Add.f k 14695981039346656037 a0).bind fun y1 =>
  some y1
abbrev ref11_Of.E (k : Nat) : Ent := ⟨ref11_Of.A, ref11_Of.outs, fun x => ref11_Of.f k x.2.1⟩
noncomputable abbrev ref11_Of.C (k : Nat) : Cfg := ⟨Tryz.prog, shs, look2 [(68, [], ref11_Add.E k)], look []⟩
theorem ref11_Of.ev (k : Nat) (x : ref11_Of.A.V) : evF (ref11_Of.C k) Tryz.f64 ref11_Of.A ref11_Of.outs x = ref11_Of.f k x.2.1 := by kernel_rfl
theorem ref11_Of.at : Tryz.prog.funcs[64]? = some Tryz.f64 := by kernel_rfl
theorem ref11_Of.bo : Tryz.f64.body = some (bodyOf (Tryz.f64)) := by kernel_rfl
theorem ref11_Of.nm : (Tryz.f64.name == "runtime.NumGoroutine") = false := by kernel_rfl
theorem ref11_Of.sat (k : Nat) : Sat Tryz.prog 64 (ref11_Of.E k) :=
  have hC : ∀ g l N, (ref11_Of.C k).orc g l = some N → Sat Tryz.prog g N := satAll (satCons (ref11_Add.sat k) satNil)
  sat_of (C := ref11_Of.C k) hC mixed ref11_Of.at ref11_Of.nm ref11_Of.bo (all_pieces rfl locNil) (ref11_Of.ev k) (ooC (fun _ => rfl) ooN) (dstOk_zero _) (by decide) rfl

/-! ### ref49_number: function 82 (examboard/examboardref49.number) -/
abbrev ref49_number.A : Sig := ⟨2, [], (.nilL), [0, 1], (.cons (.v (.sl (.int .u8))) (.cons (.v (.int .i64)) .nilL))⟩
abbrev ref49_number.R0 : Sig := ⟨1, [], (.nilL), [0], (.cons (.v (.int .u64)) .nilL)⟩
abbrev ref49_number.outs : List Out := [⟨.ret, ref49_number.R0, Int, fun y => ((), (y, ())), fun x => x.2.1⟩]
abbrev ref49_number.l58.A : Sig := ⟨21, [], (.nilL), [0, 1, 5, 6], (.cons (.v (.sl (.int .u8))) (.cons (.v (.int .i64)) (.cons (.v (.int .u64)) (.cons (.v (.int .i64)) .nilL))))⟩
abbrev ref49_number.l58.R0 : Sig := ⟨21, [], (.nilL), [5], (.cons (.v (.int .u64)) .nilL)⟩
abbrev ref49_number.l58.outs : List Out := [⟨(.exit 0), ref49_number.l58.R0, Int, fun y => ((), (y, ())), fun x => x.2.1⟩]
def ref49_number.l58 (k : Nat) : Nat → (List Int) → Int → Int → Int → Option (Int)
  | 0, _, _, _, _ => none
  | q + 1, x0, x1, x2, x3 =>
    cond (decide (x3 < x1))
    (cond (inB x3 x0.length)
      (ref49_number.l58 k q x0 x1 (IntKind.wrap .u64 ((IntKind.wrap .u64 (x2 * 256)) + (IntKind.wrap .u64 (rdL (.int .u8) x0 x3)))) (IntKind.wrap .i64 (x3 + 1)))
      (none))
    (some x2)
abbrev ref49_number.l58.pc (k : Nat) : Pc := ⟨ref49_number.l58.A, ref49_number.l58.outs, fun x => ref49_number.l58 k k x.2.1 x.2.2.1 x.2.2.2.1 x.2.2.2.2.1⟩
def ref49_number.f (k : Nat) (a0 : List Int) (a1 : Int) : Option (Int) :=
  (ref49_number.l58 k k a0 a1 0 0).bind fun y1 =>
  some y1
abbrev ref49_number.E (k : Nat) : Ent := ⟨ref49_number.A, ref49_number.outs, fun x => ref49_number.f k x.2.1 x.2.2.1⟩
noncomputable abbrev ref49_number.C (k : Nat) : Cfg := ⟨Tryz.prog, shs, look2 [], look [(58, ref49_number.l58.pc k)]⟩
theorem ref49_number.l58.ev (k q : Nat) (x : ref49_number.l58.A.V) : ((codeAt 60 (bodyOf (Tryz.f82)) 58).bind fun c => (loopOf c).bind fun c1 => evL (ref49_number.C k) c1 58 ref49_number.l58.A ref49_number.l58.outs (fun x => ref49_number.l58 k q x.2.1 x.2.2.1 x.2.2.2.1 x.2.2.2.2.1) x) = ref49_number.l58 k (q + 1) x.2.1 x.2.2.1 x.2.2.2.1 x.2.2.2.2.1 := by kernel_rfl
theorem ref49_number.ev (k : Nat) (x : ref49_number.A.V) : evF (ref49_number.C k) Tryz.f82 ref49_number.A ref49_number.outs x = ref49_number.f k x.2.1 x.2.2.1 := by kernel_rfl
theorem ref49_number.at : Tryz.prog.funcs[82]? = some Tryz.f82 := by kernel_rfl
theorem ref49_number.bo : Tryz.f82.body = some (bodyOf (Tryz.f82)) := by kernel_rfl
theorem ref49_number.nm : (Tryz.f82.name == "runtime.NumGoroutine") = false := by kernel_rfl
theorem ref49_number.sat (k : Nat) : Sat Tryz.prog 82 (ref49_number.E k) :=
  have hC : ∀ g l N, (ref49_number.C k).orc g l = some N → Sat Tryz.prog g N := satAll satNil
  sat_of (C := ref49_number.C k) hC mixed ref49_number.at ref49_number.nm ref49_number.bo (all_pieces rfl (locCons (loc_loop (A := ref49_number.l58.A) (outs := ref49_number.l58.outs) hC mixed (dstOk_zero _) (fun (q : Nat) (x : ref49_number.l58.A.V) => ref49_number.l58 k q x.2.1 x.2.2.1 x.2.2.2.1 x.2.2.2.2.1) (fun _ => rfl) (ref49_number.l58.ev k) (ooC (fun _ => rfl) ooN) rfl rfl k) locNil)) (ref49_number.ev k) (ooC (fun _ => rfl) ooN) (dstOk_zero _) (by decide) rfl

/-! ### ref11_Number: function 69 (examboard/examboardref11.Number) -/
abbrev ref11_Number.A : Sig := ⟨2, [], (.nilL), [0, 1], (.cons (.v (.int .u64)) (.cons (.v (.int .u64)) .nilL))⟩
abbrev ref11_Number.R0 : Sig := ⟨1, [], (.nilL), [0], (.cons (.v (.int .u64)) .nilL)⟩
abbrev ref11_Number.outs : List Out := [⟨.ret, ref11_Number.R0, Int, fun y => ((), (y, ())), fun x => x.2.1⟩]
abbrev ref11_Number.l26.A : Sig := ⟨19, [], (.nilL), [0, 1, 5], (.cons (.v (.int .u64)) (.cons (.v (.int .u64)) (.cons (.v (.int .i64)) .nilL)))⟩
abbrev ref11_Number.l26.R0 : Sig := ⟨19, [], (.nilL), [0], (.cons (.v (.int .u64)) .nilL)⟩
abbrev ref11_Number.l26.outs : List Out := [⟨(.exit 0), ref11_Number.l26.R0, Int, fun y => ((), (y, ())), fun x => x.2.1⟩]
def ref11_Number.l26 (k : Nat) : Nat → Int → Int → Int → Option (Int)
  | 0, _, _, _ => none
  | q + 1, x0, x1, x2 =>
    cond (decide (x2 ≥ 0))
    (cond (decide ((IntKind.wrap .u64 (8 * (IntKind.wrap .u64 x2))) < 0))
      (none)
      ((ref11_extend.f k x0 (IntKind.wrap .u8 (Int.fdiv x1 (2 ^ (min (Int.toNat (IntKind.wrap .u64 (8 * (IntKind.wrap .u64 x2)))) 64))))).bind fun y2 =>
        ref11_Number.l26 k q y2 x1 (IntKind.wrap .i64 (x2 - 1))))
    (some x0)
abbrev ref11_Number.l26.pc (k : Nat) : Pc := ⟨ref11_Number.l26.A, ref11_Number.l26.outs, fun x => ref11_Number.l26 k k x.2.1 x.2.2.1 x.2.2.2.1⟩
def ref11_Number.f (k : Nat) (a0 : Int) (a1 : Int) : Option (Int) :=
  (ref11_Number.l26 k k a0 a1 7).bind fun y3 =>
  some y3
abbrev ref11_Number.E (k : Nat) : Ent := ⟨ref11_Number.A, ref11_Number.outs, fun x => ref11_Number.f k x.2.1 x.2.2.1⟩
noncomputable abbrev ref11_Number.C (k : Nat) : Cfg := ⟨Tryz.prog, shs, look2 [(85, [], ref11_extend.E k)], look [(26, ref11_Number.l26.pc k)]⟩
theorem ref11_Number.l26.ev (k q : Nat) (x : ref11_Number.l26.A.V) : ((codeAt 60 (bodyOf (Tryz.f69)) 26).bind fun c => (loopOf c).bind fun c1 => evL (ref11_Number.C k) c1 26 ref11_Number.l26.A ref11_Number.l26.outs (fun x => ref11_Number.l26 k q x.2.1 x.2.2.1 x.2.2.2.1) x) = ref11_Number.l26 k (q + 1) x.2.1 x.2.2.1 x.2.2.2.1 := by kernel_rfl
theorem ref11_Number.ev (k : Nat) (x : ref11_Number.A.V) : evF (ref11_Number.C k) Tryz.f69 ref11_Number.A ref11_Number.outs x = ref11_Number.f k x.2.1 x.2.2.1 := by kernel_rfl
theorem ref11_Number.at : Tryz.prog.funcs[69]? = some Tryz.f69 := by kernel_rfl
theorem ref11_Number.bo : Tryz.f69.body = some (bodyOf (Tryz.f69)) := by kernel_rfl
theorem ref11_Number.nm : (Tryz.f69.name == "runtime.NumGoroutine") = false := by kernel_rfl
theorem ref11_Number.sat (k : Nat) : Sat Tryz.prog 69 (ref11_Number.E k) :=
  have hC : ∀ g l N, (ref11_Number.C k).orc g l = some N → Sat Tryz.prog g N := satAll (satCons (ref11_extend.sat k) satNil)
  sat_of (C := ref11_Number.C k) hC mixed ref11_Number.at ref11_Number.nm ref11_Number.bo (all_pieces rfl (locCons (loc_loop (A := ref11_Number.l26.A) (outs := ref11_Number.l26.outs) hC mixed (dstOk_zero _) (fun (q : Nat) (x : ref11_Number.l26.A.V) => ref11_Number.l26 k q x.2.1 x.2.2.1 x.2.2.2.1) (fun _ => rfl) (ref11_Number.l26.ev k) (ooC (fun _ => rfl) ooN) rfl rfl k) locNil)) (ref11_Number.ev k) (ooC (fun _ => rfl) ooN) (dstOk_zero _) (by decide) rfl

/-! ### ref11_Chain: function 45 (examboard/examboardref11.Chain) -/
abbrev ref11_Chain.A : Sig := ⟨2, [], (.nilL), [0, 1], (.cons (.v (.int .u64)) (.cons (.v (.sl (.int .u8))) .nilL))⟩
abbrev ref11_Chain.R0 : Sig := ⟨1, [], (.nilL), [0], (.cons (.v (.int .u64)) .nilL)⟩
abbrev ref11_Chain.outs : List Out := [⟨.ret, ref11_Chain.R0, Int, fun y => ((), (y, ())), fun x => x.2.1⟩]
def ref11_Chain.f (k : Nat) (a0 : Int) (a1 : List Int) : Option (Int) :=
  (ref11_Number.f k 14695981039346656037 a0).bind fun y1 =>
  (ref11_Add.f k y1 a1).bind fun y2 =>
  some y2
abbrev ref11_Chain.E (k : Nat) : Ent := ⟨ref11_Chain.A, ref11_Chain.outs, fun x => ref11_Chain.f k x.2.1 x.2.2.1⟩
noncomputable abbrev ref11_Chain.C (k : Nat) : Cfg := ⟨Tryz.prog, shs, look2 [(68, [], ref11_Add.E k), (69, [], ref11_Number.E k)], look []⟩
theorem ref11_Chain.ev (k : Nat) (x : ref11_Chain.A.V) : evF (ref11_Chain.C k) Tryz.f45 ref11_Chain.A ref11_Chain.outs x = ref11_Chain.f k x.2.1 x.2.2.1 := by kernel_rfl
theorem ref11_Chain.at : Tryz.prog.funcs[45]? = some Tryz.f45 := by kernel_rfl
theorem ref11_Chain.bo : Tryz.f45.body = some (bodyOf (Tryz.f45)) := by kernel_rfl
theorem ref11_Chain.nm : (Tryz.f45.name == "runtime.NumGoroutine") = false := by kernel_rfl
theorem ref11_Chain.sat (k : Nat) : Sat Tryz.prog 45 (ref11_Chain.E k) :=
  have hC : ∀ g l N, (ref11_Chain.C k).orc g l = some N → Sat Tryz.prog g N := satAll (satCons (ref11_Add.sat k) (satCons (ref11_Number.sat k) satNil))
  sat_of (C := ref11_Chain.C k) hC mixed ref11_Chain.at ref11_Chain.nm ref11_Chain.bo (all_pieces rfl locNil) (ref11_Chain.ev k) (ooC (fun _ => rfl) ooN) (dstOk_zero _) (by decide) rfl

/-! ### ref10_need: function 96 (examboard/examboardref10.need) -/
abbrev ref10_need.A : Sig := ⟨3, [], (.nilL), [0, 1, 2], (.cons (.v (.sl (.int .u8))) (.cons (.v (.int .i64)) (.cons (.v (.int .i64)) .nilL)))⟩
abbrev ref10_need.R0 : Sig := ⟨1, [], (.nilL), [0], (.cons (.v (.int .i64)) .nilL)⟩
abbrev ref10_need.outs : List Out := [⟨.ret, ref10_need.R0, Int, fun y => ((), (y, ())), fun x => x.2.1⟩]
def ref10_need.f (k : Nat) (a0 : List Int) (a1 : Int) (a2 : Int) : Option (Int) :=
  cond (decide (a2 ≤ (IntKind.wrap .i64 ((if 1048576 < (a0.length : Int) then 1048576 else (a0.length : Int)) - a1))))
  (some 0)
  (cond (decide ((a0.length : Int) > 1048576))
    (some 5)
    (some 4))
abbrev ref10_need.E (k : Nat) : Ent := ⟨ref10_need.A, ref10_need.outs, fun x => ref10_need.f k x.2.1 x.2.2.1 x.2.2.2.1⟩
noncomputable abbrev ref10_need.C (k : Nat) : Cfg := ⟨Tryz.prog, shs, look2 [], look []⟩
theorem ref10_need.ev (k : Nat) (x : ref10_need.A.V) : evF (ref10_need.C k) Tryz.f96 ref10_need.A ref10_need.outs x = ref10_need.f k x.2.1 x.2.2.1 x.2.2.2.1 := by kernel_rfl
theorem ref10_need.at : Tryz.prog.funcs[96]? = some Tryz.f96 := by kernel_rfl
theorem ref10_need.bo : Tryz.f96.body = some (bodyOf (Tryz.f96)) := by kernel_rfl
theorem ref10_need.nm : (Tryz.f96.name == "runtime.NumGoroutine") = false := by kernel_rfl
theorem ref10_need.sat (k : Nat) : Sat Tryz.prog 96 (ref10_need.E k) :=
  have hC : ∀ g l N, (ref10_need.C k).orc g l = some N → Sat Tryz.prog g N := satAll satNil
  sat_of (C := ref10_need.C k) hC mixed ref10_need.at ref10_need.nm ref10_need.bo (all_pieces rfl locNil) (ref10_need.ev k) (ooC (fun _ => rfl) ooN) (dstOk_zero _) (by decide) rfl

/-! ### ref10_number: function 95 (examboard/examboardref10.number) -/
abbrev ref10_number.A : Sig := ⟨2, [], (.nilL), [0, 1], (.cons (.v (.sl (.int .u8))) (.cons (.v (.int .i64)) .nilL))⟩
abbrev ref10_number.R0 : Sig := ⟨1, [], (.nilL), [0], (.cons (.tup (.cons (.v (.int .u64)) (.cons (.v (.int .i64)) (.cons (.v (.int .i64)) .nilL)))) .nilL)⟩
abbrev ref10_number.outs : List Out := [⟨.ret, ref10_number.R0, Int × Int × Int, fun y => ((), ((y.1, y.2.1, y.2.2, ()), ())), fun x => (x.2.1.1, x.2.1.2.1, x.2.1.2.2.1)⟩]
abbrev ref10_number.l58.A : Sig := ⟨54, [], (.nilL), [0, 1, 7, 8], (.cons (.v (.sl (.int .u8))) (.cons (.v (.int .i64)) (.cons (.v (.int .u64)) (.cons (.v (.int .i64)) .nilL))))⟩
abbrev ref10_number.l58.R0 : Sig := ⟨54, [], (.nilL), [], (.nilL)⟩
abbrev ref10_number.l58.R1 : Sig := ⟨54, [], (.nilL), [4, 5, 6], (.cons (.v (.int .u64)) (.cons (.v (.int .i64)) (.cons (.v (.int .i64)) .nilL)))⟩
abbrev ref10_number.l58.outs : List Out := [⟨(.exit 0), ref10_number.l58.R0, Unit, fun y => ((), ()), fun x => ()⟩, ⟨.ret, ref10_number.l58.R1, Int × Int × Int, fun y => ((), (y.1, y.2.1, y.2.2, ())), fun x => (x.2.1, x.2.2.1, x.2.2.2.1)⟩]
def ref10_number.l58 (k : Nat) : Nat → (List Int) → Int → Int → Int → Option ((Unit) ⊕ (Int × Int × Int))
  | 0, _, _, _, _ => none
  | q + 1, x0, x1, x2, x3 =>
    cond (decide (x3 < 10))
    ((ref10_need.f k x0 x1 1).bind fun y5 =>
      cond (y5 != 0)
      (some (.inr (0, 0, y5)))
      (cond (inB x1 x0.length)
        (Option.bind (cond (x3 == 9)
            (some (decide ((IntKind.wrap .u64 (rdL (.int .u8) x0 x1)) > 1)))
            (some false)) fun (c6 : Bool) =>
          Option.bind (cond c6
            (some true)
            (Option.bind (cond (decide (x3 > 0))
                (some ((IntKind.wrap .u64 (rdL (.int .u8) x0 x1)) == 0))
                (some false)) fun (c7 : Bool) =>
              some c7)) fun (c8 : Bool) =>
          cond c8
          (some (.inr (0, 0, 2)))
          (cond (decide ((IntKind.wrap .u64 (IntKind.wrap .i64 (7 * x3))) < 0))
            (none)
            (cond (decide ((IntKind.wrap .u64 (rdL (.int .u8) x0 x1)) < 128))
              (some (.inr ((IntKind.wrap .u64 (x2 + (IntKind.wrap .u64 ((Int.tmod (IntKind.wrap .u64 (rdL (.int .u8) x0 x1)) 128) * 2 ^ (min (Int.toNat (IntKind.wrap .u64 (IntKind.wrap .i64 (7 * x3)))) 64))))), (IntKind.wrap .i64 (x1 + 1)), 0)))
              (ref10_number.l58 k q x0 (IntKind.wrap .i64 (x1 + 1)) (IntKind.wrap .u64 (x2 + (IntKind.wrap .u64 ((Int.tmod (IntKind.wrap .u64 (rdL (.int .u8) x0 x1)) 128) * 2 ^ (min (Int.toNat (IntKind.wrap .u64 (IntKind.wrap .i64 (7 * x3)))) 64))))) (IntKind.wrap .i64 (x3 + 1))))))
        (none)))
    (some (.inl ()))
abbrev ref10_number.l58.pc (k : Nat) : Pc := ⟨ref10_number.l58.A, ref10_number.l58.outs, fun x => ref10_number.l58 k k x.2.1 x.2.2.1 x.2.2.2.1 x.2.2.2.2.1⟩
def ref10_number.f (k : Nat) (a0 : List Int) (a1 : Int) : Option (Int × Int × Int) :=
  (ref10_number.l58 k k a0 a1 0 0).bind fun y9 =>
  Sum.casesOn (motive := fun _ => Option _) y9 (fun u10 =>
  some (0, 0, 2))
  (fun v11 =>
  some (v11.1, v11.2.1, v11.2.2))
abbrev ref10_number.E (k : Nat) : Ent := ⟨ref10_number.A, ref10_number.outs, fun x => ref10_number.f k x.2.1 x.2.2.1⟩
noncomputable abbrev ref10_number.C (k : Nat) : Cfg := ⟨Tryz.prog, shs, look2 [(96, [], ref10_need.E k)], look [(58, ref10_number.l58.pc k)]⟩
theorem ref10_number.l58.ev (k q : Nat) (x : ref10_number.l58.A.V) : ((codeAt 60 (bodyOf (Tryz.f95)) 58).bind fun c => (loopOf c).bind fun c1 => evL (ref10_number.C k) c1 58 ref10_number.l58.A ref10_number.l58.outs (fun x => ref10_number.l58 k q x.2.1 x.2.2.1 x.2.2.2.1 x.2.2.2.2.1) x) = ref10_number.l58 k (q + 1) x.2.1 x.2.2.1 x.2.2.2.1 x.2.2.2.2.1 := by kernel_rfl
theorem ref10_number.ev (k : Nat) (x : ref10_number.A.V) : evF (ref10_number.C k) Tryz.f95 ref10_number.A ref10_number.outs x = ref10_number.f k x.2.1 x.2.2.1 := by kernel_rfl
theorem ref10_number.at : Tryz.prog.funcs[95]? = some Tryz.f95 := by kernel_rfl
theorem ref10_number.bo : Tryz.f95.body = some (bodyOf (Tryz.f95)) := by kernel_rfl
theorem ref10_number.nm : (Tryz.f95.name == "runtime.NumGoroutine") = false := by kernel_rfl
theorem ref10_number.sat (k : Nat) : Sat Tryz.prog 95 (ref10_number.E k) :=
  have hC : ∀ g l N, (ref10_number.C k).orc g l = some N → Sat Tryz.prog g N := satAll (satCons (ref10_need.sat k) satNil)
  sat_of (C := ref10_number.C k) hC mixed ref10_number.at ref10_number.nm ref10_number.bo (all_pieces rfl (locCons (loc_loop (A := ref10_number.l58.A) (outs := ref10_number.l58.outs) hC mixed (dstOk_zero _) (fun (q : Nat) (x : ref10_number.l58.A.V) => ref10_number.l58 k q x.2.1 x.2.2.1 x.2.2.2.1 x.2.2.2.2.1) (fun _ => rfl) (ref10_number.l58.ev k) (ooC (fun _ => rfl) (ooC (fun _ => rfl) ooN)) rfl rfl k) locNil)) (ref10_number.ev k) (ooC (fun _ => rfl) ooN) (dstOk_zero _) (by decide) rfl

/-! ### ref10_text: function 97 (examboard/examboardref10.text) -/
abbrev ref10_text.A : Sig := ⟨4, [], (.nilL), [0, 1, 2, 3], (.cons (.v (.sl (.int .u8))) (.cons (.v (.int .i64)) (.cons (.v (.int .u64)) (.cons (.agg (.cons (.v (.int .i64)) (.cons (.v (.int .i64)) (.cons (.v (.int .i64)) (.cons (.v .str) (.cons (.v (.sl .node)) .nilL)))))) .nilL))))⟩
abbrev ref10_text.R0 : Sig := ⟨1, [], (.nilL), [0], (.cons (.tup (.cons (.agg (.cons (.v (.int .i64)) (.cons (.v (.int .i64)) (.cons (.v (.int .i64)) (.cons (.v .str) (.cons (.v (.sl .node)) .nilL)))))) (.cons (.v (.int .i64)) (.cons (.v (.int .i64)) .nilL)))) .nilL)⟩
abbrev ref10_text.outs : List Out := [⟨.ret, ref10_text.R0, Int × Int × Int × ByteArray × List Nd × Int × Int, fun y => ((), (((y.1, y.2.1, y.2.2.1, y.2.2.2.1, y.2.2.2.2.1, ()), y.2.2.2.2.2.1, y.2.2.2.2.2.2, ()), ())), fun x => (x.2.1.1.1, x.2.1.1.2.1, x.2.1.1.2.2.1, x.2.1.1.2.2.2.1, x.2.1.1.2.2.2.2.1, x.2.1.2.1, x.2.1.2.2.1)⟩]
def ref10_text.f (k : Nat) (a0 : List Int) (a1 : Int) (a2 : Int) (a3 : Int) (a4 : Int) (a5 : Int) (a6 : ByteArray) (a7 : List Nd) : Option (Int × Int × Int × ByteArray × List Nd × Int × Int) :=
  cond (decide (a2 > 2000))
  (some (0, 0, 0, (⟨#[]⟩ : ByteArray), ([] : List Nd), 0, 5))
  ((ref10_need.f k a0 a1 (IntKind.wrap .i64 a2)).bind fun y1 =>
    cond (y1 != 0)
    (some (0, 0, 0, (⟨#[]⟩ : ByteArray), ([] : List Nd), 0, y1))
    (cond ((decide ((0 : Int) ≤ a1)) && ((decide (a1 ≤ (IntKind.wrap .i64 (a1 + (IntKind.wrap .i64 a2))))) && (decide ((IntKind.wrap .i64 (a1 + (IntKind.wrap .i64 a2))) ≤ (a0.length : Int)))))
      (some (a3, a4, a5, (bytesOf (List.drop (Int.toNat a1) (List.take (Int.toNat (IntKind.wrap .i64 (a1 + (IntKind.wrap .i64 a2)))) a0))), a7, (IntKind.wrap .i64 (a1 + (IntKind.wrap .i64 a2))), 0))
      (none)))
abbrev ref10_text.E (k : Nat) : Ent := ⟨ref10_text.A, ref10_text.outs, fun x => ref10_text.f k x.2.1 x.2.2.1 x.2.2.2.1 x.2.2.2.2.1.1 x.2.2.2.2.1.2.1 x.2.2.2.2.1.2.2.1 x.2.2.2.2.1.2.2.2.1 x.2.2.2.2.1.2.2.2.2.1⟩
noncomputable abbrev ref10_text.C (k : Nat) : Cfg := ⟨Tryz.prog, shs, look2 [(96, [], ref10_need.E k)], look []⟩
theorem ref10_text.ev (k : Nat) (x : ref10_text.A.V) : evF (ref10_text.C k) Tryz.f97 ref10_text.A ref10_text.outs x = ref10_text.f k x.2.1 x.2.2.1 x.2.2.2.1 x.2.2.2.2.1.1 x.2.2.2.2.1.2.1 x.2.2.2.2.1.2.2.1 x.2.2.2.2.1.2.2.2.1 x.2.2.2.2.1.2.2.2.2.1 := by kernel_rfl
theorem ref10_text.at : Tryz.prog.funcs[97]? = some Tryz.f97 := by kernel_rfl
theorem ref10_text.bo : Tryz.f97.body = some (bodyOf (Tryz.f97)) := by kernel_rfl
theorem ref10_text.nm : (Tryz.f97.name == "runtime.NumGoroutine") = false := by kernel_rfl
theorem ref10_text.sat (k : Nat) : Sat Tryz.prog 97 (ref10_text.E k) :=
  have hC : ∀ g l N, (ref10_text.C k).orc g l = some N → Sat Tryz.prog g N := satAll (satCons (ref10_need.sat k) satNil)
  sat_of (C := ref10_text.C k) hC mixed ref10_text.at ref10_text.nm ref10_text.bo (all_pieces rfl locNil) (ref10_text.ev k) (ooC (fun _ => rfl) ooN) (dstOk_zero _) (by decide) rfl

/-! ### ref10_node: function 91 (examboard/examboardref10.node) -/
abbrev ref10_node.A : Sig := ⟨3, [], (.nilL), [0, 1, 2], (.cons (.v (.sl (.int .u8))) (.cons (.v (.int .i64)) (.cons (.v (.int .i64)) .nilL)))⟩
abbrev ref10_node.R0 : Sig := ⟨1, [], (.nilL), [0], (.cons (.tup (.cons (.agg (.cons (.v (.int .i64)) (.cons (.v (.int .i64)) (.cons (.v (.int .i64)) (.cons (.v .str) (.cons (.v (.sl .node)) .nilL)))))) (.cons (.v (.int .i64)) (.cons (.v (.int .i64)) .nilL)))) .nilL)⟩
abbrev ref10_node.outs : List Out := [⟨.ret, ref10_node.R0, Int × Int × Int × ByteArray × List Nd × Int × Int, fun y => ((), (((y.1, y.2.1, y.2.2.1, y.2.2.2.1, y.2.2.2.2.1, ()), y.2.2.2.2.2.1, y.2.2.2.2.2.2, ()), ())), fun x => (x.2.1.1.1, x.2.1.1.2.1, x.2.1.1.2.2.1, x.2.1.1.2.2.2.1, x.2.1.1.2.2.2.2.1, x.2.1.2.1, x.2.1.2.2.1)⟩]
abbrev ref10_node.j131050.A : Sig := ⟨129, [.slot 6, .cell 0 4, .slot 11, .cell 2 4], (.cons (.obox (.cons (.v (.int .i64)) (.cons (.v (.int .i64)) (.cons (.v (.int .i64)) (.cons (.v .str) (.cons (.rowr 1) .nilL)))))) (.cons (.orow 42 .node) (.cons (.obox (.cons (.v (.int .i64)) (.cons (.v (.int .i64)) (.cons (.v (.int .i64)) (.cons (.v .str) (.cons (.rowr 3) .nilL)))))) (.cons (.orow 42 .node) .nilL)))), [6, 11, 1, 12], (.cons (.boxr 0 0) (.cons (.boxr 2 0) (.cons (.v (.int .i64)) (.cons (.v (.int .u64)) .nilL))))⟩
abbrev ref10_node.j131050.R0 : Sig := ⟨129, [.slot 6, .cell 0 4, .slot 11, .cell 2 4], (.cons (.obox (.cons (.v (.int .i64)) (.cons (.v (.int .i64)) (.cons (.v (.int .i64)) (.cons (.v .str) (.cons (.rowr 1) .nilL)))))) (.cons (.orow 42 .node) (.cons (.obox (.cons (.v (.int .i64)) (.cons (.v (.int .i64)) (.cons (.v (.int .i64)) (.cons (.v .str) (.cons (.rowr 3) .nilL)))))) (.cons (.orow 42 .node) .nilL)))), [6, 11, 1], (.cons (.boxr 0 0) (.cons (.boxr 2 0) (.cons (.v (.int .i64)) .nilL)))⟩
abbrev ref10_node.j131050.outs : List Out := [⟨.normal, ref10_node.j131050.R0, Int × Int × Int × ByteArray × List Nd × Int × Int × Int × ByteArray × List Nd × Int, fun y => (((y.1, y.2.1, y.2.2.1, y.2.2.2.1, (), ()), y.2.2.2.2.1, (y.2.2.2.2.2.1, y.2.2.2.2.2.2.1, y.2.2.2.2.2.2.2.1, y.2.2.2.2.2.2.2.2.1, (), ()), y.2.2.2.2.2.2.2.2.2.1, ()), ((), (), y.2.2.2.2.2.2.2.2.2.2, ())), fun x => (x.1.1.1, x.1.1.2.1, x.1.1.2.2.1, x.1.1.2.2.2.1, x.1.2.1, x.1.2.2.1.1, x.1.2.2.1.2.1, x.1.2.2.1.2.2.1, x.1.2.2.1.2.2.2.1, x.1.2.2.2.1, x.2.2.2.1)⟩]
def ref10_node.j131050 (self : (List Int) → Int → Int → Option (Int × Int × Int × ByteArray × List Nd × Int × Int)) (k : Nat) (x0 : Int) (x1 : Int) (x2 : Int) (x3 : ByteArray) (x4 : List Nd) (x5 : Int) (x6 : Int) (x7 : Int) (x8 : ByteArray) (x9 : List Nd) (x10 : Int) (x11 : Int) : Option (Int × Int × Int × ByteArray × List Nd × Int × Int × Int × ByteArray × List Nd × Int) :=
  cond ((Int.tmod x11 2) == 1)
  (some (x0, x1, x2, x3, x4, x5, x6, (IntKind.wrap .i64 ((IntKind.wrap .i64 (0 - x7)) - 1)), x8, x9, x10))
  (some (x0, x1, x2, x3, x4, x5, x6, x7, x8, x9, x10))
abbrev ref10_node.j131050.pc (self : (List Int) → Int → Int → Option (Int × Int × Int × ByteArray × List Nd × Int × Int)) (k : Nat) : Pc := ⟨ref10_node.j131050.A, ref10_node.j131050.outs, fun x => ref10_node.j131050 self k x.1.1.1 x.1.1.2.1 x.1.1.2.2.1 x.1.1.2.2.2.1 x.1.2.1 x.1.2.2.1.1 x.1.2.2.1.2.1 x.1.2.2.1.2.2.1 x.1.2.2.1.2.2.2.1 x.1.2.2.2.1 x.2.2.2.1 x.2.2.2.2.1⟩
abbrev ref10_node.l262138.A : Sig := ⟨129, [.slot 6, .cell 0 4, .slot 11, .cell 2 4], (.cons (.obox (.cons (.v (.int .i64)) (.cons (.v (.int .i64)) (.cons (.v (.int .i64)) (.cons (.v .str) (.cons (.rowr 1) .nilL)))))) (.cons (.orow 42 .node) (.cons (.obox (.cons (.v (.int .i64)) (.cons (.v (.int .i64)) (.cons (.v (.int .i64)) (.cons (.v .str) (.cons (.rowr 3) .nilL)))))) (.cons (.orow 42 .node) .nilL)))), [6, 11, 0, 1, 2, 12, 13], (.cons (.boxr 0 0) (.cons (.boxr 2 0) (.cons (.v (.sl (.int .u8))) (.cons (.v (.int .i64)) (.cons (.v (.int .i64)) (.cons (.v (.int .u64)) (.cons (.v (.int .i64)) .nilL)))))))⟩
abbrev ref10_node.l262138.R0 : Sig := ⟨129, [.slot 6, .cell 0 4, .slot 11, .cell 2 4], (.cons (.obox (.cons (.v (.int .i64)) (.cons (.v (.int .i64)) (.cons (.v (.int .i64)) (.cons (.v .str) (.cons (.rowr 1) .nilL)))))) (.cons (.orow 42 .node) (.cons (.obox (.cons (.v (.int .i64)) (.cons (.v (.int .i64)) (.cons (.v (.int .i64)) (.cons (.v .str) (.cons (.rowr 3) .nilL)))))) (.cons (.orow 42 .node) .nilL)))), [6, 11, 1], (.cons (.boxr 0 0) (.cons (.boxr 2 0) (.cons (.v (.int .i64)) .nilL)))⟩
abbrev ref10_node.l262138.R1 : Sig := ⟨129, [.slot 6, .cell 0 4], (.cons (.obox (.cons (.v (.int .i64)) (.cons (.v (.int .i64)) (.cons (.v (.int .i64)) (.cons (.v .str) (.cons (.rowr 1) .nilL)))))) (.cons (.orow 42 .node) .nilL)), [6, 7, 8], (.cons (.boxr 0 0) (.cons (.v (.int .i64)) (.cons (.v (.int .i64)) .nilL)))⟩
abbrev ref10_node.l262138.outs : List Out := [⟨(.exit 0), ref10_node.l262138.R0, Int × Int × Int × ByteArray × List Nd × Int × Int × Int × ByteArray × List Nd × Int, fun y => (((y.1, y.2.1, y.2.2.1, y.2.2.2.1, (), ()), y.2.2.2.2.1, (y.2.2.2.2.2.1, y.2.2.2.2.2.2.1, y.2.2.2.2.2.2.2.1, y.2.2.2.2.2.2.2.2.1, (), ()), y.2.2.2.2.2.2.2.2.2.1, ()), ((), (), y.2.2.2.2.2.2.2.2.2.2, ())), fun x => (x.1.1.1, x.1.1.2.1, x.1.1.2.2.1, x.1.1.2.2.2.1, x.1.2.1, x.1.2.2.1.1, x.1.2.2.1.2.1, x.1.2.2.1.2.2.1, x.1.2.2.1.2.2.2.1, x.1.2.2.2.1, x.2.2.2.1)⟩, ⟨.ret, ref10_node.l262138.R1, Int × Int × Int × ByteArray × List Nd × Int × Int, fun y => (((y.1, y.2.1, y.2.2.1, y.2.2.2.1, (), ()), y.2.2.2.2.1, ()), ((), y.2.2.2.2.2.1, y.2.2.2.2.2.2, ())), fun x => (x.1.1.1, x.1.1.2.1, x.1.1.2.2.1, x.1.1.2.2.2.1, x.1.2.1, x.2.2.1, x.2.2.2.1)⟩]
def ref10_node.l262138 (self : (List Int) → Int → Int → Option (Int × Int × Int × ByteArray × List Nd × Int × Int)) (k : Nat) : Nat → Int → Int → Int → ByteArray → (List Nd) → Int → Int → Int → ByteArray → (List Nd) → (List Int) → Int → Int → Int → Int → Option ((Int × Int × Int × ByteArray × List Nd × Int × Int × Int × ByteArray × List Nd × Int) ⊕ (Int × Int × Int × ByteArray × List Nd × Int × Int))
  | 0, _, _, _, _, _, _, _, _, _, _, _, _, _, _, _ => none
  | q + 1, x0, x1, x2, x3, x4, x5, x6, x7, x8, x9, x10, x11, x12, x13, x14 =>
    cond (decide (x14 < (IntKind.wrap .i64 x13)))
    ((self x10 x11 (IntKind.wrap .i64 (x12 + 1))).bind fun y8 =>
      cond (y8.2.2.2.2.2.2 != 0)
      (some (.inr (0, 0, 0, (⟨#[]⟩ : ByteArray), ([] : List Nd), 0, y8.2.2.2.2.2.2)))
      (cond (fits (x9.length + 1) 64)
        (ref10_node.l262138 self k q x0 x1 x2 x3 x4 x5 x6 x7 x8 (x9 ++ [(⟨y8.1, y8.2.1, y8.2.2.1, y8.2.2.2.1, y8.2.2.2.2.1⟩ : Nd)]) x10 y8.2.2.2.2.2.1 x12 x13 (IntKind.wrap .i64 (x14 + 1)))
        (none)))
    (some (.inl (x0, x1, x2, x3, x4, x5, x6, x7, x8, x9, x11)))
abbrev ref10_node.l262138.pc (self : (List Int) → Int → Int → Option (Int × Int × Int × ByteArray × List Nd × Int × Int)) (k : Nat) : Pc := ⟨ref10_node.l262138.A, ref10_node.l262138.outs, fun x => ref10_node.l262138 self k k x.1.1.1 x.1.1.2.1 x.1.1.2.2.1 x.1.1.2.2.2.1 x.1.2.1 x.1.2.2.1.1 x.1.2.2.1.2.1 x.1.2.2.1.2.2.1 x.1.2.2.1.2.2.2.1 x.1.2.2.2.1 x.2.2.2.1 x.2.2.2.2.1 x.2.2.2.2.2.1 x.2.2.2.2.2.2.1 x.2.2.2.2.2.2.2.1⟩
def ref10_node.g (self : (List Int) → Int → Int → Option (Int × Int × Int × ByteArray × List Nd × Int × Int)) (k : Nat) (a0 : List Int) (a1 : Int) (a2 : Int) : Option (Int × Int × Int × ByteArray × List Nd × Int × Int) :=
  cond (decide (a2 > 8))
  (some (0, 0, 0, (⟨#[]⟩ : ByteArray), ([] : List Nd), 0, 5))
  ((ref10_number.f k a0 a1).bind fun y1 =>
    cond (y1.2.2 != 0)
    (some (0, 0, 0, (⟨#[]⟩ : ByteArray), ([] : List Nd), 0, y1.2.2))
    (cond (decide (y1.1 > 9999999))
      (some (0, 0, 0, (⟨#[]⟩ : ByteArray), ([] : List Nd), 0, 3))
      ((ref10_need.f k a0 y1.2.1 1).bind fun y2 =>
        cond (y2 != 0)
        (some (0, 0, 0, (⟨#[]⟩ : ByteArray), ([] : List Nd), 0, y2))
        (cond (inB y1.2.1 a0.length)
          (Option.bind (cond (decide ((IntKind.wrap .i64 (rdL (.int .u8) a0 y1.2.1)) < 1))
              (some true)
              (some (decide ((IntKind.wrap .i64 (rdL (.int .u8) a0 y1.2.1)) > 3)))) fun (c3 : Bool) =>
            cond c3
            (some (0, 0, 0, (⟨#[]⟩ : ByteArray), ([] : List Nd), 0, 2))
            ((ref10_number.f k a0 (IntKind.wrap .i64 (y1.2.1 + 1))).bind fun y4 =>
              cond (y4.2.2 != 0)
              (some (0, 0, 0, (⟨#[]⟩ : ByteArray), ([] : List Nd), 0, y4.2.2))
              (cond ((IntKind.wrap .i64 (rdL (.int .u8) a0 y1.2.1)) == 1)
                ((ref10_node.j131050 self k 0 0 0 (⟨#[]⟩ : ByteArray) ([] : List Nd) (IntKind.wrap .i64 y1.1) (IntKind.wrap .i64 (rdL (.int .u8) a0 y1.2.1)) (IntKind.wrap .i64 (IntKind.wrap .u64 (Int.tdiv y4.1 2))) (⟨#[]⟩ : ByteArray) ([] : List Nd) y4.2.1 y4.1).bind fun y5 =>
                  some (y5.2.2.2.2.2.1, y5.2.2.2.2.2.2.1, y5.2.2.2.2.2.2.2.1, y5.2.2.2.2.2.2.2.2.1, y5.2.2.2.2.2.2.2.2.2.1, y5.2.2.2.2.2.2.2.2.2.2, 0))
                (cond ((IntKind.wrap .i64 (rdL (.int .u8) a0 y1.2.1)) == 2)
                  ((ref10_text.f k a0 y4.2.1 y4.1 (IntKind.wrap .i64 y1.1) (IntKind.wrap .i64 (rdL (.int .u8) a0 y1.2.1)) 0 (⟨#[]⟩ : ByteArray) ([] : List Nd)).bind fun y6 =>
                    some (y6.1, y6.2.1, y6.2.2.1, y6.2.2.2.1, y6.2.2.2.2.1, y6.2.2.2.2.2.1, y6.2.2.2.2.2.2))
                  (cond (decide (y4.1 > 1024))
                    (some (0, 0, 0, (⟨#[]⟩ : ByteArray), ([] : List Nd), 0, 5))
                    ((ref10_node.l262138 self k k 0 0 0 (⟨#[]⟩ : ByteArray) ([] : List Nd) (IntKind.wrap .i64 y1.1) (IntKind.wrap .i64 (rdL (.int .u8) a0 y1.2.1)) 0 (⟨#[]⟩ : ByteArray) ([] : List Nd) a0 y4.2.1 a2 y4.1 0).bind fun y9 =>
                      Sum.casesOn (motive := fun _ => Option _) y9 (fun u10 =>
                      some (u10.2.2.2.2.2.1, u10.2.2.2.2.2.2.1, u10.2.2.2.2.2.2.2.1, u10.2.2.2.2.2.2.2.2.1, u10.2.2.2.2.2.2.2.2.2.1, u10.2.2.2.2.2.2.2.2.2.2, 0))
                      (fun v11 =>
                      some (v11.1, v11.2.1, v11.2.2.1, v11.2.2.2.1, v11.2.2.2.2.1, v11.2.2.2.2.2.1, v11.2.2.2.2.2.2))))))))
          (none)))))
def ref10_node.f : Nat → (List Int) → Int → Int → Option (Int × Int × Int × ByteArray × List Nd × Int × Int)
  | 0, _, _, _ => none
  | k + 1, a0, a1, a2 => ref10_node.g (ref10_node.f k) k a0 a1 a2
abbrev ref10_node.ES (self : (List Int) → Int → Int → Option (Int × Int × Int × ByteArray × List Nd × Int × Int)) : Ent := ⟨ref10_node.A, ref10_node.outs, fun x => self x.2.1 x.2.2.1 x.2.2.2.1⟩
abbrev ref10_node.E (k : Nat) : Ent := ⟨ref10_node.A, ref10_node.outs, fun x => ref10_node.f k x.2.1 x.2.2.1 x.2.2.2.1⟩
noncomputable abbrev ref10_node.C (self : (List Int) → Int → Int → Option (Int × Int × Int × ByteArray × List Nd × Int × Int)) (k : Nat) : Cfg := ⟨Tryz.prog, shs, look2 [(96, [], ref10_need.E k), (91, [], ref10_node.ES self), (95, [], ref10_number.E k), (97, [], ref10_text.E k)], look [(131050, ref10_node.j131050.pc self k), (262138, ref10_node.l262138.pc self k)]⟩
theorem ref10_node.j131050.ev (self : (List Int) → Int → Int → Option (Int × Int × Int × ByteArray × List Nd × Int × Int)) (k : Nat) (x : ref10_node.j131050.A.V) : ((codeAt 60 (bodyOf (Tryz.f91)) 131050).bind fun c => evP (ref10_node.C self k) c 131050 ref10_node.j131050.A ref10_node.j131050.outs x) = ref10_node.j131050 self k x.1.1.1 x.1.1.2.1 x.1.1.2.2.1 x.1.1.2.2.2.1 x.1.2.1 x.1.2.2.1.1 x.1.2.2.1.2.1 x.1.2.2.1.2.2.1 x.1.2.2.1.2.2.2.1 x.1.2.2.2.1 x.2.2.2.1 x.2.2.2.2.1 := by kernel_rfl
theorem ref10_node.l262138.ev (self : (List Int) → Int → Int → Option (Int × Int × Int × ByteArray × List Nd × Int × Int)) (k q : Nat) (x : ref10_node.l262138.A.V) : ((codeAt 60 (bodyOf (Tryz.f91)) 262138).bind fun c => (loopOf c).bind fun c1 => evL (ref10_node.C self k) c1 262138 ref10_node.l262138.A ref10_node.l262138.outs (fun x => ref10_node.l262138 self k q x.1.1.1 x.1.1.2.1 x.1.1.2.2.1 x.1.1.2.2.2.1 x.1.2.1 x.1.2.2.1.1 x.1.2.2.1.2.1 x.1.2.2.1.2.2.1 x.1.2.2.1.2.2.2.1 x.1.2.2.2.1 x.2.2.2.1 x.2.2.2.2.1 x.2.2.2.2.2.1 x.2.2.2.2.2.2.1 x.2.2.2.2.2.2.2.1) x) = ref10_node.l262138 self k (q + 1) x.1.1.1 x.1.1.2.1 x.1.1.2.2.1 x.1.1.2.2.2.1 x.1.2.1 x.1.2.2.1.1 x.1.2.2.1.2.1 x.1.2.2.1.2.2.1 x.1.2.2.1.2.2.2.1 x.1.2.2.2.1 x.2.2.2.1 x.2.2.2.2.1 x.2.2.2.2.2.1 x.2.2.2.2.2.2.1 x.2.2.2.2.2.2.2.1 := by kernel_rfl
theorem ref10_node.ev (self : (List Int) → Int → Int → Option (Int × Int × Int × ByteArray × List Nd × Int × Int)) (k : Nat) (x : ref10_node.A.V) : evF (ref10_node.C self k) Tryz.f91 ref10_node.A ref10_node.outs x = ref10_node.g self k x.2.1 x.2.2.1 x.2.2.2.1 := by kernel_rfl
theorem ref10_node.at : Tryz.prog.funcs[91]? = some Tryz.f91 := by kernel_rfl
theorem ref10_node.bo : Tryz.f91.body = some (bodyOf (Tryz.f91)) := by kernel_rfl
theorem ref10_node.nm : (Tryz.f91.name == "runtime.NumGoroutine") = false := by kernel_rfl
theorem ref10_node.satS (self : (List Int) → Int → Int → Option (Int × Int × Int × ByteArray × List Nd × Int × Int)) (k : Nat) (hS : Sat Tryz.prog 91 (ref10_node.ES self)) : Sat Tryz.prog 91 ⟨ref10_node.A, ref10_node.outs, fun x => ref10_node.g self k x.2.1 x.2.2.1 x.2.2.2.1⟩ :=
  have hC : ∀ g l N, (ref10_node.C self k).orc g l = some N → Sat Tryz.prog g N := satAll (satCons (ref10_need.sat k) (satCons hS (satCons (ref10_number.sat k) (satCons (ref10_text.sat k) satNil))))
  sat_of (C := ref10_node.C self k) hC mixed ref10_node.at ref10_node.nm ref10_node.bo (all_pieces rfl (locCons (loc_code (A := ref10_node.j131050.A) (outs := ref10_node.j131050.outs) hC mixed (dstOk_zero _) (fun (x : ref10_node.j131050.A.V) => ref10_node.j131050 self k x.1.1.1 x.1.1.2.1 x.1.1.2.2.1 x.1.1.2.2.2.1 x.1.2.1 x.1.2.2.1.1 x.1.2.2.1.2.1 x.1.2.2.1.2.2.1 x.1.2.2.1.2.2.2.1 x.1.2.2.2.1 x.2.2.2.1 x.2.2.2.2.1) (ref10_node.j131050.ev self k) (ooC (fun _ => rfl) ooN) rfl) (locCons (loc_loop (A := ref10_node.l262138.A) (outs := ref10_node.l262138.outs) hC mixed (dstOk_zero _) (fun (q : Nat) (x : ref10_node.l262138.A.V) => ref10_node.l262138 self k q x.1.1.1 x.1.1.2.1 x.1.1.2.2.1 x.1.1.2.2.2.1 x.1.2.1 x.1.2.2.1.1 x.1.2.2.1.2.1 x.1.2.2.1.2.2.1 x.1.2.2.1.2.2.2.1 x.1.2.2.2.1 x.2.2.2.1 x.2.2.2.2.1 x.2.2.2.2.2.1 x.2.2.2.2.2.2.1 x.2.2.2.2.2.2.2.1) (fun _ => rfl) (ref10_node.l262138.ev self k) (ooC (fun _ => rfl) (ooC (fun _ => rfl) ooN)) rfl rfl k) locNil))) (ref10_node.ev self k) (ooC (fun _ => rfl) ooN) (dstOk_zero _) (by decide) rfl
theorem ref10_node.sat : ∀ k, Sat Tryz.prog 91 (ref10_node.E k)
  | 0 => sat_none ref10_node.at ref10_node.nm ref10_node.bo (fun _ => rfl)
  | k + 1 => ref10_node.satS (ref10_node.f k) k (ref10_node.sat k)

/-! ### ref10_Decode: function 83 (examboard/examboardref10.Decode) -/
abbrev ref10_Decode.A : Sig := ⟨1, [], (.nilL), [0], (.cons (.v (.sl (.int .u8))) .nilL)⟩
abbrev ref10_Decode.R0 : Sig := ⟨1, [], (.nilL), [0], (.cons (.tup (.cons (.agg (.cons (.v (.int .i64)) (.cons (.v (.int .i64)) (.cons (.v (.int .i64)) (.cons (.v .str) (.cons (.v (.sl .node)) .nilL)))))) (.cons (.v (.int .i64)) (.cons (.v (.int .i64)) .nilL)))) .nilL)⟩
abbrev ref10_Decode.outs : List Out := [⟨.ret, ref10_Decode.R0, Int × Int × Int × ByteArray × List Nd × Int × Int, fun y => ((), (((y.1, y.2.1, y.2.2.1, y.2.2.2.1, y.2.2.2.2.1, ()), y.2.2.2.2.2.1, y.2.2.2.2.2.2, ()), ())), fun x => (x.2.1.1.1, x.2.1.1.2.1, x.2.1.1.2.2.1, x.2.1.1.2.2.2.1, x.2.1.1.2.2.2.2.1, x.2.1.2.1, x.2.1.2.2.1)⟩]
def ref10_Decode.f (k : Nat) (a0 : List Int) : Option (Int × Int × Int × ByteArray × List Nd × Int × Int) :=
  (ref10_node.f k a0 0 1).bind fun y1 =>
  some (y1.1, y1.2.1, y1.2.2.1, y1.2.2.2.1, y1.2.2.2.2.1, y1.2.2.2.2.2.1, y1.2.2.2.2.2.2)
abbrev ref10_Decode.E (k : Nat) : Ent := ⟨ref10_Decode.A, ref10_Decode.outs, fun x => ref10_Decode.f k x.2.1⟩
noncomputable abbrev ref10_Decode.C (k : Nat) : Cfg := ⟨Tryz.prog, shs, look2 [(91, [], ref10_node.E k)], look []⟩
theorem ref10_Decode.ev (k : Nat) (x : ref10_Decode.A.V) : evF (ref10_Decode.C k) Tryz.f83 ref10_Decode.A ref10_Decode.outs x = ref10_Decode.f k x.2.1 := by kernel_rfl
theorem ref10_Decode.at : Tryz.prog.funcs[83]? = some Tryz.f83 := by kernel_rfl
theorem ref10_Decode.bo : Tryz.f83.body = some (bodyOf (Tryz.f83)) := by kernel_rfl
theorem ref10_Decode.nm : (Tryz.f83.name == "runtime.NumGoroutine") = false := by kernel_rfl
theorem ref10_Decode.sat (k : Nat) : Sat Tryz.prog 83 (ref10_Decode.E k) :=
  have hC : ∀ g l N, (ref10_Decode.C k).orc g l = some N → Sat Tryz.prog g N := satAll (satCons (ref10_node.sat k) satNil)
  sat_of (C := ref10_Decode.C k) hC mixed ref10_Decode.at ref10_Decode.nm ref10_Decode.bo (all_pieces rfl locNil) (ref10_Decode.ev k) (ooC (fun _ => rfl) ooN) (dstOk_zero _) (by decide) rfl

/-! ### ref49_entry: function 65 (examboard/examboardref49.entry) -/
abbrev ref49_entry.A : Sig := ⟨3, [], (.nilL), [0, 1, 2], (.cons (.v (.sl (.int .u8))) (.cons (.v (.int .i64)) (.cons (.v (.int .u64)) .nilL)))⟩
abbrev ref49_entry.R0 : Sig := ⟨1, [], (.nilL), [0], (.cons (.tup (.cons (.agg (.cons (.v (.int .i64)) (.cons (.v (.int .i64)) (.cons (.v (.int .i64)) (.cons (.v .str) (.cons (.v (.sl .node)) .nilL)))))) (.cons (.v (.int .i64)) (.cons (.v (.int .u64)) (.cons (.v (.int .i64)) .nilL))))) .nilL)⟩
abbrev ref49_entry.outs : List Out := [⟨.ret, ref49_entry.R0, Int × Int × Int × ByteArray × List Nd × Int × Int × Int, fun y => ((), (((y.1, y.2.1, y.2.2.1, y.2.2.2.1, y.2.2.2.2.1, ()), y.2.2.2.2.2.1, y.2.2.2.2.2.2.1, y.2.2.2.2.2.2.2, ()), ())), fun x => (x.2.1.1.1, x.2.1.1.2.1, x.2.1.1.2.2.1, x.2.1.1.2.2.2.1, x.2.1.1.2.2.2.2.1, x.2.1.2.1, x.2.1.2.2.1, x.2.1.2.2.2.1)⟩]
def ref49_entry.f (k : Nat) (a0 : List Int) (a1 : Int) (a2 : Int) : Option (Int × Int × Int × ByteArray × List Nd × Int × Int × Int) :=
  cond (decide (a1 ≥ 300))
  (some (0, 0, 0, (⟨#[]⟩ : ByteArray), ([] : List Nd), 0, 0, 5))
  (cond (decide ((a0.length : Int) < 4))
    (some (0, 0, 0, (⟨#[]⟩ : ByteArray), ([] : List Nd), 0, 0, 4))
    ((ref49_number.f k a0 4).bind fun y1 =>
      cond (decide (y1 > 2000))
      (some (0, 0, 0, (⟨#[]⟩ : ByteArray), ([] : List Nd), 0, 0, 5))
      (cond (decide ((a0.length : Int) < (IntKind.wrap .i64 ((IntKind.wrap .i64 (4 + (IntKind.wrap .i64 y1))) + 8))))
        (some (0, 0, 0, (⟨#[]⟩ : ByteArray), ([] : List Nd), 0, 0, 4))
        (cond ((decide ((0 : Int) ≤ 0)) && ((decide ((0 : Int) ≤ (IntKind.wrap .i64 (4 + (IntKind.wrap .i64 y1))))) && (decide ((IntKind.wrap .i64 (4 + (IntKind.wrap .i64 y1))) ≤ (a0.length : Int)))))
          ((ref11_Chain.f k a2 (List.drop (Int.toNat 0) (List.take (Int.toNat (IntKind.wrap .i64 (4 + (IntKind.wrap .i64 y1)))) a0))).bind fun y2 =>
            cond ((decide ((0 : Int) ≤ (IntKind.wrap .i64 (4 + (IntKind.wrap .i64 y1))))) && ((decide ((IntKind.wrap .i64 (4 + (IntKind.wrap .i64 y1))) ≤ (a0.length : Int))) && (decide ((a0.length : Int) ≤ (a0.length : Int)))))
            ((ref49_number.f k (List.drop (Int.toNat (IntKind.wrap .i64 (4 + (IntKind.wrap .i64 y1)))) (List.take (Int.toNat (a0.length : Int)) a0)) 8).bind fun y3 =>
              cond (y3 != y2)
              (some (0, 0, 0, (⟨#[]⟩ : ByteArray), ([] : List Nd), 0, 0, 12))
              (cond ((decide ((0 : Int) ≤ 4)) && ((decide ((4 : Int) ≤ (IntKind.wrap .i64 (4 + (IntKind.wrap .i64 y1))))) && (decide ((IntKind.wrap .i64 (4 + (IntKind.wrap .i64 y1))) ≤ (a0.length : Int)))))
                ((ref10_Decode.f k (List.drop (Int.toNat 4) (List.take (Int.toNat (IntKind.wrap .i64 (4 + (IntKind.wrap .i64 y1)))) a0))).bind fun y4 =>
                  Option.bind (cond (y4.2.2.2.2.2.2 != 0)
                    (some true)
                    (some (y4.2.2.2.2.2.1 != (IntKind.wrap .i64 y1)))) fun (c5 : Bool) =>
                  cond c5
                  (some (0, 0, 0, (⟨#[]⟩ : ByteArray), ([] : List Nd), 0, 0, 2))
                  (some (y4.1, y4.2.1, y4.2.2.1, y4.2.2.2.1, y4.2.2.2.2.1, (IntKind.wrap .i64 ((IntKind.wrap .i64 (4 + (IntKind.wrap .i64 y1))) + 8)), y2, 0)))
                (none)))
            (none))
          (none)))))
abbrev ref49_entry.E (k : Nat) : Ent := ⟨ref49_entry.A, ref49_entry.outs, fun x => ref49_entry.f k x.2.1 x.2.2.1 x.2.2.2.1⟩
noncomputable abbrev ref49_entry.C (k : Nat) : Cfg := ⟨Tryz.prog, shs, look2 [(83, [], ref10_Decode.E k), (45, [], ref11_Chain.E k), (82, [], ref49_number.E k)], look []⟩
theorem ref49_entry.ev (k : Nat) (x : ref49_entry.A.V) : evF (ref49_entry.C k) Tryz.f65 ref49_entry.A ref49_entry.outs x = ref49_entry.f k x.2.1 x.2.2.1 x.2.2.2.1 := by kernel_rfl
theorem ref49_entry.at : Tryz.prog.funcs[65]? = some Tryz.f65 := by kernel_rfl
theorem ref49_entry.bo : Tryz.f65.body = some (bodyOf (Tryz.f65)) := by kernel_rfl
theorem ref49_entry.nm : (Tryz.f65.name == "runtime.NumGoroutine") = false := by kernel_rfl
theorem ref49_entry.sat (k : Nat) : Sat Tryz.prog 65 (ref49_entry.E k) :=
  have hC : ∀ g l N, (ref49_entry.C k).orc g l = some N → Sat Tryz.prog g N := satAll (satCons (ref10_Decode.sat k) (satCons (ref11_Chain.sat k) (satCons (ref49_number.sat k) satNil)))
  sat_of (C := ref49_entry.C k) hC mixed ref49_entry.at ref49_entry.nm ref49_entry.bo (all_pieces rfl locNil) (ref49_entry.ev k) (ooC (fun _ => rfl) ooN) (dstOk_zero _) (by decide) rfl

/-! ### ref49_read: function 41 (examboard/examboardref49.read) -/
abbrev ref49_read.A : Sig := ⟨1, [], (.nilL), [0], (.cons (.v (.sl (.int .u8))) .nilL)⟩
abbrev ref49_read.R0 : Sig := ⟨1, [], (.nilL), [0], (.cons (.tup (.cons (.v (.sl .node)) (.cons (.v (.int .i64)) (.cons (.v (.int .u64)) (.cons (.v (.int .i64)) .nilL))))) .nilL)⟩
abbrev ref49_read.outs : List Out := [⟨.ret, ref49_read.R0, List Nd × Int × Int × Int, fun y => ((), ((y.1, y.2.1, y.2.2.1, y.2.2.2, ()), ())), fun x => (x.2.1.1, x.2.1.2.1, x.2.1.2.2.1, x.2.1.2.2.2.1)⟩]
abbrev ref49_read.l124.A : Sig := ⟨47, [.slot 6], (.cons (.orow 42 .node) .nilL), [0, 6, 7, 8], (.cons (.v (.sl (.int .u8))) (.cons (.rowr 0) (.cons (.v (.int .i64)) (.cons (.v (.int .u64)) .nilL))))⟩
abbrev ref49_read.l124.R0 : Sig := ⟨47, [.slot 6], (.cons (.orow 42 .node) .nilL), [6, 7, 8], (.cons (.rowr 0) (.cons (.v (.int .i64)) (.cons (.v (.int .u64)) .nilL)))⟩
abbrev ref49_read.l124.R1 : Sig := ⟨47, [.slot 2], (.cons (.orow 42 .node) .nilL), [2, 3, 4, 5], (.cons (.rowr 0) (.cons (.v (.int .i64)) (.cons (.v (.int .u64)) (.cons (.v (.int .i64)) .nilL))))⟩
abbrev ref49_read.l124.outs : List Out := [⟨(.exit 0), ref49_read.l124.R0, List Nd × Int × Int, fun y => ((y.1, ()), ((), y.2.1, y.2.2, ())), fun x => (x.1.1, x.2.2.1, x.2.2.2.1)⟩, ⟨.ret, ref49_read.l124.R1, List Nd × Int × Int × Int, fun y => ((y.1, ()), ((), y.2.1, y.2.2.1, y.2.2.2, ())), fun x => (x.1.1, x.2.2.1, x.2.2.2.1, x.2.2.2.2.1)⟩]
def ref49_read.l124 (k : Nat) : Nat → (List Nd) → (List Int) → Int → Int → Option ((List Nd × Int × Int) ⊕ (List Nd × Int × Int × Int))
  | 0, _, _, _, _ => none
  | q + 1, x0, x1, x2, x3 =>
    cond (decide (x2 < (x1.length : Int)))
    (cond ((decide ((0 : Int) ≤ x2)) && ((decide (x2 ≤ (x1.length : Int))) && (decide ((x1.length : Int) ≤ (x1.length : Int)))))
      ((ref49_entry.f k (List.drop (Int.toNat x2) (List.take (Int.toNat (x1.length : Int)) x1)) (x0.length : Int) x3).bind fun y3 =>
        cond (y3.2.2.2.2.2.2.2 != 0)
        (some (.inr (x0, x2, x3, y3.2.2.2.2.2.2.2)))
        (cond (fits (x0.length + 1) 64)
          (ref49_read.l124 k q (x0 ++ [(⟨y3.1, y3.2.1, y3.2.2.1, y3.2.2.2.1, y3.2.2.2.2.1⟩ : Nd)]) x1 (IntKind.wrap .i64 (x2 + y3.2.2.2.2.2.1)) y3.2.2.2.2.2.2.1)
          (none)))
      (none))
    (some (.inl (x0, x2, x3)))
abbrev ref49_read.l124.pc (k : Nat) : Pc := ⟨ref49_read.l124.A, ref49_read.l124.outs, fun x => ref49_read.l124 k k x.1.1 x.2.1 x.2.2.2.1 x.2.2.2.2.1⟩
def ref49_read.f (k : Nat) (a0 : List Int) : Option (List Nd × Int × Int × Int) :=
  (ref11_Of.f k ([] : List Int)).bind fun y1 =>
  (ref49_read.l124 k k ([] : List Nd) a0 0 y1).bind fun y4 =>
  Sum.casesOn (motive := fun _ => Option _) y4 (fun u5 =>
  some (u5.1, u5.2.1, u5.2.2, 0))
  (fun v6 =>
  some (v6.1, v6.2.1, v6.2.2.1, v6.2.2.2))
abbrev ref49_read.E (k : Nat) : Ent := ⟨ref49_read.A, ref49_read.outs, fun x => ref49_read.f k x.2.1⟩
noncomputable abbrev ref49_read.C (k : Nat) : Cfg := ⟨Tryz.prog, shs, look2 [(64, [], ref11_Of.E k), (65, [], ref49_entry.E k)], look [(124, ref49_read.l124.pc k)]⟩
theorem ref49_read.l124.ev (k q : Nat) (x : ref49_read.l124.A.V) : ((codeAt 60 (bodyOf (Tryz.f41)) 124).bind fun c => (loopOf c).bind fun c1 => evL (ref49_read.C k) c1 124 ref49_read.l124.A ref49_read.l124.outs (fun x => ref49_read.l124 k q x.1.1 x.2.1 x.2.2.2.1 x.2.2.2.2.1) x) = ref49_read.l124 k (q + 1) x.1.1 x.2.1 x.2.2.2.1 x.2.2.2.2.1 := by kernel_rfl
theorem ref49_read.ev (k : Nat) (x : ref49_read.A.V) : evF (ref49_read.C k) Tryz.f41 ref49_read.A ref49_read.outs x = ref49_read.f k x.2.1 := by kernel_rfl
theorem ref49_read.at : Tryz.prog.funcs[41]? = some Tryz.f41 := by kernel_rfl
theorem ref49_read.bo : Tryz.f41.body = some (bodyOf (Tryz.f41)) := by kernel_rfl
theorem ref49_read.nm : (Tryz.f41.name == "runtime.NumGoroutine") = false := by kernel_rfl
theorem ref49_read.sat (k : Nat) : Sat Tryz.prog 41 (ref49_read.E k) :=
  have hC : ∀ g l N, (ref49_read.C k).orc g l = some N → Sat Tryz.prog g N := satAll (satCons (ref11_Of.sat k) (satCons (ref49_entry.sat k) satNil))
  sat_of (C := ref49_read.C k) hC mixed ref49_read.at ref49_read.nm ref49_read.bo (all_pieces rfl (locCons (loc_loop (A := ref49_read.l124.A) (outs := ref49_read.l124.outs) hC mixed (dstOk_zero _) (fun (q : Nat) (x : ref49_read.l124.A.V) => ref49_read.l124 k q x.1.1 x.2.1 x.2.2.2.1 x.2.2.2.2.1) (fun _ => rfl) (ref49_read.l124.ev k) (ooC (fun _ => rfl) (ooC (fun _ => rfl) ooN)) rfl rfl k) locNil)) (ref49_read.ev k) (ooC (fun _ => rfl) ooN) (dstOk_zero _) (by decide) rfl

/-! ### ref10_fits: function 66 (examboard/examboardref10.fits) -/
abbrev ref10_fits.A : Sig := ⟨2, [], (.nilL), [0, 1], (.cons (.agg (.cons (.v (.int .i64)) (.cons (.v (.int .i64)) (.cons (.v (.int .i64)) (.cons (.v .str) (.cons (.v (.sl .node)) .nilL)))))) (.cons (.v (.int .i64)) .nilL))⟩
abbrev ref10_fits.R0 : Sig := ⟨1, [], (.nilL), [0], (.cons (.v .bool) .nilL)⟩
abbrev ref10_fits.outs : List Out := [⟨.ret, ref10_fits.R0, Bool, fun y => ((), (y, ())), fun x => x.2.1⟩]
abbrev ref10_fits.l250.A : Sig := ⟨84, [.slot 2], (.cons (.obox (.cons (.v (.int .i64)) (.cons (.v (.int .i64)) (.cons (.v (.int .i64)) (.cons (.v .str) (.cons (.v (.sl .node)) .nilL)))))) .nilL), [2, 1, 5], (.cons (.boxr 0 0) (.cons (.v (.int .i64)) (.cons (.v (.int .i64)) .nilL)))⟩
abbrev ref10_fits.l250.R0 : Sig := ⟨84, [], (.nilL), [], (.nilL)⟩
abbrev ref10_fits.l250.R1 : Sig := ⟨84, [], (.nilL), [4], (.cons (.v .bool) .nilL)⟩
abbrev ref10_fits.l250.outs : List Out := [⟨(.exit 0), ref10_fits.l250.R0, Unit, fun y => ((), ()), fun x => ()⟩, ⟨.ret, ref10_fits.l250.R1, Bool, fun y => ((), (y, ())), fun x => x.2.1⟩]
def ref10_fits.l250 (self : Int → Int → Int → ByteArray → (List Nd) → Int → Option (Bool)) (k : Nat) : Nat → Int → Int → Int → ByteArray → (List Nd) → Int → Int → Option ((Unit) ⊕ (Bool))
  | 0, _, _, _, _, _, _, _ => none
  | q + 1, x0, x1, x2, x3, x4, x5, x6 =>
    cond (decide (x6 < (x4.length : Int)))
    (cond (inB x6 x4.length)
      ((self ((rdL .node x4 x6).tag) ((rdL .node x4 x6).kind) ((rdL .node x4 x6).n) ((rdL .node x4 x6).s) ((rdL .node x4 x6).kids) (IntKind.wrap .i64 (x5 + 1))).bind fun y12 =>
        cond (!y12)
        (some (.inr false))
        (ref10_fits.l250 self k q x0 x1 x2 x3 x4 x5 (IntKind.wrap .i64 (x6 + 1))))
      (none))
    (some (.inl ()))
abbrev ref10_fits.l250.pc (self : Int → Int → Int → ByteArray → (List Nd) → Int → Option (Bool)) (k : Nat) : Pc := ⟨ref10_fits.l250.A, ref10_fits.l250.outs, fun x => ref10_fits.l250 self k k x.1.1.1 x.1.1.2.1 x.1.1.2.2.1 x.1.1.2.2.2.1 x.1.1.2.2.2.2.1 x.2.2.1 x.2.2.2.1⟩
def ref10_fits.g (self : Int → Int → Int → ByteArray → (List Nd) → Int → Option (Bool)) (k : Nat) (a0 : Int) (a1 : Int) (a2 : Int) (a3 : ByteArray) (a4 : List Nd) (a5 : Int) : Option (Bool) :=
  Option.bind (cond (decide (a5 > 8))
    (some true)
    (some (decide (a0 < 0)))) fun (c1 : Bool) =>
  Option.bind (cond c1
    (some true)
    (some (decide (a0 > 9999999)))) fun (c2 : Bool) =>
  Option.bind (cond c2
    (some true)
    (some (decide ((a3.size : Int) > 2000)))) fun (c3 : Bool) =>
  Option.bind (cond c3
    (some true)
    (some (decide ((a4.length : Int) > 1024)))) fun (c4 : Bool) =>
  cond c4
  (some false)
  (Option.bind (cond (a1 != 1)
      (some (a2 != 0))
      (some false)) fun (c5 : Bool) =>
    Option.bind (cond c5
      (some true)
      (Option.bind (cond (a1 != 2)
          (some (decide ((a3.size : Int) > 0)))
          (some false)) fun (c6 : Bool) =>
        some c6)) fun (c7 : Bool) =>
    Option.bind (cond c7
      (some true)
      (Option.bind (cond (a1 != 3)
          (some (decide ((a4.length : Int) > 0)))
          (some false)) fun (c8 : Bool) =>
        some c8)) fun (c9 : Bool) =>
    cond c9
    (some false)
    (Option.bind (cond (decide (a1 < 1))
        (some true)
        (some (decide (a1 > 3)))) fun (c10 : Bool) =>
      cond c10
      (some false)
      ((ref10_fits.l250 self k k a0 a1 a2 a3 a4 a5 0).bind fun y13 =>
        Sum.casesOn (motive := fun _ => Option _) y13 (fun u14 =>
        some true)
        (fun v15 =>
        some v15))))
def ref10_fits.f : Nat → Int → Int → Int → ByteArray → (List Nd) → Int → Option (Bool)
  | 0, _, _, _, _, _, _ => none
  | k + 1, a0, a1, a2, a3, a4, a5 => ref10_fits.g (ref10_fits.f k) k a0 a1 a2 a3 a4 a5
abbrev ref10_fits.ES (self : Int → Int → Int → ByteArray → (List Nd) → Int → Option (Bool)) : Ent := ⟨ref10_fits.A, ref10_fits.outs, fun x => self x.2.1.1 x.2.1.2.1 x.2.1.2.2.1 x.2.1.2.2.2.1 x.2.1.2.2.2.2.1 x.2.2.1⟩
abbrev ref10_fits.E (k : Nat) : Ent := ⟨ref10_fits.A, ref10_fits.outs, fun x => ref10_fits.f k x.2.1.1 x.2.1.2.1 x.2.1.2.2.1 x.2.1.2.2.2.1 x.2.1.2.2.2.2.1 x.2.2.1⟩
noncomputable abbrev ref10_fits.C (self : Int → Int → Int → ByteArray → (List Nd) → Int → Option (Bool)) (k : Nat) : Cfg := ⟨Tryz.prog, shs, look2 [(66, [], ref10_fits.ES self)], look [(250, ref10_fits.l250.pc self k)]⟩
theorem ref10_fits.l250.ev (self : Int → Int → Int → ByteArray → (List Nd) → Int → Option (Bool)) (k q : Nat) (x : ref10_fits.l250.A.V) : ((codeAt 60 (bodyOf (Tryz.f66)) 250).bind fun c => (loopOf c).bind fun c1 => evL (ref10_fits.C self k) c1 250 ref10_fits.l250.A ref10_fits.l250.outs (fun x => ref10_fits.l250 self k q x.1.1.1 x.1.1.2.1 x.1.1.2.2.1 x.1.1.2.2.2.1 x.1.1.2.2.2.2.1 x.2.2.1 x.2.2.2.1) x) = ref10_fits.l250 self k (q + 1) x.1.1.1 x.1.1.2.1 x.1.1.2.2.1 x.1.1.2.2.2.1 x.1.1.2.2.2.2.1 x.2.2.1 x.2.2.2.1 := by kernel_rfl
theorem ref10_fits.ev (self : Int → Int → Int → ByteArray → (List Nd) → Int → Option (Bool)) (k : Nat) (x : ref10_fits.A.V) : evF (ref10_fits.C self k) Tryz.f66 ref10_fits.A ref10_fits.outs x = ref10_fits.g self k x.2.1.1 x.2.1.2.1 x.2.1.2.2.1 x.2.1.2.2.2.1 x.2.1.2.2.2.2.1 x.2.2.1 := by kernel_rfl
theorem ref10_fits.at : Tryz.prog.funcs[66]? = some Tryz.f66 := by kernel_rfl
theorem ref10_fits.bo : Tryz.f66.body = some (bodyOf (Tryz.f66)) := by kernel_rfl
theorem ref10_fits.nm : (Tryz.f66.name == "runtime.NumGoroutine") = false := by kernel_rfl
theorem ref10_fits.satS (self : Int → Int → Int → ByteArray → (List Nd) → Int → Option (Bool)) (k : Nat) (hS : Sat Tryz.prog 66 (ref10_fits.ES self)) : Sat Tryz.prog 66 ⟨ref10_fits.A, ref10_fits.outs, fun x => ref10_fits.g self k x.2.1.1 x.2.1.2.1 x.2.1.2.2.1 x.2.1.2.2.2.1 x.2.1.2.2.2.2.1 x.2.2.1⟩ :=
  have hC : ∀ g l N, (ref10_fits.C self k).orc g l = some N → Sat Tryz.prog g N := satAll (satCons hS satNil)
  sat_of (C := ref10_fits.C self k) hC mixed ref10_fits.at ref10_fits.nm ref10_fits.bo (all_pieces rfl (locCons (loc_loop (A := ref10_fits.l250.A) (outs := ref10_fits.l250.outs) hC mixed (dstOk_zero _) (fun (q : Nat) (x : ref10_fits.l250.A.V) => ref10_fits.l250 self k q x.1.1.1 x.1.1.2.1 x.1.1.2.2.1 x.1.1.2.2.2.1 x.1.1.2.2.2.2.1 x.2.2.1 x.2.2.2.1) (fun _ => rfl) (ref10_fits.l250.ev self k) (ooC (fun _ => rfl) (ooC (fun _ => rfl) ooN)) rfl rfl k) locNil)) (ref10_fits.ev self k) (ooC (fun _ => rfl) ooN) (dstOk_zero _) (by decide) rfl
theorem ref10_fits.sat : ∀ k, Sat Tryz.prog 66 (ref10_fits.E k)
  | 0 => sat_none ref10_fits.at ref10_fits.nm ref10_fits.bo (fun _ => rfl)
  | k + 1 => ref10_fits.satS (ref10_fits.f k) k (ref10_fits.sat k)

/-! ### ref10_varint: function 84 (examboard/examboardref10.varint) -/
abbrev ref10_varint.A : Sig := ⟨2, [.slot 0], (.cons (.orow 5 (.int .u8)) .nilL), [0, 1], (.cons (.rowr 0) (.cons (.v (.int .u64)) .nilL))⟩
abbrev ref10_varint.R0 : Sig := ⟨1, [.slot 0], (.cons (.orow 5 (.int .u8)) .nilL), [0], (.cons (.rowr 0) .nilL)⟩
abbrev ref10_varint.outs : List Out := [⟨.ret, ref10_varint.R0, List Int, fun y => ((y, ()), ((), ())), fun x => x.1.1⟩]
abbrev ref10_varint.l12.A : Sig := ⟨21, [.slot 0], (.cons (.orow 5 (.int .u8)) .nilL), [0, 1], (.cons (.rowr 0) (.cons (.v (.int .u64)) .nilL))⟩
abbrev ref10_varint.l12.R0 : Sig := ⟨21, [.slot 0], (.cons (.orow 5 (.int .u8)) .nilL), [0, 1], (.cons (.rowr 0) (.cons (.v (.int .u64)) .nilL))⟩
abbrev ref10_varint.l12.outs : List Out := [⟨(.exit 0), ref10_varint.l12.R0, List Int × Int, fun y => ((y.1, ()), ((), y.2, ())), fun x => (x.1.1, x.2.2.1)⟩]
def ref10_varint.l12 (k : Nat) : Nat → (List Int) → Int → Option (List Int × Int)
  | 0, _, _ => none
  | q + 1, x0, x1 =>
    cond (decide (x1 ≥ 128))
    (cond (fits (x0.length + 1) 1)
      (ref10_varint.l12 k q (x0 ++ [(IntKind.wrap .u8 (IntKind.wrap .u64 ((Int.tmod x1 128) + 128)))]) (IntKind.wrap .u64 (Int.tdiv x1 128)))
      (none))
    (some (x0, x1))
abbrev ref10_varint.l12.pc (k : Nat) : Pc := ⟨ref10_varint.l12.A, ref10_varint.l12.outs, fun x => ref10_varint.l12 k k x.1.1 x.2.2.1⟩
def ref10_varint.f (k : Nat) (a0 : List Int) (a1 : Int) : Option (List Int) :=
  (ref10_varint.l12 k k a0 a1).bind fun y1 =>
  cond (fits (y1.1.length + 1) 1)
  (some (y1.1 ++ [(IntKind.wrap .u8 y1.2)]))
  (none)
abbrev ref10_varint.E (k : Nat) : Ent := ⟨ref10_varint.A, ref10_varint.outs, fun x => ref10_varint.f k x.1.1 x.2.2.1⟩
noncomputable abbrev ref10_varint.C (k : Nat) : Cfg := ⟨Tryz.prog, shs, look2 [], look [(12, ref10_varint.l12.pc k)]⟩
theorem ref10_varint.l12.ev (k q : Nat) (x : ref10_varint.l12.A.V) : ((codeAt 60 (bodyOf (Tryz.f84)) 12).bind fun c => (loopOf c).bind fun c1 => evL (ref10_varint.C k) c1 12 ref10_varint.l12.A ref10_varint.l12.outs (fun x => ref10_varint.l12 k q x.1.1 x.2.2.1) x) = ref10_varint.l12 k (q + 1) x.1.1 x.2.2.1 := by kernel_rfl
theorem ref10_varint.ev (k : Nat) (x : ref10_varint.A.V) : evF (ref10_varint.C k) Tryz.f84 ref10_varint.A ref10_varint.outs x = ref10_varint.f k x.1.1 x.2.2.1 := by kernel_rfl
theorem ref10_varint.at : Tryz.prog.funcs[84]? = some Tryz.f84 := by kernel_rfl
theorem ref10_varint.bo : Tryz.f84.body = some (bodyOf (Tryz.f84)) := by kernel_rfl
theorem ref10_varint.nm : (Tryz.f84.name == "runtime.NumGoroutine") = false := by kernel_rfl
theorem ref10_varint.sat (k : Nat) : Sat Tryz.prog 84 (ref10_varint.E k) :=
  have hC : ∀ g l N, (ref10_varint.C k).orc g l = some N → Sat Tryz.prog g N := satAll satNil
  sat_of (C := ref10_varint.C k) hC mixed ref10_varint.at ref10_varint.nm ref10_varint.bo (all_pieces rfl (locCons (loc_loop (A := ref10_varint.l12.A) (outs := ref10_varint.l12.outs) hC mixed (dstOk_zero _) (fun (q : Nat) (x : ref10_varint.l12.A.V) => ref10_varint.l12 k q x.1.1 x.2.2.1) (fun _ => rfl) (ref10_varint.l12.ev k) (ooC (fun _ => rfl) ooN) rfl rfl k) locNil)) (ref10_varint.ev k) (ooC (fun _ => rfl) ooN) (dstOk_zero _) (by decide) rfl

/-! ### ref10_write: function 67 (examboard/examboardref10.write) -/
abbrev ref10_write.A : Sig := ⟨2, [.slot 0], (.cons (.orow 5 (.int .u8)) .nilL), [0, 1], (.cons (.rowr 0) (.cons (.agg (.cons (.v (.int .i64)) (.cons (.v (.int .i64)) (.cons (.v (.int .i64)) (.cons (.v .str) (.cons (.v (.sl .node)) .nilL)))))) .nilL))⟩
abbrev ref10_write.R0 : Sig := ⟨1, [.slot 0], (.cons (.orow 5 (.int .u8)) .nilL), [0], (.cons (.rowr 0) .nilL)⟩
abbrev ref10_write.outs : List Out := [⟨.ret, ref10_write.R0, List Int, fun y => ((y, ()), ((), ())), fun x => x.1.1⟩]
abbrev ref10_write.j490.A : Sig := ⟨74, [.slot 3, .slot 0], (.cons (.obox (.cons (.v (.int .i64)) (.cons (.v (.int .i64)) (.cons (.v (.int .i64)) (.cons (.v .str) (.cons (.v (.sl .node)) .nilL)))))) (.cons (.orow 5 (.int .u8)) .nilL)), [3, 0, 5], (.cons (.boxr 0 0) (.cons (.rowr 1) (.cons (.v (.int .u64)) .nilL)))⟩
abbrev ref10_write.j490.R0 : Sig := ⟨74, [.slot 0], (.cons (.orow 5 (.int .u8)) .nilL), [0, 5], (.cons (.rowr 0) (.cons (.v (.int .u64)) .nilL))⟩
abbrev ref10_write.j490.outs : List Out := [⟨.normal, ref10_write.j490.R0, List Int × Int, fun y => ((y.1, ()), ((), y.2, ())), fun x => (x.1.1, x.2.2.1)⟩]
def ref10_write.j490 (self : (List Int) → Int → Int → Int → ByteArray → (List Nd) → Option (List Int)) (k : Nat) (x0 : Int) (x1 : Int) (x2 : Int) (x3 : ByteArray) (x4 : List Nd) (x5 : List Int) (x6 : Int) : Option (List Int × Int) :=
  cond (decide (x2 < 0))
  (some (x5, (IntKind.wrap .u64 ((IntKind.wrap .u64 (2 * (IntKind.wrap .u64 (IntKind.wrap .i64 (0 - (IntKind.wrap .i64 (x2 + 1))))))) + 1))))
  (some (x5, x6))
abbrev ref10_write.j490.pc (self : (List Int) → Int → Int → Int → ByteArray → (List Nd) → Option (List Int)) (k : Nat) : Pc := ⟨ref10_write.j490.A, ref10_write.j490.outs, fun x => ref10_write.j490 self k x.1.1.1 x.1.1.2.1 x.1.1.2.2.1 x.1.1.2.2.2.1 x.1.1.2.2.2.2.1 x.1.2.1 x.2.2.2.1⟩
abbrev ref10_write.l1018.A : Sig := ⟨74, [.slot 3, .slot 0], (.cons (.obox (.cons (.v (.int .i64)) (.cons (.v (.int .i64)) (.cons (.v (.int .i64)) (.cons (.v .str) (.cons (.v (.sl .node)) .nilL)))))) (.cons (.orow 5 (.int .u8)) .nilL)), [3, 0, 6], (.cons (.boxr 0 0) (.cons (.rowr 1) (.cons (.v (.int .i64)) .nilL)))⟩
abbrev ref10_write.l1018.R0 : Sig := ⟨74, [.slot 0], (.cons (.orow 5 (.int .u8)) .nilL), [0], (.cons (.rowr 0) .nilL)⟩
abbrev ref10_write.l1018.outs : List Out := [⟨(.exit 0), ref10_write.l1018.R0, List Int, fun y => ((y, ()), ((), ())), fun x => x.1.1⟩]
def ref10_write.l1018 (self : (List Int) → Int → Int → Int → ByteArray → (List Nd) → Option (List Int)) (k : Nat) : Nat → Int → Int → Int → ByteArray → (List Nd) → (List Int) → Int → Option (List Int)
  | 0, _, _, _, _, _, _, _ => none
  | q + 1, x0, x1, x2, x3, x4, x5, x6 =>
    cond (decide (x6 < (x4.length : Int)))
    (cond (inB x6 x4.length)
      ((self x5 ((rdL .node x4 x6).tag) ((rdL .node x4 x6).kind) ((rdL .node x4 x6).n) ((rdL .node x4 x6).s) ((rdL .node x4 x6).kids)).bind fun y7 =>
        ref10_write.l1018 self k q x0 x1 x2 x3 x4 y7 (IntKind.wrap .i64 (x6 + 1)))
      (none))
    (some x5)
abbrev ref10_write.l1018.pc (self : (List Int) → Int → Int → Int → ByteArray → (List Nd) → Option (List Int)) (k : Nat) : Pc := ⟨ref10_write.l1018.A, ref10_write.l1018.outs, fun x => ref10_write.l1018 self k k x.1.1.1 x.1.1.2.1 x.1.1.2.2.1 x.1.1.2.2.2.1 x.1.1.2.2.2.2.1 x.1.2.1 x.2.2.2.1⟩
def ref10_write.g (self : (List Int) → Int → Int → Int → ByteArray → (List Nd) → Option (List Int)) (k : Nat) (a0 : List Int) (a1 : Int) (a2 : Int) (a3 : Int) (a4 : ByteArray) (a5 : List Nd) : Option (List Int) :=
  cond (decide ((a0.length : Int) > 1048576))
  (some a0)
  ((ref10_varint.f k a0 (IntKind.wrap .u64 a1)).bind fun y1 =>
    cond (fits (y1.length + 1) 1)
    (cond (a2 == 1)
      ((ref10_write.j490 self k a1 a2 a3 a4 a5 (y1 ++ [(IntKind.wrap .u8 a2)]) (IntKind.wrap .u64 (2 * (IntKind.wrap .u64 a3)))).bind fun y2 =>
        (ref10_varint.f k y2.1 y2.2).bind fun y3 =>
        some y3)
      (cond (a2 == 2)
        ((ref10_varint.f k (y1 ++ [(IntKind.wrap .u8 a2)]) (IntKind.wrap .u64 (a4.size : Int))).bind fun y4 =>
          cond (fits (y4.length + (strList a4).length) 1)
          (some (y4 ++ (strList a4)))
          (none))
        ((ref10_varint.f k (y1 ++ [(IntKind.wrap .u8 a2)]) (IntKind.wrap .u64 (a5.length : Int))).bind fun y5 =>
          (ref10_write.l1018 self k k a1 a2 a3 a4 a5 y5 0).bind fun y8 =>
          some y8)))
    (none))
def ref10_write.f : Nat → (List Int) → Int → Int → Int → ByteArray → (List Nd) → Option (List Int)
  | 0, _, _, _, _, _, _ => none
  | k + 1, a0, a1, a2, a3, a4, a5 => ref10_write.g (ref10_write.f k) k a0 a1 a2 a3 a4 a5
abbrev ref10_write.ES (self : (List Int) → Int → Int → Int → ByteArray → (List Nd) → Option (List Int)) : Ent := ⟨ref10_write.A, ref10_write.outs, fun x => self x.1.1 x.2.2.1.1 x.2.2.1.2.1 x.2.2.1.2.2.1 x.2.2.1.2.2.2.1 x.2.2.1.2.2.2.2.1⟩
abbrev ref10_write.E (k : Nat) : Ent := ⟨ref10_write.A, ref10_write.outs, fun x => ref10_write.f k x.1.1 x.2.2.1.1 x.2.2.1.2.1 x.2.2.1.2.2.1 x.2.2.1.2.2.2.1 x.2.2.1.2.2.2.2.1⟩
noncomputable abbrev ref10_write.C (self : (List Int) → Int → Int → Int → ByteArray → (List Nd) → Option (List Int)) (k : Nat) : Cfg := ⟨Tryz.prog, shs, look2 [(84, [], ref10_varint.E k), (67, [], ref10_write.ES self)], look [(490, ref10_write.j490.pc self k), (1018, ref10_write.l1018.pc self k)]⟩
theorem ref10_write.j490.ev (self : (List Int) → Int → Int → Int → ByteArray → (List Nd) → Option (List Int)) (k : Nat) (x : ref10_write.j490.A.V) : ((codeAt 60 (bodyOf (Tryz.f67)) 490).bind fun c => evP (ref10_write.C self k) c 490 ref10_write.j490.A ref10_write.j490.outs x) = ref10_write.j490 self k x.1.1.1 x.1.1.2.1 x.1.1.2.2.1 x.1.1.2.2.2.1 x.1.1.2.2.2.2.1 x.1.2.1 x.2.2.2.1 := by kernel_rfl
theorem ref10_write.l1018.ev (self : (List Int) → Int → Int → Int → ByteArray → (List Nd) → Option (List Int)) (k q : Nat) (x : ref10_write.l1018.A.V) : ((codeAt 60 (bodyOf (Tryz.f67)) 1018).bind fun c => (loopOf c).bind fun c1 => evL (ref10_write.C self k) c1 1018 ref10_write.l1018.A ref10_write.l1018.outs (fun x => ref10_write.l1018 self k q x.1.1.1 x.1.1.2.1 x.1.1.2.2.1 x.1.1.2.2.2.1 x.1.1.2.2.2.2.1 x.1.2.1 x.2.2.2.1) x) = ref10_write.l1018 self k (q + 1) x.1.1.1 x.1.1.2.1 x.1.1.2.2.1 x.1.1.2.2.2.1 x.1.1.2.2.2.2.1 x.1.2.1 x.2.2.2.1 := by kernel_rfl
theorem ref10_write.ev (self : (List Int) → Int → Int → Int → ByteArray → (List Nd) → Option (List Int)) (k : Nat) (x : ref10_write.A.V) : evF (ref10_write.C self k) Tryz.f67 ref10_write.A ref10_write.outs x = ref10_write.g self k x.1.1 x.2.2.1.1 x.2.2.1.2.1 x.2.2.1.2.2.1 x.2.2.1.2.2.2.1 x.2.2.1.2.2.2.2.1 := by kernel_rfl
theorem ref10_write.at : Tryz.prog.funcs[67]? = some Tryz.f67 := by kernel_rfl
theorem ref10_write.bo : Tryz.f67.body = some (bodyOf (Tryz.f67)) := by kernel_rfl
theorem ref10_write.nm : (Tryz.f67.name == "runtime.NumGoroutine") = false := by kernel_rfl
theorem ref10_write.satS (self : (List Int) → Int → Int → Int → ByteArray → (List Nd) → Option (List Int)) (k : Nat) (hS : Sat Tryz.prog 67 (ref10_write.ES self)) : Sat Tryz.prog 67 ⟨ref10_write.A, ref10_write.outs, fun x => ref10_write.g self k x.1.1 x.2.2.1.1 x.2.2.1.2.1 x.2.2.1.2.2.1 x.2.2.1.2.2.2.1 x.2.2.1.2.2.2.2.1⟩ :=
  have hC : ∀ g l N, (ref10_write.C self k).orc g l = some N → Sat Tryz.prog g N := satAll (satCons (ref10_varint.sat k) (satCons hS satNil))
  sat_of (C := ref10_write.C self k) hC mixed ref10_write.at ref10_write.nm ref10_write.bo (all_pieces rfl (locCons (loc_code (A := ref10_write.j490.A) (outs := ref10_write.j490.outs) hC mixed (dstOk_zero _) (fun (x : ref10_write.j490.A.V) => ref10_write.j490 self k x.1.1.1 x.1.1.2.1 x.1.1.2.2.1 x.1.1.2.2.2.1 x.1.1.2.2.2.2.1 x.1.2.1 x.2.2.2.1) (ref10_write.j490.ev self k) (ooC (fun _ => rfl) ooN) rfl) (locCons (loc_loop (A := ref10_write.l1018.A) (outs := ref10_write.l1018.outs) hC mixed (dstOk_zero _) (fun (q : Nat) (x : ref10_write.l1018.A.V) => ref10_write.l1018 self k q x.1.1.1 x.1.1.2.1 x.1.1.2.2.1 x.1.1.2.2.2.1 x.1.1.2.2.2.2.1 x.1.2.1 x.2.2.2.1) (fun _ => rfl) (ref10_write.l1018.ev self k) (ooC (fun _ => rfl) ooN) rfl rfl k) locNil))) (ref10_write.ev self k) (ooC (fun _ => rfl) ooN) (dstOk_zero _) (by decide) rfl
theorem ref10_write.sat : ∀ k, Sat Tryz.prog 67 (ref10_write.E k)
  | 0 => sat_none ref10_write.at ref10_write.nm ref10_write.bo (fun _ => rfl)
  | k + 1 => ref10_write.satS (ref10_write.f k) k (ref10_write.sat k)

/-! ### ref10_Encode: function 42 (examboard/examboardref10.Encode) -/
abbrev ref10_Encode.A : Sig := ⟨1, [], (.nilL), [0], (.cons (.agg (.cons (.v (.int .i64)) (.cons (.v (.int .i64)) (.cons (.v (.int .i64)) (.cons (.v .str) (.cons (.v (.sl .node)) .nilL)))))) .nilL)⟩
abbrev ref10_Encode.R0 : Sig := ⟨1, [], (.nilL), [0], (.cons (.tup (.cons (.v (.sl (.int .u8))) (.cons (.v (.int .i64)) .nilL))) .nilL)⟩
abbrev ref10_Encode.outs : List Out := [⟨.ret, ref10_Encode.R0, List Int × Int, fun y => ((), ((y.1, y.2, ()), ())), fun x => (x.2.1.1, x.2.1.2.1)⟩]
def ref10_Encode.f (k : Nat) (a0 : Int) (a1 : Int) (a2 : Int) (a3 : ByteArray) (a4 : List Nd) : Option (List Int × Int) :=
  (ref10_fits.f k a0 a1 a2 a3 a4 1).bind fun y1 =>
  cond (!y1)
  (some (([] : List Int), 1))
  ((ref10_write.f k ([] : List Int) a0 a1 a2 a3 a4).bind fun y2 =>
    cond (decide ((y2.length : Int) > 1048576))
    (some (([] : List Int), 1))
    (some (y2, 0)))
abbrev ref10_Encode.E (k : Nat) : Ent := ⟨ref10_Encode.A, ref10_Encode.outs, fun x => ref10_Encode.f k x.2.1.1 x.2.1.2.1 x.2.1.2.2.1 x.2.1.2.2.2.1 x.2.1.2.2.2.2.1⟩
noncomputable abbrev ref10_Encode.C (k : Nat) : Cfg := ⟨Tryz.prog, shs, look2 [(66, [], ref10_fits.E k), (67, [], ref10_write.E k)], look []⟩
theorem ref10_Encode.ev (k : Nat) (x : ref10_Encode.A.V) : evF (ref10_Encode.C k) Tryz.f42 ref10_Encode.A ref10_Encode.outs x = ref10_Encode.f k x.2.1.1 x.2.1.2.1 x.2.1.2.2.1 x.2.1.2.2.2.1 x.2.1.2.2.2.2.1 := by kernel_rfl
theorem ref10_Encode.at : Tryz.prog.funcs[42]? = some Tryz.f42 := by kernel_rfl
theorem ref10_Encode.bo : Tryz.f42.body = some (bodyOf (Tryz.f42)) := by kernel_rfl
theorem ref10_Encode.nm : (Tryz.f42.name == "runtime.NumGoroutine") = false := by kernel_rfl
theorem ref10_Encode.sat (k : Nat) : Sat Tryz.prog 42 (ref10_Encode.E k) :=
  have hC : ∀ g l N, (ref10_Encode.C k).orc g l = some N → Sat Tryz.prog g N := satAll (satCons (ref10_fits.sat k) (satCons (ref10_write.sat k) satNil))
  sat_of (C := ref10_Encode.C k) hC mixed ref10_Encode.at ref10_Encode.nm ref10_Encode.bo (all_pieces rfl locNil) (ref10_Encode.ev k) (ooC (fun _ => rfl) ooN) (dstOk_zero _) (by decide) rfl

/-! ### ref49_bytes: function 43 (examboard/examboardref49.bytes) -/
abbrev ref49_bytes.A : Sig := ⟨2, [], (.nilL), [0, 1], (.cons (.v (.int .u64)) (.cons (.v (.int .i64)) .nilL))⟩
abbrev ref49_bytes.R0 : Sig := ⟨1, [.slot 0], (.cons (.orow 5 (.int .u8)) .nilL), [0], (.cons (.rowr 0) .nilL)⟩
abbrev ref49_bytes.outs : List Out := [⟨.ret, ref49_bytes.R0, List Int, fun y => ((y, ()), ((), ())), fun x => x.1.1⟩]
abbrev ref49_bytes.l58.A : Sig := ⟨24, [.slot 5], (.cons (.orow 5 (.int .u8)) .nilL), [0, 5, 6], (.cons (.v (.int .u64)) (.cons (.rowr 0) (.cons (.v (.int .i64)) .nilL)))⟩
abbrev ref49_bytes.l58.R0 : Sig := ⟨24, [.slot 5], (.cons (.orow 5 (.int .u8)) .nilL), [5], (.cons (.rowr 0) .nilL)⟩
abbrev ref49_bytes.l58.outs : List Out := [⟨(.exit 0), ref49_bytes.l58.R0, List Int, fun y => ((y, ()), ((), ())), fun x => x.1.1⟩]
def ref49_bytes.l58 (k : Nat) : Nat → (List Int) → Int → Int → Option (List Int)
  | 0, _, _, _ => none
  | q + 1, x0, x1, x2 =>
    cond (decide (x2 ≥ 0))
    (cond (inB x2 x0.length)
      (ref49_bytes.l58 k q (List.set x0 (Int.toNat x2) (IntKind.wrap .u8 (Int.tmod x1 256))) (IntKind.wrap .u64 (Int.tdiv x1 256)) (IntKind.wrap .i64 (x2 - 1)))
      (none))
    (some x0)
abbrev ref49_bytes.l58.pc (k : Nat) : Pc := ⟨ref49_bytes.l58.A, ref49_bytes.l58.outs, fun x => ref49_bytes.l58 k k x.1.1 x.2.1 x.2.2.2.1⟩
def ref49_bytes.f (k : Nat) (a0 : Int) (a1 : Int) : Option (List Int) :=
  cond ((decide ((0 : Int) ≤ a1)) && ((decide (a1 ≤ a1)) && (fits (Int.toNat a1) 1)))
  ((ref49_bytes.l58 k k (List.replicate (Int.toNat a1) (0 : Int)) a0 (IntKind.wrap .i64 (a1 - 1))).bind fun y1 =>
    some y1)
  (none)
abbrev ref49_bytes.E (k : Nat) : Ent := ⟨ref49_bytes.A, ref49_bytes.outs, fun x => ref49_bytes.f k x.2.1 x.2.2.1⟩
noncomputable abbrev ref49_bytes.C (k : Nat) : Cfg := ⟨Tryz.prog, shs, look2 [], look [(58, ref49_bytes.l58.pc k)]⟩
theorem ref49_bytes.l58.ev (k q : Nat) (x : ref49_bytes.l58.A.V) : ((codeAt 60 (bodyOf (Tryz.f43)) 58).bind fun c => (loopOf c).bind fun c1 => evL (ref49_bytes.C k) c1 58 ref49_bytes.l58.A ref49_bytes.l58.outs (fun x => ref49_bytes.l58 k q x.1.1 x.2.1 x.2.2.2.1) x) = ref49_bytes.l58 k (q + 1) x.1.1 x.2.1 x.2.2.2.1 := by kernel_rfl
theorem ref49_bytes.ev (k : Nat) (x : ref49_bytes.A.V) : evF (ref49_bytes.C k) Tryz.f43 ref49_bytes.A ref49_bytes.outs x = ref49_bytes.f k x.2.1 x.2.2.1 := by kernel_rfl
theorem ref49_bytes.at : Tryz.prog.funcs[43]? = some Tryz.f43 := by kernel_rfl
theorem ref49_bytes.bo : Tryz.f43.body = some (bodyOf (Tryz.f43)) := by kernel_rfl
theorem ref49_bytes.nm : (Tryz.f43.name == "runtime.NumGoroutine") = false := by kernel_rfl
theorem ref49_bytes.sat (k : Nat) : Sat Tryz.prog 43 (ref49_bytes.E k) :=
  have hC : ∀ g l N, (ref49_bytes.C k).orc g l = some N → Sat Tryz.prog g N := satAll satNil
  sat_of (C := ref49_bytes.C k) hC mixed ref49_bytes.at ref49_bytes.nm ref49_bytes.bo (all_pieces rfl (locCons (loc_loop (A := ref49_bytes.l58.A) (outs := ref49_bytes.l58.outs) hC mixed (dstOk_zero _) (fun (q : Nat) (x : ref49_bytes.l58.A.V) => ref49_bytes.l58 k q x.1.1 x.2.1 x.2.2.2.1) (fun _ => rfl) (ref49_bytes.l58.ev k) (ooC (fun _ => rfl) ooN) rfl rfl k) locNil)) (ref49_bytes.ev k) (ooC (fun _ => rfl) ooN) (dstOk_zero _) (by decide) rfl

/-! ### ref49_copied: function 44 (examboard/examboardref49.copied) -/
abbrev ref49_copied.A : Sig := ⟨1, [], (.nilL), [0], (.cons (.v (.sl (.int .u8))) .nilL)⟩
abbrev ref49_copied.R0 : Sig := ⟨1, [.slot 0], (.cons (.orow 5 (.int .u8)) .nilL), [0], (.cons (.rowr 0) .nilL)⟩
abbrev ref49_copied.outs : List Out := [⟨.ret, ref49_copied.R0, List Int, fun y => ((y, ()), ((), ())), fun x => x.1.1⟩]
abbrev ref49_copied.l58.A : Sig := ⟨18, [.slot 3], (.cons (.orow 5 (.int .u8)) .nilL), [3, 6, 7, 8], (.cons (.rowr 0) (.cons (.v (.sl (.int .u8))) (.cons (.v (.int .i64)) (.cons (.v (.int .i64)) .nilL))))⟩
abbrev ref49_copied.l58.R0 : Sig := ⟨18, [.slot 3], (.cons (.orow 5 (.int .u8)) .nilL), [3], (.cons (.rowr 0) .nilL)⟩
abbrev ref49_copied.l58.outs : List Out := [⟨(.exit 0), ref49_copied.l58.R0, List Int, fun y => ((y, ()), ((), ())), fun x => x.1.1⟩]
def ref49_copied.l58 (k : Nat) : Nat → (List Int) → (List Int) → Int → Int → Option (List Int)
  | 0, _, _, _, _ => none
  | q + 1, x0, x1, x2, x3 =>
    cond (decide (x3 < x2))
    (cond (inB x3 x1.length)
      (cond (fits (x0.length + 1) 1)
        (ref49_copied.l58 k q (x0 ++ [(rdL (.int .u8) x1 x3)]) x1 x2 (IntKind.wrap .i64 (x3 + 1)))
        (none))
      (none))
    (some x0)
abbrev ref49_copied.l58.pc (k : Nat) : Pc := ⟨ref49_copied.l58.A, ref49_copied.l58.outs, fun x => ref49_copied.l58 k k x.1.1 x.2.2.1 x.2.2.2.1 x.2.2.2.2.1⟩
def ref49_copied.f (k : Nat) (a0 : List Int) : Option (List Int) :=
  (ref49_copied.l58 k k ([] : List Int) a0 (a0.length : Int) 0).bind fun y1 =>
  some y1
abbrev ref49_copied.E (k : Nat) : Ent := ⟨ref49_copied.A, ref49_copied.outs, fun x => ref49_copied.f k x.2.1⟩
noncomputable abbrev ref49_copied.C (k : Nat) : Cfg := ⟨Tryz.prog, shs, look2 [], look [(58, ref49_copied.l58.pc k)]⟩
theorem ref49_copied.l58.ev (k q : Nat) (x : ref49_copied.l58.A.V) : ((codeAt 60 (bodyOf (Tryz.f44)) 58).bind fun c => (loopOf c).bind fun c1 => evL (ref49_copied.C k) c1 58 ref49_copied.l58.A ref49_copied.l58.outs (fun x => ref49_copied.l58 k q x.1.1 x.2.2.1 x.2.2.2.1 x.2.2.2.2.1) x) = ref49_copied.l58 k (q + 1) x.1.1 x.2.2.1 x.2.2.2.1 x.2.2.2.2.1 := by kernel_rfl
theorem ref49_copied.ev (k : Nat) (x : ref49_copied.A.V) : evF (ref49_copied.C k) Tryz.f44 ref49_copied.A ref49_copied.outs x = ref49_copied.f k x.2.1 := by kernel_rfl
theorem ref49_copied.at : Tryz.prog.funcs[44]? = some Tryz.f44 := by kernel_rfl
theorem ref49_copied.bo : Tryz.f44.body = some (bodyOf (Tryz.f44)) := by kernel_rfl
theorem ref49_copied.nm : (Tryz.f44.name == "runtime.NumGoroutine") = false := by kernel_rfl
theorem ref49_copied.sat (k : Nat) : Sat Tryz.prog 44 (ref49_copied.E k) :=
  have hC : ∀ g l N, (ref49_copied.C k).orc g l = some N → Sat Tryz.prog g N := satAll satNil
  sat_of (C := ref49_copied.C k) hC mixed ref49_copied.at ref49_copied.nm ref49_copied.bo (all_pieces rfl (locCons (loc_loop (A := ref49_copied.l58.A) (outs := ref49_copied.l58.outs) hC mixed (dstOk_zero _) (fun (q : Nat) (x : ref49_copied.l58.A.V) => ref49_copied.l58 k q x.1.1 x.2.2.1 x.2.2.2.1 x.2.2.2.2.1) (fun _ => rfl) (ref49_copied.l58.ev k) (ooC (fun _ => rfl) ooN) rfl rfl k) locNil)) (ref49_copied.ev k) (ooC (fun _ => rfl) ooN) (dstOk_zero _) (by decide) rfl

/-! ### ref49_Append: function 15 (examboard/examboardref49.Append) -/
abbrev ref49_Append.A : Sig := ⟨2, [], (.nilL), [0, 1], (.cons (.v (.sl (.int .u8))) (.cons (.agg (.cons (.v (.int .i64)) (.cons (.v (.int .i64)) (.cons (.v (.int .i64)) (.cons (.v .str) (.cons (.v (.sl .node)) .nilL)))))) .nilL))⟩
abbrev ref49_Append.R0 : Sig := ⟨1, [], (.nilL), [0], (.cons (.tup (.cons (.v (.sl (.int .u8))) (.cons (.v (.int .i64)) .nilL))) .nilL)⟩
abbrev ref49_Append.outs : List Out := [⟨.ret, ref49_Append.R0, List Int × Int, fun y => ((), ((y.1, y.2, ()), ())), fun x => (x.2.1.1, x.2.1.2.1)⟩]
def ref49_Append.f (k : Nat) (a0 : List Int) (a1 : Int) (a2 : Int) (a3 : Int) (a4 : ByteArray) (a5 : List Nd) : Option (List Int × Int) :=
  (ref49_read.f k a0).bind fun y1 =>
  cond (y1.2.2.2 != 0)
  (some (([] : List Int), y1.2.2.2))
  ((ref10_Encode.f k a1 a2 a3 a4 a5).bind fun y2 =>
    cond (y2.2 != 0)
    (some (([] : List Int), 1))
    (Option.bind (cond (decide ((y2.1.length : Int) > 2000))
        (some true)
        (some (decide ((y1.1.length : Int) ≥ 300)))) fun (c3 : Bool) =>
      cond c3
      (some (([] : List Int), 5))
      ((ref49_bytes.f k (IntKind.wrap .u64 (y2.1.length : Int)) 4).bind fun y4 =>
        cond (fits (y4.length + y2.1.length) 1)
        ((ref49_copied.f k a0).bind fun y5 =>
          cond (fits (y5.length + (y4 ++ y2.1).length) 1)
          ((ref11_Chain.f k y1.2.2.1 (y4 ++ y2.1)).bind fun y6 =>
            (ref49_bytes.f k y6 8).bind fun y7 =>
            cond (fits ((y5 ++ (y4 ++ y2.1)).length + y7.length) 1)
            (some (((y5 ++ (y4 ++ y2.1)) ++ y7), 0))
            (none))
          (none))
        (none))))
abbrev ref49_Append.E (k : Nat) : Ent := ⟨ref49_Append.A, ref49_Append.outs, fun x => ref49_Append.f k x.2.1 x.2.2.1.1 x.2.2.1.2.1 x.2.2.1.2.2.1 x.2.2.1.2.2.2.1 x.2.2.1.2.2.2.2.1⟩
noncomputable abbrev ref49_Append.C (k : Nat) : Cfg := ⟨Tryz.prog, shs, look2 [(42, [], ref10_Encode.E k), (45, [], ref11_Chain.E k), (43, [], ref49_bytes.E k), (44, [], ref49_copied.E k), (41, [], ref49_read.E k)], look []⟩
theorem ref49_Append.ev (k : Nat) (x : ref49_Append.A.V) : evF (ref49_Append.C k) Tryz.f15 ref49_Append.A ref49_Append.outs x = ref49_Append.f k x.2.1 x.2.2.1.1 x.2.2.1.2.1 x.2.2.1.2.2.1 x.2.2.1.2.2.2.1 x.2.2.1.2.2.2.2.1 := by kernel_rfl
theorem ref49_Append.at : Tryz.prog.funcs[15]? = some Tryz.f15 := by kernel_rfl
theorem ref49_Append.bo : Tryz.f15.body = some (bodyOf (Tryz.f15)) := by kernel_rfl
theorem ref49_Append.nm : (Tryz.f15.name == "runtime.NumGoroutine") = false := by kernel_rfl
theorem ref49_Append.sat (k : Nat) : Sat Tryz.prog 15 (ref49_Append.E k) :=
  have hC : ∀ g l N, (ref49_Append.C k).orc g l = some N → Sat Tryz.prog g N := satAll (satCons (ref10_Encode.sat k) (satCons (ref11_Chain.sat k) (satCons (ref49_bytes.sat k) (satCons (ref49_copied.sat k) (satCons (ref49_read.sat k) satNil)))))
  sat_of (C := ref49_Append.C k) hC mixed ref49_Append.at ref49_Append.nm ref49_Append.bo (all_pieces rfl locNil) (ref49_Append.ev k) (ooC (fun _ => rfl) ooN) (dstOk_zero _) (by decide) rfl

/-! ### ref52_Write: function 5 (examboard/examboardref52.Write) -/
abbrev ref52_Write.A : Sig := ⟨2, [], (.nilL), [0, 1], (.cons (.v (.sl (.int .u8))) (.cons (.agg (.cons (.v (.int .i64)) (.cons (.v (.int .i64)) (.cons (.v (.int .i64)) (.cons (.v (.sl (.int .i64))) (.cons (.v (.int .i64)) (.cons (.v .str) (.cons (.v .bool) (.cons (.v (.int .i64)) (.cons (.v (.int .i64)) (.cons (.v (.int .i64)) (.cons (.v (.int .i64)) .nilL)))))))))))) .nilL))⟩
abbrev ref52_Write.R0 : Sig := ⟨1, [], (.nilL), [0], (.cons (.tup (.cons (.v (.sl (.int .u8))) (.cons (.v (.int .i64)) .nilL))) .nilL)⟩
abbrev ref52_Write.outs : List Out := [⟨.ret, ref52_Write.R0, List Int × Int, fun y => ((), ((y.1, y.2, ()), ())), fun x => (x.2.1.1, x.2.1.2.1)⟩]
def ref52_Write.f (k : Nat) (a0 : List Int) (a1 : Int) (a2 : Int) (a3 : Int) (a4 : List Int) (a5 : Int) (a6 : ByteArray) (a7 : Bool) (a8 : Int) (a9 : Int) (a10 : Int) (a11 : Int) : Option (List Int × Int) :=
  (ref52_Encode.f k a1 a2 a3 a4 a5 a6 a7 a8 a9 a10 a11).bind fun y1 =>
  cond (y1.2.2.2.2.2 != 0)
  (some (([] : List Int), y1.2.2.2.2.2))
  ((ref49_Append.f k a0 y1.1 y1.2.1 y1.2.2.1 y1.2.2.2.1 y1.2.2.2.2.1).bind fun y2 =>
    some (y2.1, y2.2))
abbrev ref52_Write.E (k : Nat) : Ent := ⟨ref52_Write.A, ref52_Write.outs, fun x => ref52_Write.f k x.2.1 x.2.2.1.1 x.2.2.1.2.1 x.2.2.1.2.2.1 x.2.2.1.2.2.2.1 x.2.2.1.2.2.2.2.1 x.2.2.1.2.2.2.2.2.1 x.2.2.1.2.2.2.2.2.2.1 x.2.2.1.2.2.2.2.2.2.2.1 x.2.2.1.2.2.2.2.2.2.2.2.1 x.2.2.1.2.2.2.2.2.2.2.2.2.1 x.2.2.1.2.2.2.2.2.2.2.2.2.2.1⟩
noncomputable abbrev ref52_Write.C (k : Nat) : Cfg := ⟨Tryz.prog, shs, look2 [(15, [], ref49_Append.E k), (14, [], ref52_Encode.E k)], look []⟩
theorem ref52_Write.ev (k : Nat) (x : ref52_Write.A.V) : evF (ref52_Write.C k) Tryz.f5 ref52_Write.A ref52_Write.outs x = ref52_Write.f k x.2.1 x.2.2.1.1 x.2.2.1.2.1 x.2.2.1.2.2.1 x.2.2.1.2.2.2.1 x.2.2.1.2.2.2.2.1 x.2.2.1.2.2.2.2.2.1 x.2.2.1.2.2.2.2.2.2.1 x.2.2.1.2.2.2.2.2.2.2.1 x.2.2.1.2.2.2.2.2.2.2.2.1 x.2.2.1.2.2.2.2.2.2.2.2.2.1 x.2.2.1.2.2.2.2.2.2.2.2.2.2.1 := by kernel_rfl
theorem ref52_Write.at : Tryz.prog.funcs[5]? = some Tryz.f5 := by kernel_rfl
theorem ref52_Write.bo : Tryz.f5.body = some (bodyOf (Tryz.f5)) := by kernel_rfl
theorem ref52_Write.nm : (Tryz.f5.name == "runtime.NumGoroutine") = false := by kernel_rfl
theorem ref52_Write.sat (k : Nat) : Sat Tryz.prog 5 (ref52_Write.E k) :=
  have hC : ∀ g l N, (ref52_Write.C k).orc g l = some N → Sat Tryz.prog g N := satAll (satCons (ref49_Append.sat k) (satCons (ref52_Encode.sat k) satNil))
  sat_of (C := ref52_Write.C k) hC mixed ref52_Write.at ref52_Write.nm ref52_Write.bo (all_pieces rfl locNil) (ref52_Write.ev k) (ooC (fun _ => rfl) ooN) (dstOk_zero _) (by decide) rfl

/-! ### law52_bytes: function 6 (examboard/examboardlaw52.bytes) -/
abbrev law52_bytes.A : Sig := ⟨2, [], (.nilL), [0, 1], (.cons (.v (.sl (.int .u8))) (.cons (.v (.sl (.int .u8))) .nilL))⟩
abbrev law52_bytes.R0 : Sig := ⟨1, [], (.nilL), [0], (.cons (.v .bool) .nilL)⟩
abbrev law52_bytes.outs : List Out := [⟨.ret, law52_bytes.R0, Bool, fun y => ((), (y, ())), fun x => x.2.1⟩]
abbrev law52_bytes.l58.A : Sig := ⟨26, [], (.nilL), [0, 1, 5], (.cons (.v (.sl (.int .u8))) (.cons (.v (.sl (.int .u8))) (.cons (.v (.int .i64)) .nilL)))⟩
abbrev law52_bytes.l58.R0 : Sig := ⟨26, [], (.nilL), [], (.nilL)⟩
abbrev law52_bytes.l58.R1 : Sig := ⟨26, [], (.nilL), [4], (.cons (.v .bool) .nilL)⟩
abbrev law52_bytes.l58.outs : List Out := [⟨(.exit 0), law52_bytes.l58.R0, Unit, fun y => ((), ()), fun x => ()⟩, ⟨.ret, law52_bytes.l58.R1, Bool, fun y => ((), (y, ())), fun x => x.2.1⟩]
def law52_bytes.l58 (k : Nat) : Nat → (List Int) → (List Int) → Int → Option ((Unit) ⊕ (Bool))
  | 0, _, _, _ => none
  | q + 1, x0, x1, x2 =>
    cond (decide (x2 < (x0.length : Int)))
    (cond (inB x2 x0.length)
      (cond (inB x2 x1.length)
        (cond ((rdL (.int .u8) x0 x2) != (rdL (.int .u8) x1 x2))
          (some (.inr false))
          (law52_bytes.l58 k q x0 x1 (IntKind.wrap .i64 (x2 + 1))))
        (none))
      (none))
    (some (.inl ()))
abbrev law52_bytes.l58.pc (k : Nat) : Pc := ⟨law52_bytes.l58.A, law52_bytes.l58.outs, fun x => law52_bytes.l58 k k x.2.1 x.2.2.1 x.2.2.2.1⟩
def law52_bytes.f (k : Nat) (a0 : List Int) (a1 : List Int) : Option (Bool) :=
  cond ((a0.length : Int) != (a1.length : Int))
  (some false)
  ((law52_bytes.l58 k k a0 a1 0).bind fun y1 =>
    Sum.casesOn (motive := fun _ => Option _) y1 (fun u2 =>
    some true)
    (fun v3 =>
    some v3))
abbrev law52_bytes.E (k : Nat) : Ent := ⟨law52_bytes.A, law52_bytes.outs, fun x => law52_bytes.f k x.2.1 x.2.2.1⟩
noncomputable abbrev law52_bytes.C (k : Nat) : Cfg := ⟨Tryz.prog, shs, look2 [], look [(58, law52_bytes.l58.pc k)]⟩
theorem law52_bytes.l58.ev (k q : Nat) (x : law52_bytes.l58.A.V) : ((codeAt 60 (bodyOf (Tryz.f6)) 58).bind fun c => (loopOf c).bind fun c1 => evL (law52_bytes.C k) c1 58 law52_bytes.l58.A law52_bytes.l58.outs (fun x => law52_bytes.l58 k q x.2.1 x.2.2.1 x.2.2.2.1) x) = law52_bytes.l58 k (q + 1) x.2.1 x.2.2.1 x.2.2.2.1 := by kernel_rfl
theorem law52_bytes.ev (k : Nat) (x : law52_bytes.A.V) : evF (law52_bytes.C k) Tryz.f6 law52_bytes.A law52_bytes.outs x = law52_bytes.f k x.2.1 x.2.2.1 := by kernel_rfl
theorem law52_bytes.at : Tryz.prog.funcs[6]? = some Tryz.f6 := by kernel_rfl
theorem law52_bytes.bo : Tryz.f6.body = some (bodyOf (Tryz.f6)) := by kernel_rfl
theorem law52_bytes.nm : (Tryz.f6.name == "runtime.NumGoroutine") = false := by kernel_rfl
theorem law52_bytes.sat (k : Nat) : Sat Tryz.prog 6 (law52_bytes.E k) :=
  have hC : ∀ g l N, (law52_bytes.C k).orc g l = some N → Sat Tryz.prog g N := satAll satNil
  sat_of (C := law52_bytes.C k) hC mixed law52_bytes.at law52_bytes.nm law52_bytes.bo (all_pieces rfl (locCons (loc_loop (A := law52_bytes.l58.A) (outs := law52_bytes.l58.outs) hC mixed (dstOk_zero _) (fun (q : Nat) (x : law52_bytes.l58.A.V) => law52_bytes.l58 k q x.2.1 x.2.2.1 x.2.2.2.1) (fun _ => rfl) (law52_bytes.l58.ev k) (ooC (fun _ => rfl) (ooC (fun _ => rfl) ooN)) rfl rfl k) locNil)) (law52_bytes.ev k) (ooC (fun _ => rfl) ooN) (dstOk_zero _) (by decide) rfl

/-! ### journal_Read: function 16 (examboard/journal.Read) -/
abbrev journal_Read.A : Sig := ⟨1, [], (.nilL), [0], (.cons (.v (.sl (.int .u8))) .nilL)⟩
abbrev journal_Read.R0 : Sig := ⟨1, [], (.nilL), [0], (.cons (.tup (.cons (.v (.sl .node)) (.cons (.v (.int .i64)) (.cons (.v (.int .i64)) .nilL)))) .nilL)⟩
abbrev journal_Read.outs : List Out := [⟨.ret, journal_Read.R0, List Nd × Int × Int, fun y => ((), ((y.1, y.2.1, y.2.2, ()), ())), fun x => (x.2.1.1, x.2.1.2.1, x.2.1.2.2.1)⟩]
def journal_Read.f (k : Nat) (a0 : List Int) : Option (List Nd × Int × Int) :=
  (journal_read.f k a0).bind fun y1 =>
  Sum.casesOn (motive := fun _ => Option _) y1 (fun u2 =>
  (journal_codeN.f k).bind fun y4 =>
    some (u2.1, u2.2.1, y4))
  (fun v3 =>
  (journal_code.f k v3.2.2.2).bind fun y5 =>
    some (v3.1, v3.2.1, y5))
abbrev journal_Read.E (k : Nat) : Ent := ⟨journal_Read.A, journal_Read.outs, fun x => journal_Read.f k x.2.1⟩
noncomputable abbrev journal_Read.C (k : Nat) : Cfg := ⟨Tryz.prog, shs, look2 [(32, [], journal_code.E k), (32, [999999], journal_codeN.E k), (31, [], journal_read.E k)], look []⟩
theorem journal_Read.ev (k : Nat) (x : journal_Read.A.V) : evF (journal_Read.C k) Tryz.f16 journal_Read.A journal_Read.outs x = journal_Read.f k x.2.1 := by kernel_rfl
theorem journal_Read.at : Tryz.prog.funcs[16]? = some Tryz.f16 := by kernel_rfl
theorem journal_Read.bo : Tryz.f16.body = some (bodyOf (Tryz.f16)) := by kernel_rfl
theorem journal_Read.nm : (Tryz.f16.name == "runtime.NumGoroutine") = false := by kernel_rfl
theorem journal_Read.sat (k : Nat) : Sat Tryz.prog 16 (journal_Read.E k) :=
  have hC : ∀ g l N, (journal_Read.C k).orc g l = some N → Sat Tryz.prog g N := satAll (satCons (journal_code.sat k) (satCons (journal_codeN.sat k) (satCons (journal_read.sat k) satNil)))
  sat_of (C := journal_Read.C k) hC mixed journal_Read.at journal_Read.nm journal_Read.bo (all_pieces rfl locNil) (journal_Read.ev k) (ooC (fun _ => rfl) ooN) (dstOk_zero _) (by decide) rfl

/-! ### codec_Find: function 71 (examboard/codec.Find) -/
abbrev codec_Find.A : Sig := ⟨2, [], (.nilL), [0, 1], (.cons (.agg (.cons (.v (.int .i64)) (.cons (.v (.int .i64)) (.cons (.v (.int .i64)) (.cons (.v .str) (.cons (.v (.sl .node)) .nilL)))))) (.cons (.v (.int .i64)) .nilL))⟩
abbrev codec_Find.R0 : Sig := ⟨1, [], (.nilL), [0], (.cons (.tup (.cons (.agg (.cons (.v (.int .i64)) (.cons (.v (.int .i64)) (.cons (.v (.int .i64)) (.cons (.v .str) (.cons (.v (.sl .node)) .nilL)))))) (.cons (.v .bool) .nilL))) .nilL)⟩
abbrev codec_Find.outs : List Out := [⟨.ret, codec_Find.R0, Int × Int × Int × ByteArray × List Nd × Bool, fun y => ((), (((y.1, y.2.1, y.2.2.1, y.2.2.2.1, y.2.2.2.2.1, ()), y.2.2.2.2.2, ()), ())), fun x => (x.2.1.1.1, x.2.1.1.2.1, x.2.1.1.2.2.1, x.2.1.1.2.2.2.1, x.2.1.1.2.2.2.2.1, x.2.1.2.1)⟩]
abbrev codec_Find.l26.A : Sig := ⟨23, [.slot 4, .cell 0 4], (.cons (.obox (.cons (.v (.int .i64)) (.cons (.v (.int .i64)) (.cons (.v (.int .i64)) (.cons (.v .str) (.cons (.rowr 1) .nilL)))))) (.cons (.orow 42 .node) .nilL)), [4, 1, 9, 10, 11], (.cons (.boxr 0 0) (.cons (.v (.int .i64)) (.cons (.v (.sl .node)) (.cons (.v (.int .i64)) (.cons (.v (.int .i64)) .nilL)))))⟩
abbrev codec_Find.l26.R0 : Sig := ⟨23, [.slot 4, .cell 0 4], (.cons (.obox (.cons (.v (.int .i64)) (.cons (.v (.int .i64)) (.cons (.v (.int .i64)) (.cons (.v .str) (.cons (.rowr 1) .nilL)))))) (.cons (.orow 42 .node) .nilL)), [4], (.cons (.boxr 0 0) .nilL)⟩
abbrev codec_Find.l26.R1 : Sig := ⟨23, [.slot 4], (.cons (.obox (.cons (.v (.int .i64)) (.cons (.v (.int .i64)) (.cons (.v (.int .i64)) (.cons (.v .str) (.cons (.v (.sl .node)) .nilL)))))) .nilL), [4, 5], (.cons (.boxr 0 0) (.cons (.v .bool) .nilL))⟩
abbrev codec_Find.l26.outs : List Out := [⟨(.exit 0), codec_Find.l26.R0, Int × Int × Int × ByteArray × List Nd, fun y => (((y.1, y.2.1, y.2.2.1, y.2.2.2.1, (), ()), y.2.2.2.2, ()), ((), ())), fun x => (x.1.1.1, x.1.1.2.1, x.1.1.2.2.1, x.1.1.2.2.2.1, x.1.2.1)⟩, ⟨.ret, codec_Find.l26.R1, Int × Int × Int × ByteArray × List Nd × Bool, fun y => (((y.1, y.2.1, y.2.2.1, y.2.2.2.1, y.2.2.2.2.1, ()), ()), ((), y.2.2.2.2.2, ())), fun x => (x.1.1.1, x.1.1.2.1, x.1.1.2.2.1, x.1.1.2.2.2.1, x.1.1.2.2.2.2.1, x.2.2.1)⟩]
def codec_Find.l26 (k : Nat) : Nat → Int → Int → Int → ByteArray → (List Nd) → Int → (List Nd) → Int → Int → Option ((Int × Int × Int × ByteArray × List Nd) ⊕ (Int × Int × Int × ByteArray × List Nd × Bool))
  | 0, _, _, _, _, _, _, _, _, _ => none
  | q + 1, x0, x1, x2, x3, x4, x5, x6, x7, x8 =>
    cond (decide (x8 < x7))
    (cond (inB x8 x6.length)
      (cond ((rdL .node x6 x8).tag == x5)
        ((codec_clone.f k ((rdL .node x6 x8).tag) ((rdL .node x6 x8).kind) ((rdL .node x6 x8).n) ((rdL .node x6 x8).s) ((rdL .node x6 x8).kids)).bind fun y2 =>
          some (.inr (y2.1, y2.2.1, y2.2.2.1, y2.2.2.2.1, y2.2.2.2.2, true)))
        (codec_Find.l26 k q x0 x1 x2 x3 x4 x5 x6 x7 (IntKind.wrap .i64 (x8 + 1))))
      (none))
    (some (.inl (x0, x1, x2, x3, x4)))
abbrev codec_Find.l26.pc (k : Nat) : Pc := ⟨codec_Find.l26.A, codec_Find.l26.outs, fun x => codec_Find.l26 k k x.1.1.1 x.1.1.2.1 x.1.1.2.2.1 x.1.1.2.2.2.1 x.1.2.1 x.2.2.1 x.2.2.2.1 x.2.2.2.2.1 x.2.2.2.2.2.1⟩
def codec_Find.f (k : Nat) (a0 : Int) (a1 : Int) (a2 : Int) (a3 : ByteArray) (a4 : List Nd) (a5 : Int) : Option (Int × Int × Int × ByteArray × List Nd × Bool) :=
  (codec_Find.l26 k k 0 0 0 (⟨#[]⟩ : ByteArray) ([] : List Nd) a5 a4 (a4.length : Int) 0).bind fun y3 =>
  Sum.casesOn (motive := fun _ => Option _) y3 (fun u4 =>
  some (0, 0, 0, (⟨#[]⟩ : ByteArray), ([] : List Nd), false))
  (fun v5 =>
  some (v5.1, v5.2.1, v5.2.2.1, v5.2.2.2.1, v5.2.2.2.2.1, v5.2.2.2.2.2))
abbrev codec_Find.E (k : Nat) : Ent := ⟨codec_Find.A, codec_Find.outs, fun x => codec_Find.f k x.2.1.1 x.2.1.2.1 x.2.1.2.2.1 x.2.1.2.2.2.1 x.2.1.2.2.2.2.1 x.2.2.1⟩
noncomputable abbrev codec_Find.C (k : Nat) : Cfg := ⟨Tryz.prog, shs, look2 [(53, [], codec_clone.E k)], look [(26, codec_Find.l26.pc k)]⟩
theorem codec_Find.l26.ev (k q : Nat) (x : codec_Find.l26.A.V) : ((codeAt 60 (bodyOf (Tryz.f71)) 26).bind fun c => (loopOf c).bind fun c1 => evL (codec_Find.C k) c1 26 codec_Find.l26.A codec_Find.l26.outs (fun x => codec_Find.l26 k q x.1.1.1 x.1.1.2.1 x.1.1.2.2.1 x.1.1.2.2.2.1 x.1.2.1 x.2.2.1 x.2.2.2.1 x.2.2.2.2.1 x.2.2.2.2.2.1) x) = codec_Find.l26 k (q + 1) x.1.1.1 x.1.1.2.1 x.1.1.2.2.1 x.1.1.2.2.2.1 x.1.2.1 x.2.2.1 x.2.2.2.1 x.2.2.2.2.1 x.2.2.2.2.2.1 := by kernel_rfl
theorem codec_Find.ev (k : Nat) (x : codec_Find.A.V) : evF (codec_Find.C k) Tryz.f71 codec_Find.A codec_Find.outs x = codec_Find.f k x.2.1.1 x.2.1.2.1 x.2.1.2.2.1 x.2.1.2.2.2.1 x.2.1.2.2.2.2.1 x.2.2.1 := by kernel_rfl
theorem codec_Find.at : Tryz.prog.funcs[71]? = some Tryz.f71 := by kernel_rfl
theorem codec_Find.bo : Tryz.f71.body = some (bodyOf (Tryz.f71)) := by kernel_rfl
theorem codec_Find.nm : (Tryz.f71.name == "runtime.NumGoroutine") = false := by kernel_rfl
theorem codec_Find.sat (k : Nat) : Sat Tryz.prog 71 (codec_Find.E k) :=
  have hC : ∀ g l N, (codec_Find.C k).orc g l = some N → Sat Tryz.prog g N := satAll (satCons (codec_clone.sat k) satNil)
  sat_of (C := codec_Find.C k) hC mixed codec_Find.at codec_Find.nm codec_Find.bo (all_pieces rfl (locCons (loc_loop (A := codec_Find.l26.A) (outs := codec_Find.l26.outs) hC mixed (dstOk_zero _) (fun (q : Nat) (x : codec_Find.l26.A.V) => codec_Find.l26 k q x.1.1.1 x.1.1.2.1 x.1.1.2.2.1 x.1.1.2.2.2.1 x.1.2.1 x.2.2.1 x.2.2.2.1 x.2.2.2.2.1 x.2.2.2.2.2.1) (fun _ => rfl) (codec_Find.l26.ev k) (ooC (fun _ => rfl) (ooC (fun _ => rfl) ooN)) rfl rfl k) locNil)) (codec_Find.ev k) (ooC (fun _ => rfl) ooN) (dstOk_zero _) (by decide) rfl

/-! ### resume_guess_1: function 70 (examboard/resume.guess$1) -/
abbrev resume_guess_1.A : Sig := ⟨2, [], (.nilL), [0, 1], (.cons (.v (.int .i64)) (.cons (.cp (.cons (.v (.int .i64)) (.cons (.v (.int .i64)) (.cons (.v (.int .i64)) (.cons (.v .str) (.cons (.v (.sl .node)) .nilL)))))) .nilL))⟩
abbrev resume_guess_1.R0 : Sig := ⟨1, [], (.nilL), [0], (.cons (.v (.int .i64)) .nilL)⟩
abbrev resume_guess_1.outs : List Out := [⟨.ret, resume_guess_1.R0, Int, fun y => ((), (y, ())), fun x => x.2.1⟩]
def resume_guess_1.f (k : Nat) (a0 : Int) (a1 : Int) (a2 : Int) (a3 : Int) (a4 : ByteArray) (a5 : List Nd) : Option (Int) :=
  (codec_Find.f k a1 a2 a3 a4 a5 a0).bind fun y1 =>
  some y1.2.2.1
abbrev resume_guess_1.E (k : Nat) : Ent := ⟨resume_guess_1.A, resume_guess_1.outs, fun x => resume_guess_1.f k x.2.1 x.2.2.1.1 x.2.2.1.2.1 x.2.2.1.2.2.1 x.2.2.1.2.2.2.1 x.2.2.1.2.2.2.2.1⟩
noncomputable abbrev resume_guess_1.C (k : Nat) : Cfg := ⟨Tryz.prog, shs, look2 [(71, [], codec_Find.E k)], look []⟩
theorem resume_guess_1.ev (k : Nat) (x : resume_guess_1.A.V) : evF (resume_guess_1.C k) Tryz.f70 resume_guess_1.A resume_guess_1.outs x = resume_guess_1.f k x.2.1 x.2.2.1.1 x.2.2.1.2.1 x.2.2.1.2.2.1 x.2.2.1.2.2.2.1 x.2.2.1.2.2.2.2.1 := by kernel_rfl
theorem resume_guess_1.at : Tryz.prog.funcs[70]? = some Tryz.f70 := by kernel_rfl
theorem resume_guess_1.bo : Tryz.f70.body = some (bodyOf (Tryz.f70)) := by kernel_rfl
theorem resume_guess_1.nm : (Tryz.f70.name == "runtime.NumGoroutine") = false := by kernel_rfl
theorem resume_guess_1.sat (k : Nat) : Sat Tryz.prog 70 (resume_guess_1.E k) :=
  have hC : ∀ g l N, (resume_guess_1.C k).orc g l = some N → Sat Tryz.prog g N := satAll (satCons (codec_Find.sat k) satNil)
  sat_of (C := resume_guess_1.C k) hC mixed resume_guess_1.at resume_guess_1.nm resume_guess_1.bo (all_pieces rfl locNil) (resume_guess_1.ev k) (ooC (fun _ => rfl) ooN) (dstOk_zero _) (by decide) rfl

/-! ### resume_guess: function 46 (examboard/resume.guess) -/
abbrev resume_guess.A : Sig := ⟨1, [], (.nilL), [0], (.cons (.agg (.cons (.v (.int .i64)) (.cons (.v (.int .i64)) (.cons (.v (.int .i64)) (.cons (.v .str) (.cons (.v (.sl .node)) .nilL)))))) .nilL)⟩
abbrev resume_guess.R0 : Sig := ⟨1, [], (.nilL), [0], (.cons (.agg (.cons (.v (.int .i64)) (.cons (.v (.int .i64)) (.cons (.v (.int .i64)) (.cons (.v (.sl (.int .i64))) (.cons (.v (.int .i64)) (.cons (.v .str) (.cons (.v .bool) (.cons (.v (.int .i64)) (.cons (.v (.int .i64)) (.cons (.v (.int .i64)) (.cons (.v (.int .i64)) .nilL)))))))))))) .nilL)⟩
abbrev resume_guess.outs : List Out := [⟨.ret, resume_guess.R0, Int × Int × Int × List Int × Int × ByteArray × Bool × Int × Int × Int × Int, fun y => ((), ((y.1, y.2.1, y.2.2.1, y.2.2.2.1, y.2.2.2.2.1, y.2.2.2.2.2.1, y.2.2.2.2.2.2.1, y.2.2.2.2.2.2.2.1, y.2.2.2.2.2.2.2.2.1, y.2.2.2.2.2.2.2.2.2.1, y.2.2.2.2.2.2.2.2.2.2, ()), ())), fun x => (x.2.1.1, x.2.1.2.1, x.2.1.2.2.1, x.2.1.2.2.2.1, x.2.1.2.2.2.2.1, x.2.1.2.2.2.2.2.1, x.2.1.2.2.2.2.2.2.1, x.2.1.2.2.2.2.2.2.2.1, x.2.1.2.2.2.2.2.2.2.2.1, x.2.1.2.2.2.2.2.2.2.2.2.1, x.2.1.2.2.2.2.2.2.2.2.2.2.1)⟩]
abbrev resume_guess.l15710.A : Sig := ⟨72, [.slot 2, .cell 0 3, .slot 4, .cell 2 3], (.cons (.obox (.cons (.v (.int .i64)) (.cons (.v (.int .i64)) (.cons (.v (.int .i64)) (.cons (.rowr 1) (.cons (.v (.int .i64)) (.cons (.v .str) (.cons (.v .bool) (.cons (.v (.int .i64)) (.cons (.v (.int .i64)) (.cons (.v (.int .i64)) (.cons (.v (.int .i64)) .nilL)))))))))))) (.cons (.orow 3 (.int .i64)) (.cons (.obox (.cons (.v (.int .i64)) (.cons (.v (.int .i64)) (.cons (.v (.int .i64)) (.cons (.rowr 3) (.cons (.v (.int .i64)) (.cons (.v .str) (.cons (.v .bool) (.cons (.v (.int .i64)) (.cons (.v (.int .i64)) (.cons (.v (.int .i64)) (.cons (.v (.int .i64)) .nilL)))))))))))) (.cons (.orow 3 (.int .i64)) .nilL)))), [2, 4, 43, 44, 45], (.cons (.boxr 0 0) (.cons (.boxr 2 0) (.cons (.v (.sl .node)) (.cons (.v (.int .i64)) (.cons (.v (.int .i64)) .nilL)))))⟩
abbrev resume_guess.l15710.R0 : Sig := ⟨72, [.slot 2, .cell 0 3, .slot 4, .cell 2 3], (.cons (.obox (.cons (.v (.int .i64)) (.cons (.v (.int .i64)) (.cons (.v (.int .i64)) (.cons (.rowr 1) (.cons (.v (.int .i64)) (.cons (.v .str) (.cons (.v .bool) (.cons (.v (.int .i64)) (.cons (.v (.int .i64)) (.cons (.v (.int .i64)) (.cons (.v (.int .i64)) .nilL)))))))))))) (.cons (.orow 3 (.int .i64)) (.cons (.obox (.cons (.v (.int .i64)) (.cons (.v (.int .i64)) (.cons (.v (.int .i64)) (.cons (.rowr 3) (.cons (.v (.int .i64)) (.cons (.v .str) (.cons (.v .bool) (.cons (.v (.int .i64)) (.cons (.v (.int .i64)) (.cons (.v (.int .i64)) (.cons (.v (.int .i64)) .nilL)))))))))))) (.cons (.orow 3 (.int .i64)) .nilL)))), [2, 4], (.cons (.boxr 0 0) (.cons (.boxr 2 0) .nilL))⟩
abbrev resume_guess.l15710.outs : List Out := [⟨(.exit 1), resume_guess.l15710.R0, Int × Int × Int × Int × ByteArray × Bool × Int × Int × Int × Int × List Int × Int × Int × Int × Int × ByteArray × Bool × Int × Int × Int × Int × List Int, fun y => (((y.1, y.2.1, y.2.2.1, (), y.2.2.2.1, y.2.2.2.2.1, y.2.2.2.2.2.1, y.2.2.2.2.2.2.1, y.2.2.2.2.2.2.2.1, y.2.2.2.2.2.2.2.2.1, y.2.2.2.2.2.2.2.2.2.1, ()), y.2.2.2.2.2.2.2.2.2.2.1, (y.2.2.2.2.2.2.2.2.2.2.2.1, y.2.2.2.2.2.2.2.2.2.2.2.2.1, y.2.2.2.2.2.2.2.2.2.2.2.2.2.1, (), y.2.2.2.2.2.2.2.2.2.2.2.2.2.2.1, y.2.2.2.2.2.2.2.2.2.2.2.2.2.2.2.1, y.2.2.2.2.2.2.2.2.2.2.2.2.2.2.2.2.1, y.2.2.2.2.2.2.2.2.2.2.2.2.2.2.2.2.2.1, y.2.2.2.2.2.2.2.2.2.2.2.2.2.2.2.2.2.2.1, y.2.2.2.2.2.2.2.2.2.2.2.2.2.2.2.2.2.2.2.1, y.2.2.2.2.2.2.2.2.2.2.2.2.2.2.2.2.2.2.2.2.1, ()), y.2.2.2.2.2.2.2.2.2.2.2.2.2.2.2.2.2.2.2.2.2, ()), ((), (), ())), fun x => (x.1.1.1, x.1.1.2.1, x.1.1.2.2.1, x.1.1.2.2.2.2.1, x.1.1.2.2.2.2.2.1, x.1.1.2.2.2.2.2.2.1, x.1.1.2.2.2.2.2.2.2.1, x.1.1.2.2.2.2.2.2.2.2.1, x.1.1.2.2.2.2.2.2.2.2.2.1, x.1.1.2.2.2.2.2.2.2.2.2.2.1, x.1.2.1, x.1.2.2.1.1, x.1.2.2.1.2.1, x.1.2.2.1.2.2.1, x.1.2.2.1.2.2.2.2.1, x.1.2.2.1.2.2.2.2.2.1, x.1.2.2.1.2.2.2.2.2.2.1, x.1.2.2.1.2.2.2.2.2.2.2.1, x.1.2.2.1.2.2.2.2.2.2.2.2.1, x.1.2.2.1.2.2.2.2.2.2.2.2.2.1, x.1.2.2.1.2.2.2.2.2.2.2.2.2.2.1, x.1.2.2.2.1)⟩]
def resume_guess.l15710 (k : Nat) : Nat → Int → Int → Int → Int → ByteArray → Bool → Int → Int → Int → Int → (List Int) → Int → Int → Int → Int → ByteArray → Bool → Int → Int → Int → Int → (List Int) → (List Nd) → Int → Int → Option (Int × Int × Int × Int × ByteArray × Bool × Int × Int × Int × Int × List Int × Int × Int × Int × Int × ByteArray × Bool × Int × Int × Int × Int × List Int)
  | 0, _, _, _, _, _, _, _, _, _, _, _, _, _, _, _, _, _, _, _, _, _, _, _, _, _ => none
  | q + 1, x0, x1, x2, x3, x4, x5, x6, x7, x8, x9, x10, x11, x12, x13, x14, x15, x16, x17, x18, x19, x20, x21, x22, x23, x24 =>
    cond (decide (x24 < x23))
    (cond (inB x24 x22.length)
      (cond (fits (x21.length + 1) 8)
        (resume_guess.l15710 k q x0 x1 x2 x3 x4 x5 x6 x7 x8 x9 x10 x11 x12 x13 x14 x15 x16 x17 x18 x19 x20 (x21 ++ [(rdL .node x22 x24).n]) x22 x23 (IntKind.wrap .i64 (x24 + 1)))
        (none))
      (none))
    (some (x0, x1, x2, x3, x4, x5, x6, x7, x8, x9, x10, x11, x12, x13, x14, x15, x16, x17, x18, x19, x20, x21))
abbrev resume_guess.l15710.pc (k : Nat) : Pc := ⟨resume_guess.l15710.A, resume_guess.l15710.outs, fun x => resume_guess.l15710 k k x.1.1.1 x.1.1.2.1 x.1.1.2.2.1 x.1.1.2.2.2.2.1 x.1.1.2.2.2.2.2.1 x.1.1.2.2.2.2.2.2.1 x.1.1.2.2.2.2.2.2.2.1 x.1.1.2.2.2.2.2.2.2.2.1 x.1.1.2.2.2.2.2.2.2.2.2.1 x.1.1.2.2.2.2.2.2.2.2.2.2.1 x.1.2.1 x.1.2.2.1.1 x.1.2.2.1.2.1 x.1.2.2.1.2.2.1 x.1.2.2.1.2.2.2.2.1 x.1.2.2.1.2.2.2.2.2.1 x.1.2.2.1.2.2.2.2.2.2.1 x.1.2.2.1.2.2.2.2.2.2.2.1 x.1.2.2.1.2.2.2.2.2.2.2.2.1 x.1.2.2.1.2.2.2.2.2.2.2.2.2.1 x.1.2.2.1.2.2.2.2.2.2.2.2.2.2.1 x.1.2.2.2.1 x.2.2.2.1 x.2.2.2.2.1 x.2.2.2.2.2.1⟩
def resume_guess.f (k : Nat) (a0 : Int) (a1 : Int) (a2 : Int) (a3 : ByteArray) (a4 : List Nd) : Option (Int × Int × Int × List Int × Int × ByteArray × Bool × Int × Int × Int × Int) :=
  (resume_guess_1.f k 1 a0 a1 a2 a3 a4).bind fun y1 =>
  (resume_guess_1.f k 2 a0 a1 a2 a3 a4).bind fun y2 =>
  cond (y1 == 2)
  ((codec_Find.f k a0 a1 a2 a3 a4 4).bind fun y3 =>
    (codec_Find.f k a0 a1 a2 a3 a4 6).bind fun y4 =>
    (resume_guess_1.f k 3 a0 a1 a2 a3 a4).bind fun y5 =>
    (resume_guess_1.f k 5 a0 a1 a2 a3 a4).bind fun y6 =>
    (resume_guess_1.f k 7 a0 a1 a2 a3 a4).bind fun y7 =>
    (resume_guess.l15710 k k 0 0 0 0 (⟨#[]⟩ : ByteArray) false 0 0 0 0 ([] : List Int) y1 y2 y5 y6 y4.2.2.2.1 (y7 == 1) 0 0 0 0 ([] : List Int) y3.2.2.2.2.1 (y3.2.2.2.2.1.length : Int) 0).bind fun y8 =>
    some (y8.2.2.2.2.2.2.2.2.2.2.2.1, y8.2.2.2.2.2.2.2.2.2.2.2.2.1, y8.2.2.2.2.2.2.2.2.2.2.2.2.2.1, y8.2.2.2.2.2.2.2.2.2.2.2.2.2.2.2.2.2.2.2.2.2, y8.2.2.2.2.2.2.2.2.2.2.2.2.2.2.1, y8.2.2.2.2.2.2.2.2.2.2.2.2.2.2.2.1, y8.2.2.2.2.2.2.2.2.2.2.2.2.2.2.2.2.1, y8.2.2.2.2.2.2.2.2.2.2.2.2.2.2.2.2.2.1, y8.2.2.2.2.2.2.2.2.2.2.2.2.2.2.2.2.2.2.1, y8.2.2.2.2.2.2.2.2.2.2.2.2.2.2.2.2.2.2.2.1, y8.2.2.2.2.2.2.2.2.2.2.2.2.2.2.2.2.2.2.2.2.1))
  (cond (y1 == 5)
    ((resume_guess_1.f k 8 a0 a1 a2 a3 a4).bind fun y9 =>
      (resume_guess_1.f k 9 a0 a1 a2 a3 a4).bind fun y10 =>
      (resume_guess_1.f k 10 a0 a1 a2 a3 a4).bind fun y11 =>
      some (y1, y2, 0, ([] : List Int), 0, (⟨#[]⟩ : ByteArray), false, y9, y2, y10, y11))
    (some (y1, y2, 0, ([] : List Int), 0, (⟨#[]⟩ : ByteArray), false, 0, 0, 0, 0)))
abbrev resume_guess.E (k : Nat) : Ent := ⟨resume_guess.A, resume_guess.outs, fun x => resume_guess.f k x.2.1.1 x.2.1.2.1 x.2.1.2.2.1 x.2.1.2.2.2.1 x.2.1.2.2.2.2.1⟩
noncomputable abbrev resume_guess.C (k : Nat) : Cfg := ⟨Tryz.prog, shs, look2 [(71, [], codec_Find.E k), (70, [], resume_guess_1.E k)], look [(15710, resume_guess.l15710.pc k)]⟩
theorem resume_guess.l15710.ev (k q : Nat) (x : resume_guess.l15710.A.V) : ((codeAt 60 (bodyOf (Tryz.f46)) 15710).bind fun c => (loopOf c).bind fun c1 => evL (resume_guess.C k) c1 15710 resume_guess.l15710.A resume_guess.l15710.outs (fun x => resume_guess.l15710 k q x.1.1.1 x.1.1.2.1 x.1.1.2.2.1 x.1.1.2.2.2.2.1 x.1.1.2.2.2.2.2.1 x.1.1.2.2.2.2.2.2.1 x.1.1.2.2.2.2.2.2.2.1 x.1.1.2.2.2.2.2.2.2.2.1 x.1.1.2.2.2.2.2.2.2.2.2.1 x.1.1.2.2.2.2.2.2.2.2.2.2.1 x.1.2.1 x.1.2.2.1.1 x.1.2.2.1.2.1 x.1.2.2.1.2.2.1 x.1.2.2.1.2.2.2.2.1 x.1.2.2.1.2.2.2.2.2.1 x.1.2.2.1.2.2.2.2.2.2.1 x.1.2.2.1.2.2.2.2.2.2.2.1 x.1.2.2.1.2.2.2.2.2.2.2.2.1 x.1.2.2.1.2.2.2.2.2.2.2.2.2.1 x.1.2.2.1.2.2.2.2.2.2.2.2.2.2.1 x.1.2.2.2.1 x.2.2.2.1 x.2.2.2.2.1 x.2.2.2.2.2.1) x) = resume_guess.l15710 k (q + 1) x.1.1.1 x.1.1.2.1 x.1.1.2.2.1 x.1.1.2.2.2.2.1 x.1.1.2.2.2.2.2.1 x.1.1.2.2.2.2.2.2.1 x.1.1.2.2.2.2.2.2.2.1 x.1.1.2.2.2.2.2.2.2.2.1 x.1.1.2.2.2.2.2.2.2.2.2.1 x.1.1.2.2.2.2.2.2.2.2.2.2.1 x.1.2.1 x.1.2.2.1.1 x.1.2.2.1.2.1 x.1.2.2.1.2.2.1 x.1.2.2.1.2.2.2.2.1 x.1.2.2.1.2.2.2.2.2.1 x.1.2.2.1.2.2.2.2.2.2.1 x.1.2.2.1.2.2.2.2.2.2.2.1 x.1.2.2.1.2.2.2.2.2.2.2.2.1 x.1.2.2.1.2.2.2.2.2.2.2.2.2.1 x.1.2.2.1.2.2.2.2.2.2.2.2.2.2.1 x.1.2.2.2.1 x.2.2.2.1 x.2.2.2.2.1 x.2.2.2.2.2.1 := by kernel_rfl
theorem resume_guess.ev (k : Nat) (x : resume_guess.A.V) : evF (resume_guess.C k) Tryz.f46 resume_guess.A resume_guess.outs x = resume_guess.f k x.2.1.1 x.2.1.2.1 x.2.1.2.2.1 x.2.1.2.2.2.1 x.2.1.2.2.2.2.1 := by kernel_rfl
theorem resume_guess.at : Tryz.prog.funcs[46]? = some Tryz.f46 := by kernel_rfl
theorem resume_guess.bo : Tryz.f46.body = some (bodyOf (Tryz.f46)) := by kernel_rfl
theorem resume_guess.nm : (Tryz.f46.name == "runtime.NumGoroutine") = false := by kernel_rfl
theorem resume_guess.sat (k : Nat) : Sat Tryz.prog 46 (resume_guess.E k) :=
  have hC : ∀ g l N, (resume_guess.C k).orc g l = some N → Sat Tryz.prog g N := satAll (satCons (codec_Find.sat k) (satCons (resume_guess_1.sat k) satNil))
  sat_of (C := resume_guess.C k) hC mixed resume_guess.at resume_guess.nm resume_guess.bo (all_pieces rfl (locCons (loc_loop (A := resume_guess.l15710.A) (outs := resume_guess.l15710.outs) hC mixed (dstOk_zero _) (fun (q : Nat) (x : resume_guess.l15710.A.V) => resume_guess.l15710 k q x.1.1.1 x.1.1.2.1 x.1.1.2.2.1 x.1.1.2.2.2.2.1 x.1.1.2.2.2.2.2.1 x.1.1.2.2.2.2.2.2.1 x.1.1.2.2.2.2.2.2.2.1 x.1.1.2.2.2.2.2.2.2.2.1 x.1.1.2.2.2.2.2.2.2.2.2.1 x.1.1.2.2.2.2.2.2.2.2.2.2.1 x.1.2.1 x.1.2.2.1.1 x.1.2.2.1.2.1 x.1.2.2.1.2.2.1 x.1.2.2.1.2.2.2.2.1 x.1.2.2.1.2.2.2.2.2.1 x.1.2.2.1.2.2.2.2.2.2.1 x.1.2.2.1.2.2.2.2.2.2.2.1 x.1.2.2.1.2.2.2.2.2.2.2.2.1 x.1.2.2.1.2.2.2.2.2.2.2.2.2.1 x.1.2.2.1.2.2.2.2.2.2.2.2.2.2.1 x.1.2.2.2.1 x.2.2.2.1 x.2.2.2.2.1 x.2.2.2.2.2.1) (fun _ => rfl) (resume_guess.l15710.ev k) (ooC (fun _ => rfl) ooN) rfl rfl k) locNil)) (resume_guess.ev k) (ooC (fun _ => rfl) ooN) (dstOk_zero _) (by decide) rfl

/-! ### codec_Equal: function 47 (examboard/codec.Equal) -/
abbrev codec_Equal.A : Sig := ⟨2, [], (.nilL), [0, 1], (.cons (.agg (.cons (.v (.int .i64)) (.cons (.v (.int .i64)) (.cons (.v (.int .i64)) (.cons (.v .str) (.cons (.v (.sl .node)) .nilL)))))) (.cons (.agg (.cons (.v (.int .i64)) (.cons (.v (.int .i64)) (.cons (.v (.int .i64)) (.cons (.v .str) (.cons (.v (.sl .node)) .nilL)))))) .nilL))⟩
abbrev codec_Equal.R0 : Sig := ⟨1, [], (.nilL), [0], (.cons (.v .bool) .nilL)⟩
abbrev codec_Equal.outs : List Out := [⟨.ret, codec_Equal.R0, Bool, fun y => ((), (y, ())), fun x => x.2.1⟩]
abbrev codec_Equal.l58.A : Sig := ⟨60, [.slot 2, .slot 3], (.cons (.obox (.cons (.v (.int .i64)) (.cons (.v (.int .i64)) (.cons (.v (.int .i64)) (.cons (.v .str) (.cons (.v (.sl .node)) .nilL)))))) (.cons (.obox (.cons (.v (.int .i64)) (.cons (.v (.int .i64)) (.cons (.v (.int .i64)) (.cons (.v .str) (.cons (.v (.sl .node)) .nilL)))))) .nilL)), [2, 3, 43, 44], (.cons (.boxr 0 0) (.cons (.boxr 1 0) (.cons (.v (.int .i64)) (.cons (.v (.int .i64)) .nilL))))⟩
abbrev codec_Equal.l58.R0 : Sig := ⟨60, [], (.nilL), [], (.nilL)⟩
abbrev codec_Equal.l58.R1 : Sig := ⟨60, [], (.nilL), [4], (.cons (.v .bool) .nilL)⟩
abbrev codec_Equal.l58.outs : List Out := [⟨(.exit 0), codec_Equal.l58.R0, Unit, fun y => ((), ()), fun x => ()⟩, ⟨.ret, codec_Equal.l58.R1, Bool, fun y => ((), (y, ())), fun x => x.2.1⟩]
def codec_Equal.l58 (self : Int → Int → Int → ByteArray → (List Nd) → Int → Int → Int → ByteArray → (List Nd) → Option (Bool)) (k : Nat) : Nat → Int → Int → Int → ByteArray → (List Nd) → Int → Int → Int → ByteArray → (List Nd) → Int → Int → Option ((Unit) ⊕ (Bool))
  | 0, _, _, _, _, _, _, _, _, _, _, _, _ => none
  | q + 1, x0, x1, x2, x3, x4, x5, x6, x7, x8, x9, x10, x11 =>
    cond (decide (x11 < x10))
    (cond (inB x11 x4.length)
      (cond (inB x11 x9.length)
        ((self ((rdL .node x4 x11).tag) ((rdL .node x4 x11).kind) ((rdL .node x4 x11).n) ((rdL .node x4 x11).s) ((rdL .node x4 x11).kids) ((rdL .node x9 x11).tag) ((rdL .node x9 x11).kind) ((rdL .node x9 x11).n) ((rdL .node x9 x11).s) ((rdL .node x9 x11).kids)).bind fun y6 =>
          cond (!y6)
          (some (.inr false))
          (codec_Equal.l58 self k q x0 x1 x2 x3 x4 x5 x6 x7 x8 x9 x10 (IntKind.wrap .i64 (x11 + 1))))
        (none))
      (none))
    (some (.inl ()))
abbrev codec_Equal.l58.pc (self : Int → Int → Int → ByteArray → (List Nd) → Int → Int → Int → ByteArray → (List Nd) → Option (Bool)) (k : Nat) : Pc := ⟨codec_Equal.l58.A, codec_Equal.l58.outs, fun x => codec_Equal.l58 self k k x.1.1.1 x.1.1.2.1 x.1.1.2.2.1 x.1.1.2.2.2.1 x.1.1.2.2.2.2.1 x.1.2.1.1 x.1.2.1.2.1 x.1.2.1.2.2.1 x.1.2.1.2.2.2.1 x.1.2.1.2.2.2.2.1 x.2.2.2.1 x.2.2.2.2.1⟩
def codec_Equal.g (self : Int → Int → Int → ByteArray → (List Nd) → Int → Int → Int → ByteArray → (List Nd) → Option (Bool)) (k : Nat) (a0 : Int) (a1 : Int) (a2 : Int) (a3 : ByteArray) (a4 : List Nd) (a5 : Int) (a6 : Int) (a7 : Int) (a8 : ByteArray) (a9 : List Nd) : Option (Bool) :=
  Option.bind (cond (a0 != a5)
    (some true)
    (some (a1 != a6))) fun (c1 : Bool) =>
  Option.bind (cond c1
    (some true)
    (some (a2 != a7))) fun (c2 : Bool) =>
  Option.bind (cond c2
    (some true)
    (some (!(a3.toList == a8.toList)))) fun (c3 : Bool) =>
  Option.bind (cond c3
    (some true)
    (some ((a4.length : Int) != (a9.length : Int)))) fun (c4 : Bool) =>
  cond c4
  (some false)
  ((codec_Equal.l58 self k k a0 a1 a2 a3 a4 a5 a6 a7 a8 a9 (a4.length : Int) 0).bind fun y7 =>
    Sum.casesOn (motive := fun _ => Option _) y7 (fun u8 =>
    some true)
    (fun v9 =>
    some v9))
def codec_Equal.f : Nat → Int → Int → Int → ByteArray → (List Nd) → Int → Int → Int → ByteArray → (List Nd) → Option (Bool)
  | 0, _, _, _, _, _, _, _, _, _, _ => none
  | k + 1, a0, a1, a2, a3, a4, a5, a6, a7, a8, a9 => codec_Equal.g (codec_Equal.f k) k a0 a1 a2 a3 a4 a5 a6 a7 a8 a9
abbrev codec_Equal.ES (self : Int → Int → Int → ByteArray → (List Nd) → Int → Int → Int → ByteArray → (List Nd) → Option (Bool)) : Ent := ⟨codec_Equal.A, codec_Equal.outs, fun x => self x.2.1.1 x.2.1.2.1 x.2.1.2.2.1 x.2.1.2.2.2.1 x.2.1.2.2.2.2.1 x.2.2.1.1 x.2.2.1.2.1 x.2.2.1.2.2.1 x.2.2.1.2.2.2.1 x.2.2.1.2.2.2.2.1⟩
abbrev codec_Equal.E (k : Nat) : Ent := ⟨codec_Equal.A, codec_Equal.outs, fun x => codec_Equal.f k x.2.1.1 x.2.1.2.1 x.2.1.2.2.1 x.2.1.2.2.2.1 x.2.1.2.2.2.2.1 x.2.2.1.1 x.2.2.1.2.1 x.2.2.1.2.2.1 x.2.2.1.2.2.2.1 x.2.2.1.2.2.2.2.1⟩
noncomputable abbrev codec_Equal.C (self : Int → Int → Int → ByteArray → (List Nd) → Int → Int → Int → ByteArray → (List Nd) → Option (Bool)) (k : Nat) : Cfg := ⟨Tryz.prog, shs, look2 [(47, [], codec_Equal.ES self)], look [(58, codec_Equal.l58.pc self k)]⟩
theorem codec_Equal.l58.ev (self : Int → Int → Int → ByteArray → (List Nd) → Int → Int → Int → ByteArray → (List Nd) → Option (Bool)) (k q : Nat) (x : codec_Equal.l58.A.V) : ((codeAt 60 (bodyOf (Tryz.f47)) 58).bind fun c => (loopOf c).bind fun c1 => evL (codec_Equal.C self k) c1 58 codec_Equal.l58.A codec_Equal.l58.outs (fun x => codec_Equal.l58 self k q x.1.1.1 x.1.1.2.1 x.1.1.2.2.1 x.1.1.2.2.2.1 x.1.1.2.2.2.2.1 x.1.2.1.1 x.1.2.1.2.1 x.1.2.1.2.2.1 x.1.2.1.2.2.2.1 x.1.2.1.2.2.2.2.1 x.2.2.2.1 x.2.2.2.2.1) x) = codec_Equal.l58 self k (q + 1) x.1.1.1 x.1.1.2.1 x.1.1.2.2.1 x.1.1.2.2.2.1 x.1.1.2.2.2.2.1 x.1.2.1.1 x.1.2.1.2.1 x.1.2.1.2.2.1 x.1.2.1.2.2.2.1 x.1.2.1.2.2.2.2.1 x.2.2.2.1 x.2.2.2.2.1 := by kernel_rfl
theorem codec_Equal.ev (self : Int → Int → Int → ByteArray → (List Nd) → Int → Int → Int → ByteArray → (List Nd) → Option (Bool)) (k : Nat) (x : codec_Equal.A.V) : evF (codec_Equal.C self k) Tryz.f47 codec_Equal.A codec_Equal.outs x = codec_Equal.g self k x.2.1.1 x.2.1.2.1 x.2.1.2.2.1 x.2.1.2.2.2.1 x.2.1.2.2.2.2.1 x.2.2.1.1 x.2.2.1.2.1 x.2.2.1.2.2.1 x.2.2.1.2.2.2.1 x.2.2.1.2.2.2.2.1 := by kernel_rfl
theorem codec_Equal.at : Tryz.prog.funcs[47]? = some Tryz.f47 := by kernel_rfl
theorem codec_Equal.bo : Tryz.f47.body = some (bodyOf (Tryz.f47)) := by kernel_rfl
theorem codec_Equal.nm : (Tryz.f47.name == "runtime.NumGoroutine") = false := by kernel_rfl
theorem codec_Equal.satS (self : Int → Int → Int → ByteArray → (List Nd) → Int → Int → Int → ByteArray → (List Nd) → Option (Bool)) (k : Nat) (hS : Sat Tryz.prog 47 (codec_Equal.ES self)) : Sat Tryz.prog 47 ⟨codec_Equal.A, codec_Equal.outs, fun x => codec_Equal.g self k x.2.1.1 x.2.1.2.1 x.2.1.2.2.1 x.2.1.2.2.2.1 x.2.1.2.2.2.2.1 x.2.2.1.1 x.2.2.1.2.1 x.2.2.1.2.2.1 x.2.2.1.2.2.2.1 x.2.2.1.2.2.2.2.1⟩ :=
  have hC : ∀ g l N, (codec_Equal.C self k).orc g l = some N → Sat Tryz.prog g N := satAll (satCons hS satNil)
  sat_of (C := codec_Equal.C self k) hC mixed codec_Equal.at codec_Equal.nm codec_Equal.bo (all_pieces rfl (locCons (loc_loop (A := codec_Equal.l58.A) (outs := codec_Equal.l58.outs) hC mixed (dstOk_zero _) (fun (q : Nat) (x : codec_Equal.l58.A.V) => codec_Equal.l58 self k q x.1.1.1 x.1.1.2.1 x.1.1.2.2.1 x.1.1.2.2.2.1 x.1.1.2.2.2.2.1 x.1.2.1.1 x.1.2.1.2.1 x.1.2.1.2.2.1 x.1.2.1.2.2.2.1 x.1.2.1.2.2.2.2.1 x.2.2.2.1 x.2.2.2.2.1) (fun _ => rfl) (codec_Equal.l58.ev self k) (ooC (fun _ => rfl) (ooC (fun _ => rfl) ooN)) rfl rfl k) locNil)) (codec_Equal.ev self k) (ooC (fun _ => rfl) ooN) (dstOk_zero _) (by decide) rfl
theorem codec_Equal.sat : ∀ k, Sat Tryz.prog 47 (codec_Equal.E k)
  | 0 => sat_none codec_Equal.at codec_Equal.nm codec_Equal.bo (fun _ => rfl)
  | k + 1 => codec_Equal.satS (codec_Equal.f k) k (codec_Equal.sat k)

/-! ### resume_Decode: function 17 (examboard/resume.Decode) -/
abbrev resume_Decode.A : Sig := ⟨1, [], (.nilL), [0], (.cons (.agg (.cons (.v (.int .i64)) (.cons (.v (.int .i64)) (.cons (.v (.int .i64)) (.cons (.v .str) (.cons (.v (.sl .node)) .nilL)))))) .nilL)⟩
abbrev resume_Decode.R0 : Sig := ⟨1, [], (.nilL), [0], (.cons (.tup (.cons (.agg (.cons (.v (.int .i64)) (.cons (.v (.int .i64)) (.cons (.v (.int .i64)) (.cons (.v (.sl (.int .i64))) (.cons (.v (.int .i64)) (.cons (.v .str) (.cons (.v .bool) (.cons (.v (.int .i64)) (.cons (.v (.int .i64)) (.cons (.v (.int .i64)) (.cons (.v (.int .i64)) .nilL)))))))))))) (.cons (.v (.int .i64)) .nilL))) .nilL)⟩
abbrev resume_Decode.outs : List Out := [⟨.ret, resume_Decode.R0, Int × Int × Int × List Int × Int × ByteArray × Bool × Int × Int × Int × Int × Int, fun y => ((), (((y.1, y.2.1, y.2.2.1, y.2.2.2.1, y.2.2.2.2.1, y.2.2.2.2.2.1, y.2.2.2.2.2.2.1, y.2.2.2.2.2.2.2.1, y.2.2.2.2.2.2.2.2.1, y.2.2.2.2.2.2.2.2.2.1, y.2.2.2.2.2.2.2.2.2.2.1, ()), y.2.2.2.2.2.2.2.2.2.2.2, ()), ())), fun x => (x.2.1.1.1, x.2.1.1.2.1, x.2.1.1.2.2.1, x.2.1.1.2.2.2.1, x.2.1.1.2.2.2.2.1, x.2.1.1.2.2.2.2.2.1, x.2.1.1.2.2.2.2.2.2.1, x.2.1.1.2.2.2.2.2.2.2.1, x.2.1.1.2.2.2.2.2.2.2.2.1, x.2.1.1.2.2.2.2.2.2.2.2.2.1, x.2.1.1.2.2.2.2.2.2.2.2.2.2.1, x.2.1.2.1)⟩]
def resume_Decode.f (k : Nat) (a0 : Int) (a1 : Int) (a2 : Int) (a3 : ByteArray) (a4 : List Nd) : Option (Int × Int × Int × List Int × Int × ByteArray × Bool × Int × Int × Int × Int × Int) :=
  (resume_guess.f k a0 a1 a2 a3 a4).bind fun y1 =>
  (resume_Encode.f k y1.1 y1.2.1 y1.2.2.1 y1.2.2.2.1 y1.2.2.2.2.1 y1.2.2.2.2.2.1 y1.2.2.2.2.2.2.1 y1.2.2.2.2.2.2.2.1 y1.2.2.2.2.2.2.2.2.1 y1.2.2.2.2.2.2.2.2.2.1 y1.2.2.2.2.2.2.2.2.2.2).bind fun y2 =>
  Option.bind (cond (y2.2.2.2.2.2 != 0)
    (some true)
    ((codec_Equal.f k a0 a1 a2 a3 a4 y2.1 y2.2.1 y2.2.2.1 y2.2.2.2.1 y2.2.2.2.2.1).bind fun y3 =>
      some (!y3))) fun (c4 : Bool) =>
  cond c4
  (some (0, 0, 0, ([] : List Int), 0, (⟨#[]⟩ : ByteArray), false, 0, 0, 0, 0, 2))
  (some (y1.1, y1.2.1, y1.2.2.1, y1.2.2.2.1, y1.2.2.2.2.1, y1.2.2.2.2.2.1, y1.2.2.2.2.2.2.1, y1.2.2.2.2.2.2.2.1, y1.2.2.2.2.2.2.2.2.1, y1.2.2.2.2.2.2.2.2.2.1, y1.2.2.2.2.2.2.2.2.2.2, 0))
abbrev resume_Decode.E (k : Nat) : Ent := ⟨resume_Decode.A, resume_Decode.outs, fun x => resume_Decode.f k x.2.1.1 x.2.1.2.1 x.2.1.2.2.1 x.2.1.2.2.2.1 x.2.1.2.2.2.2.1⟩
noncomputable abbrev resume_Decode.C (k : Nat) : Cfg := ⟨Tryz.prog, shs, look2 [(47, [], codec_Equal.E k), (12, [], resume_Encode.E k), (46, [], resume_guess.E k)], look []⟩
theorem resume_Decode.ev (k : Nat) (x : resume_Decode.A.V) : evF (resume_Decode.C k) Tryz.f17 resume_Decode.A resume_Decode.outs x = resume_Decode.f k x.2.1.1 x.2.1.2.1 x.2.1.2.2.1 x.2.1.2.2.2.1 x.2.1.2.2.2.2.1 := by kernel_rfl
theorem resume_Decode.at : Tryz.prog.funcs[17]? = some Tryz.f17 := by kernel_rfl
theorem resume_Decode.bo : Tryz.f17.body = some (bodyOf (Tryz.f17)) := by kernel_rfl
theorem resume_Decode.nm : (Tryz.f17.name == "runtime.NumGoroutine") = false := by kernel_rfl
theorem resume_Decode.sat (k : Nat) : Sat Tryz.prog 17 (resume_Decode.E k) :=
  have hC : ∀ g l N, (resume_Decode.C k).orc g l = some N → Sat Tryz.prog g N := satAll (satCons (codec_Equal.sat k) (satCons (resume_Encode.sat k) (satCons (resume_guess.sat k) satNil)))
  sat_of (C := resume_Decode.C k) hC mixed resume_Decode.at resume_Decode.nm resume_Decode.bo (all_pieces rfl locNil) (resume_Decode.ev k) (ooC (fun _ => rfl) ooN) (dstOk_zero _) (by decide) rfl

/-! ### resume_entry: function 18 (examboard/resume.entry) -/
abbrev resume_entry.A : Sig := ⟨1, [], (.nilL), [0], (.cons (.agg (.cons (.v (.int .i64)) (.cons (.v (.int .i64)) (.cons (.v (.int .i64)) (.cons (.v .str) (.cons (.v (.sl .node)) .nilL)))))) .nilL)⟩
abbrev resume_entry.R0 : Sig := ⟨1, [], (.nilL), [0], (.cons (.v (.int .i64)) .nilL)⟩
abbrev resume_entry.outs : List Out := [⟨.ret, resume_entry.R0, Int, fun y => ((), (y, ())), fun x => x.2.1⟩]
def resume_entry.f (k : Nat) (a0 : Int) (a1 : Int) (a2 : Int) (a3 : ByteArray) (a4 : List Nd) : Option (Int) :=
  (codec_Encode.f k a0 a1 a2 a3 a4).bind fun y1 =>
  some (IntKind.wrap .i64 ((IntKind.wrap .i64 (4 + (y1.1.length : Int))) + 8))
abbrev resume_entry.E (k : Nat) : Ent := ⟨resume_entry.A, resume_entry.outs, fun x => resume_entry.f k x.2.1.1 x.2.1.2.1 x.2.1.2.2.1 x.2.1.2.2.2.1 x.2.1.2.2.2.2.1⟩
noncomputable abbrev resume_entry.C (k : Nat) : Cfg := ⟨Tryz.prog, shs, look2 [(33, [], codec_Encode.E k)], look []⟩
theorem resume_entry.ev (k : Nat) (x : resume_entry.A.V) : evF (resume_entry.C k) Tryz.f18 resume_entry.A resume_entry.outs x = resume_entry.f k x.2.1.1 x.2.1.2.1 x.2.1.2.2.1 x.2.1.2.2.2.1 x.2.1.2.2.2.2.1 := by kernel_rfl
theorem resume_entry.at : Tryz.prog.funcs[18]? = some Tryz.f18 := by kernel_rfl
theorem resume_entry.bo : Tryz.f18.body = some (bodyOf (Tryz.f18)) := by kernel_rfl
theorem resume_entry.nm : (Tryz.f18.name == "runtime.NumGoroutine") = false := by kernel_rfl
theorem resume_entry.sat (k : Nat) : Sat Tryz.prog 18 (resume_entry.E k) :=
  have hC : ∀ g l N, (resume_entry.C k).orc g l = some N → Sat Tryz.prog g N := satAll (satCons (codec_Encode.sat k) satNil)
  sat_of (C := resume_entry.C k) hC mixed resume_entry.at resume_entry.nm resume_entry.bo (all_pieces rfl locNil) (resume_entry.ev k) (ooC (fun _ => rfl) ooN) (dstOk_zero _) (by decide) rfl

/-! ### resume_Events: function 7 (examboard/resume.Events) -/
abbrev resume_Events.A : Sig := ⟨1, [], (.nilL), [0], (.cons (.v (.sl (.int .u8))) .nilL)⟩
abbrev resume_Events.R0 : Sig := ⟨1, [], (.nilL), [0], (.cons (.tup (.cons (.v (.sl (.pr (.int .i64) (.pr (.int .i64) (.pr (.pr (.int .i64) (.pr (.sl (.int .i64)) (.pr (.int .i64) (.pr .str .bool)))) (.pr (.int .i64) (.pr (.int .i64) (.pr (.int .i64) (.int .i64))))))))) (.cons (.v (.int .i64)) (.cons (.v (.int .i64)) .nilL)))) .nilL)⟩
abbrev resume_Events.outs : List Out := [⟨.ret, resume_Events.R0, (List (Int × Int × (Int × List Int × Int × ByteArray × Bool) × Int × Int × Int × Int)) × Int × Int, fun y => ((), ((y.1, y.2.1, y.2.2, ()), ())), fun x => (x.2.1.1, x.2.1.2.1, x.2.1.2.2.1)⟩]
abbrev resume_Events.l250.A : Sig := ⟨47, [.slot 8], (.cons (.orow 29 (.pr (.int .i64) (.pr (.int .i64) (.pr (.pr (.int .i64) (.pr (.sl (.int .i64)) (.pr (.int .i64) (.pr .str .bool)))) (.pr (.int .i64) (.pr (.int .i64) (.pr (.int .i64) (.int .i64)))))))) .nilL), [6, 7, 8, 9, 20, 21, 22], (.cons (.v (.int .i64)) (.cons (.v (.int .i64)) (.cons (.rowr 0) (.cons (.v (.int .i64)) (.cons (.v (.sl .node)) (.cons (.v (.int .i64)) (.cons (.v (.int .i64)) .nilL)))))))⟩
abbrev resume_Events.l250.R0 : Sig := ⟨47, [.slot 8], (.cons (.orow 29 (.pr (.int .i64) (.pr (.int .i64) (.pr (.pr (.int .i64) (.pr (.sl (.int .i64)) (.pr (.int .i64) (.pr .str .bool)))) (.pr (.int .i64) (.pr (.int .i64) (.pr (.int .i64) (.int .i64)))))))) .nilL), [6, 7, 8], (.cons (.v (.int .i64)) (.cons (.v (.int .i64)) (.cons (.rowr 0) .nilL)))⟩
abbrev resume_Events.l250.R1 : Sig := ⟨47, [.slot 2], (.cons (.orow 29 (.pr (.int .i64) (.pr (.int .i64) (.pr (.pr (.int .i64) (.pr (.sl (.int .i64)) (.pr (.int .i64) (.pr .str .bool)))) (.pr (.int .i64) (.pr (.int .i64) (.pr (.int .i64) (.int .i64)))))))) .nilL), [2, 3, 4], (.cons (.rowr 0) (.cons (.v (.int .i64)) (.cons (.v (.int .i64)) .nilL)))⟩
abbrev resume_Events.l250.outs : List Out := [⟨(.exit 0), resume_Events.l250.R0, (List (Int × Int × (Int × List Int × Int × ByteArray × Bool) × Int × Int × Int × Int)) × Int × Int, fun y => ((y.1, ()), (y.2.1, y.2.2, (), ())), fun x => (x.1.1, x.2.1, x.2.2.1)⟩, ⟨.ret, resume_Events.l250.R1, (List (Int × Int × (Int × List Int × Int × ByteArray × Bool) × Int × Int × Int × Int)) × Int × Int, fun y => ((y.1, ()), ((), y.2.1, y.2.2, ())), fun x => (x.1.1, x.2.2.1, x.2.2.2.1)⟩]
def resume_Events.l250 (k : Nat) : Nat → (List (Int × Int × (Int × List Int × Int × ByteArray × Bool) × Int × Int × Int × Int)) → Int → Int → Int → (List Nd) → Int → Int → Option (((List (Int × Int × (Int × List Int × Int × ByteArray × Bool) × Int × Int × Int × Int)) × Int × Int) ⊕ ((List (Int × Int × (Int × List Int × Int × ByteArray × Bool) × Int × Int × Int × Int)) × Int × Int))
  | 0, _, _, _, _, _, _, _ => none
  | q + 1, x0, x1, x2, x3, x4, x5, x6 =>
    cond (decide (x6 < x5))
    (cond (inB x6 x4.length)
      ((resume_Decode.f k ((rdL .node x4 x6).tag) ((rdL .node x4 x6).kind) ((rdL .node x4 x6).n) ((rdL .node x4 x6).s) ((rdL .node x4 x6).kids)).bind fun y4 =>
        cond (y4.2.2.2.2.2.2.2.2.2.2.2 != 0)
        (some (.inr (x0, x3, 2)))
        (cond (fits (x0.length + 1) 112)
          ((resume_entry.f k ((rdL .node x4 x6).tag) ((rdL .node x4 x6).kind) ((rdL .node x4 x6).n) ((rdL .node x4 x6).s) ((rdL .node x4 x6).kids)).bind fun y5 =>
            resume_Events.l250 k q (x0 ++ [(y4.1, y4.2.1, (y4.2.2.1, y4.2.2.2.1, y4.2.2.2.2.1, y4.2.2.2.2.2.1, y4.2.2.2.2.2.2.1), y4.2.2.2.2.2.2.2.1, y4.2.2.2.2.2.2.2.2.1, y4.2.2.2.2.2.2.2.2.2.1, y4.2.2.2.2.2.2.2.2.2.2.1)]) x1 x2 (IntKind.wrap .i64 (x3 + y5)) x4 x5 (IntKind.wrap .i64 (x6 + 1)))
          (none)))
      (none))
    (some (.inl (x0, x1, x2)))
abbrev resume_Events.l250.pc (k : Nat) : Pc := ⟨resume_Events.l250.A, resume_Events.l250.outs, fun x => resume_Events.l250 k k x.1.1 x.2.1 x.2.2.1 x.2.2.2.2.1 x.2.2.2.2.2.1 x.2.2.2.2.2.2.1 x.2.2.2.2.2.2.2.1⟩
def resume_Events.f (k : Nat) (a0 : List Int) : Option ((List (Int × Int × (Int × List Int × Int × ByteArray × Bool) × Int × Int × Int × Int)) × Int × Int) :=
  (journal_Read.f k a0).bind fun y1 =>
  (resume_Events.l250 k k ([] : List (Int × Int × (Int × List Int × Int × ByteArray × Bool) × Int × Int × Int × Int)) y1.2.1 y1.2.2 0 y1.1 (y1.1.length : Int) 0).bind fun y6 =>
  Sum.casesOn (motive := fun _ => Option _) y6 (fun u7 =>
  some (u7.1, u7.2.1, u7.2.2))
  (fun v8 =>
  some (v8.1, v8.2.1, v8.2.2))
abbrev resume_Events.E (k : Nat) : Ent := ⟨resume_Events.A, resume_Events.outs, fun x => resume_Events.f k x.2.1⟩
noncomputable abbrev resume_Events.C (k : Nat) : Cfg := ⟨Tryz.prog, shs, look2 [(16, [], journal_Read.E k), (17, [], resume_Decode.E k), (18, [], resume_entry.E k)], look [(250, resume_Events.l250.pc k)]⟩
theorem resume_Events.l250.ev (k q : Nat) (x : resume_Events.l250.A.V) : ((codeAt 60 (bodyOf (Tryz.f7)) 250).bind fun c => (loopOf c).bind fun c1 => evL (resume_Events.C k) c1 250 resume_Events.l250.A resume_Events.l250.outs (fun x => resume_Events.l250 k q x.1.1 x.2.1 x.2.2.1 x.2.2.2.2.1 x.2.2.2.2.2.1 x.2.2.2.2.2.2.1 x.2.2.2.2.2.2.2.1) x) = resume_Events.l250 k (q + 1) x.1.1 x.2.1 x.2.2.1 x.2.2.2.2.1 x.2.2.2.2.2.1 x.2.2.2.2.2.2.1 x.2.2.2.2.2.2.2.1 := by kernel_rfl
theorem resume_Events.ev (k : Nat) (x : resume_Events.A.V) : evF (resume_Events.C k) Tryz.f7 resume_Events.A resume_Events.outs x = resume_Events.f k x.2.1 := by kernel_rfl
theorem resume_Events.at : Tryz.prog.funcs[7]? = some Tryz.f7 := by kernel_rfl
theorem resume_Events.bo : Tryz.f7.body = some (bodyOf (Tryz.f7)) := by kernel_rfl
theorem resume_Events.nm : (Tryz.f7.name == "runtime.NumGoroutine") = false := by kernel_rfl
theorem resume_Events.sat (k : Nat) : Sat Tryz.prog 7 (resume_Events.E k) :=
  have hC : ∀ g l N, (resume_Events.C k).orc g l = some N → Sat Tryz.prog g N := satAll (satCons (journal_Read.sat k) (satCons (resume_Decode.sat k) (satCons (resume_entry.sat k) satNil)))
  sat_of (C := resume_Events.C k) hC mixed resume_Events.at resume_Events.nm resume_Events.bo (all_pieces rfl (locCons (loc_loop (A := resume_Events.l250.A) (outs := resume_Events.l250.outs) hC mixed (dstOk_zero _) (fun (q : Nat) (x : resume_Events.l250.A.V) => resume_Events.l250 k q x.1.1 x.2.1 x.2.2.1 x.2.2.2.2.1 x.2.2.2.2.2.1 x.2.2.2.2.2.2.1 x.2.2.2.2.2.2.2.1) (fun _ => rfl) (resume_Events.l250.ev k) (ooC (fun _ => rfl) (ooC (fun _ => rfl) ooN)) rfl rfl k) locNil)) (resume_Events.ev k) (ooC (fun _ => rfl) ooN) (dstOk_zero _) (by decide) rfl

/-! ### ref49_Read: function 19 (examboard/examboardref49.Read) -/
abbrev ref49_Read.A : Sig := ⟨1, [], (.nilL), [0], (.cons (.v (.sl (.int .u8))) .nilL)⟩
abbrev ref49_Read.R0 : Sig := ⟨1, [], (.nilL), [0], (.cons (.tup (.cons (.v (.sl .node)) (.cons (.v (.int .i64)) (.cons (.v (.int .i64)) .nilL)))) .nilL)⟩
abbrev ref49_Read.outs : List Out := [⟨.ret, ref49_Read.R0, List Nd × Int × Int, fun y => ((), ((y.1, y.2.1, y.2.2, ()), ())), fun x => (x.2.1.1, x.2.1.2.1, x.2.1.2.2.1)⟩]
def ref49_Read.f (k : Nat) (a0 : List Int) : Option (List Nd × Int × Int) :=
  (ref49_read.f k a0).bind fun y1 =>
  some (y1.1, y1.2.1, y1.2.2.2)
abbrev ref49_Read.E (k : Nat) : Ent := ⟨ref49_Read.A, ref49_Read.outs, fun x => ref49_Read.f k x.2.1⟩
noncomputable abbrev ref49_Read.C (k : Nat) : Cfg := ⟨Tryz.prog, shs, look2 [(41, [], ref49_read.E k)], look []⟩
theorem ref49_Read.ev (k : Nat) (x : ref49_Read.A.V) : evF (ref49_Read.C k) Tryz.f19 ref49_Read.A ref49_Read.outs x = ref49_Read.f k x.2.1 := by kernel_rfl
theorem ref49_Read.at : Tryz.prog.funcs[19]? = some Tryz.f19 := by kernel_rfl
theorem ref49_Read.bo : Tryz.f19.body = some (bodyOf (Tryz.f19)) := by kernel_rfl
theorem ref49_Read.nm : (Tryz.f19.name == "runtime.NumGoroutine") = false := by kernel_rfl
theorem ref49_Read.sat (k : Nat) : Sat Tryz.prog 19 (ref49_Read.E k) :=
  have hC : ∀ g l N, (ref49_Read.C k).orc g l = some N → Sat Tryz.prog g N := satAll (satCons (ref49_read.sat k) satNil)
  sat_of (C := ref49_Read.C k) hC mixed ref49_Read.at ref49_Read.nm ref49_Read.bo (all_pieces rfl locNil) (ref49_Read.ev k) (ooC (fun _ => rfl) ooN) (dstOk_zero _) (by decide) rfl

/-! ### ref52_integer: function 48 (examboard/examboardref52.integer) -/
abbrev ref52_integer.A : Sig := ⟨1, [], (.nilL), [0], (.cons (.agg (.cons (.v (.int .i64)) (.cons (.v (.int .i64)) (.cons (.v (.int .i64)) (.cons (.v .str) (.cons (.v (.sl .node)) .nilL)))))) .nilL)⟩
abbrev ref52_integer.R0 : Sig := ⟨1, [], (.nilL), [0], (.cons (.v (.int .i64)) .nilL)⟩
abbrev ref52_integer.outs : List Out := [⟨.ret, ref52_integer.R0, Int, fun y => ((), (y, ())), fun x => x.2.1⟩]
def ref52_integer.f (k : Nat) (a0 : Int) (a1 : Int) (a2 : Int) (a3 : ByteArray) (a4 : List Nd) : Option (Int) :=
  some a2
abbrev ref52_integer.E (k : Nat) : Ent := ⟨ref52_integer.A, ref52_integer.outs, fun x => ref52_integer.f k x.2.1.1 x.2.1.2.1 x.2.1.2.2.1 x.2.1.2.2.2.1 x.2.1.2.2.2.2.1⟩
noncomputable abbrev ref52_integer.C (k : Nat) : Cfg := ⟨Tryz.prog, shs, look2 [], look []⟩
theorem ref52_integer.ev (k : Nat) (x : ref52_integer.A.V) : evF (ref52_integer.C k) Tryz.f48 ref52_integer.A ref52_integer.outs x = ref52_integer.f k x.2.1.1 x.2.1.2.1 x.2.1.2.2.1 x.2.1.2.2.2.1 x.2.1.2.2.2.2.1 := by kernel_rfl
theorem ref52_integer.at : Tryz.prog.funcs[48]? = some Tryz.f48 := by kernel_rfl
theorem ref52_integer.bo : Tryz.f48.body = some (bodyOf (Tryz.f48)) := by kernel_rfl
theorem ref52_integer.nm : (Tryz.f48.name == "runtime.NumGoroutine") = false := by kernel_rfl
theorem ref52_integer.sat (k : Nat) : Sat Tryz.prog 48 (ref52_integer.E k) :=
  have hC : ∀ g l N, (ref52_integer.C k).orc g l = some N → Sat Tryz.prog g N := satAll satNil
  sat_of (C := ref52_integer.C k) hC mixed ref52_integer.at ref52_integer.nm ref52_integer.bo (all_pieces rfl locNil) (ref52_integer.ev k) (ooC (fun _ => rfl) ooN) (dstOk_zero _) (by decide) rfl

/-! ### ref10_Equal: function 49 (examboard/examboardref10.Equal) -/
abbrev ref10_Equal.A : Sig := ⟨2, [], (.nilL), [0, 1], (.cons (.agg (.cons (.v (.int .i64)) (.cons (.v (.int .i64)) (.cons (.v (.int .i64)) (.cons (.v .str) (.cons (.v (.sl .node)) .nilL)))))) (.cons (.agg (.cons (.v (.int .i64)) (.cons (.v (.int .i64)) (.cons (.v (.int .i64)) (.cons (.v .str) (.cons (.v (.sl .node)) .nilL)))))) .nilL))⟩
abbrev ref10_Equal.R0 : Sig := ⟨1, [], (.nilL), [0], (.cons (.v .bool) .nilL)⟩
abbrev ref10_Equal.outs : List Out := [⟨.ret, ref10_Equal.R0, Bool, fun y => ((), (y, ())), fun x => x.2.1⟩]
abbrev ref10_Equal.l58.A : Sig := ⟨60, [.slot 2, .slot 3], (.cons (.obox (.cons (.v (.int .i64)) (.cons (.v (.int .i64)) (.cons (.v (.int .i64)) (.cons (.v .str) (.cons (.v (.sl .node)) .nilL)))))) (.cons (.obox (.cons (.v (.int .i64)) (.cons (.v (.int .i64)) (.cons (.v (.int .i64)) (.cons (.v .str) (.cons (.v (.sl .node)) .nilL)))))) .nilL)), [2, 3, 5], (.cons (.boxr 0 0) (.cons (.boxr 1 0) (.cons (.v (.int .i64)) .nilL)))⟩
abbrev ref10_Equal.l58.R0 : Sig := ⟨60, [], (.nilL), [], (.nilL)⟩
abbrev ref10_Equal.l58.R1 : Sig := ⟨60, [], (.nilL), [4], (.cons (.v .bool) .nilL)⟩
abbrev ref10_Equal.l58.outs : List Out := [⟨(.exit 0), ref10_Equal.l58.R0, Unit, fun y => ((), ()), fun x => ()⟩, ⟨.ret, ref10_Equal.l58.R1, Bool, fun y => ((), (y, ())), fun x => x.2.1⟩]
def ref10_Equal.l58 (self : Int → Int → Int → ByteArray → (List Nd) → Int → Int → Int → ByteArray → (List Nd) → Option (Bool)) (k : Nat) : Nat → Int → Int → Int → ByteArray → (List Nd) → Int → Int → Int → ByteArray → (List Nd) → Int → Option ((Unit) ⊕ (Bool))
  | 0, _, _, _, _, _, _, _, _, _, _, _ => none
  | q + 1, x0, x1, x2, x3, x4, x5, x6, x7, x8, x9, x10 =>
    cond (decide (x10 < (x4.length : Int)))
    (cond (inB x10 x4.length)
      (cond (inB x10 x9.length)
        ((self ((rdL .node x4 x10).tag) ((rdL .node x4 x10).kind) ((rdL .node x4 x10).n) ((rdL .node x4 x10).s) ((rdL .node x4 x10).kids) ((rdL .node x9 x10).tag) ((rdL .node x9 x10).kind) ((rdL .node x9 x10).n) ((rdL .node x9 x10).s) ((rdL .node x9 x10).kids)).bind fun y6 =>
          cond (!y6)
          (some (.inr false))
          (ref10_Equal.l58 self k q x0 x1 x2 x3 x4 x5 x6 x7 x8 x9 (IntKind.wrap .i64 (x10 + 1))))
        (none))
      (none))
    (some (.inl ()))
abbrev ref10_Equal.l58.pc (self : Int → Int → Int → ByteArray → (List Nd) → Int → Int → Int → ByteArray → (List Nd) → Option (Bool)) (k : Nat) : Pc := ⟨ref10_Equal.l58.A, ref10_Equal.l58.outs, fun x => ref10_Equal.l58 self k k x.1.1.1 x.1.1.2.1 x.1.1.2.2.1 x.1.1.2.2.2.1 x.1.1.2.2.2.2.1 x.1.2.1.1 x.1.2.1.2.1 x.1.2.1.2.2.1 x.1.2.1.2.2.2.1 x.1.2.1.2.2.2.2.1 x.2.2.2.1⟩
def ref10_Equal.g (self : Int → Int → Int → ByteArray → (List Nd) → Int → Int → Int → ByteArray → (List Nd) → Option (Bool)) (k : Nat) (a0 : Int) (a1 : Int) (a2 : Int) (a3 : ByteArray) (a4 : List Nd) (a5 : Int) (a6 : Int) (a7 : Int) (a8 : ByteArray) (a9 : List Nd) : Option (Bool) :=
  Option.bind (cond (a0 != a5)
    (some true)
    (some (a1 != a6))) fun (c1 : Bool) =>
  Option.bind (cond c1
    (some true)
    (some (a2 != a7))) fun (c2 : Bool) =>
  Option.bind (cond c2
    (some true)
    (some (!(a3.toList == a8.toList)))) fun (c3 : Bool) =>
  Option.bind (cond c3
    (some true)
    (some ((a4.length : Int) != (a9.length : Int)))) fun (c4 : Bool) =>
  cond c4
  (some false)
  ((ref10_Equal.l58 self k k a0 a1 a2 a3 a4 a5 a6 a7 a8 a9 0).bind fun y7 =>
    Sum.casesOn (motive := fun _ => Option _) y7 (fun u8 =>
    some true)
    (fun v9 =>
    some v9))
def ref10_Equal.f : Nat → Int → Int → Int → ByteArray → (List Nd) → Int → Int → Int → ByteArray → (List Nd) → Option (Bool)
  | 0, _, _, _, _, _, _, _, _, _, _ => none
  | k + 1, a0, a1, a2, a3, a4, a5, a6, a7, a8, a9 => ref10_Equal.g (ref10_Equal.f k) k a0 a1 a2 a3 a4 a5 a6 a7 a8 a9
abbrev ref10_Equal.ES (self : Int → Int → Int → ByteArray → (List Nd) → Int → Int → Int → ByteArray → (List Nd) → Option (Bool)) : Ent := ⟨ref10_Equal.A, ref10_Equal.outs, fun x => self x.2.1.1 x.2.1.2.1 x.2.1.2.2.1 x.2.1.2.2.2.1 x.2.1.2.2.2.2.1 x.2.2.1.1 x.2.2.1.2.1 x.2.2.1.2.2.1 x.2.2.1.2.2.2.1 x.2.2.1.2.2.2.2.1⟩
abbrev ref10_Equal.E (k : Nat) : Ent := ⟨ref10_Equal.A, ref10_Equal.outs, fun x => ref10_Equal.f k x.2.1.1 x.2.1.2.1 x.2.1.2.2.1 x.2.1.2.2.2.1 x.2.1.2.2.2.2.1 x.2.2.1.1 x.2.2.1.2.1 x.2.2.1.2.2.1 x.2.2.1.2.2.2.1 x.2.2.1.2.2.2.2.1⟩
noncomputable abbrev ref10_Equal.C (self : Int → Int → Int → ByteArray → (List Nd) → Int → Int → Int → ByteArray → (List Nd) → Option (Bool)) (k : Nat) : Cfg := ⟨Tryz.prog, shs, look2 [(49, [], ref10_Equal.ES self)], look [(58, ref10_Equal.l58.pc self k)]⟩
theorem ref10_Equal.l58.ev (self : Int → Int → Int → ByteArray → (List Nd) → Int → Int → Int → ByteArray → (List Nd) → Option (Bool)) (k q : Nat) (x : ref10_Equal.l58.A.V) : ((codeAt 60 (bodyOf (Tryz.f49)) 58).bind fun c => (loopOf c).bind fun c1 => evL (ref10_Equal.C self k) c1 58 ref10_Equal.l58.A ref10_Equal.l58.outs (fun x => ref10_Equal.l58 self k q x.1.1.1 x.1.1.2.1 x.1.1.2.2.1 x.1.1.2.2.2.1 x.1.1.2.2.2.2.1 x.1.2.1.1 x.1.2.1.2.1 x.1.2.1.2.2.1 x.1.2.1.2.2.2.1 x.1.2.1.2.2.2.2.1 x.2.2.2.1) x) = ref10_Equal.l58 self k (q + 1) x.1.1.1 x.1.1.2.1 x.1.1.2.2.1 x.1.1.2.2.2.1 x.1.1.2.2.2.2.1 x.1.2.1.1 x.1.2.1.2.1 x.1.2.1.2.2.1 x.1.2.1.2.2.2.1 x.1.2.1.2.2.2.2.1 x.2.2.2.1 := by kernel_rfl
theorem ref10_Equal.ev (self : Int → Int → Int → ByteArray → (List Nd) → Int → Int → Int → ByteArray → (List Nd) → Option (Bool)) (k : Nat) (x : ref10_Equal.A.V) : evF (ref10_Equal.C self k) Tryz.f49 ref10_Equal.A ref10_Equal.outs x = ref10_Equal.g self k x.2.1.1 x.2.1.2.1 x.2.1.2.2.1 x.2.1.2.2.2.1 x.2.1.2.2.2.2.1 x.2.2.1.1 x.2.2.1.2.1 x.2.2.1.2.2.1 x.2.2.1.2.2.2.1 x.2.2.1.2.2.2.2.1 := by kernel_rfl
theorem ref10_Equal.at : Tryz.prog.funcs[49]? = some Tryz.f49 := by kernel_rfl
theorem ref10_Equal.bo : Tryz.f49.body = some (bodyOf (Tryz.f49)) := by kernel_rfl
theorem ref10_Equal.nm : (Tryz.f49.name == "runtime.NumGoroutine") = false := by kernel_rfl
theorem ref10_Equal.satS (self : Int → Int → Int → ByteArray → (List Nd) → Int → Int → Int → ByteArray → (List Nd) → Option (Bool)) (k : Nat) (hS : Sat Tryz.prog 49 (ref10_Equal.ES self)) : Sat Tryz.prog 49 ⟨ref10_Equal.A, ref10_Equal.outs, fun x => ref10_Equal.g self k x.2.1.1 x.2.1.2.1 x.2.1.2.2.1 x.2.1.2.2.2.1 x.2.1.2.2.2.2.1 x.2.2.1.1 x.2.2.1.2.1 x.2.2.1.2.2.1 x.2.2.1.2.2.2.1 x.2.2.1.2.2.2.2.1⟩ :=
  have hC : ∀ g l N, (ref10_Equal.C self k).orc g l = some N → Sat Tryz.prog g N := satAll (satCons hS satNil)
  sat_of (C := ref10_Equal.C self k) hC mixed ref10_Equal.at ref10_Equal.nm ref10_Equal.bo (all_pieces rfl (locCons (loc_loop (A := ref10_Equal.l58.A) (outs := ref10_Equal.l58.outs) hC mixed (dstOk_zero _) (fun (q : Nat) (x : ref10_Equal.l58.A.V) => ref10_Equal.l58 self k q x.1.1.1 x.1.1.2.1 x.1.1.2.2.1 x.1.1.2.2.2.1 x.1.1.2.2.2.2.1 x.1.2.1.1 x.1.2.1.2.1 x.1.2.1.2.2.1 x.1.2.1.2.2.2.1 x.1.2.1.2.2.2.2.1 x.2.2.2.1) (fun _ => rfl) (ref10_Equal.l58.ev self k) (ooC (fun _ => rfl) (ooC (fun _ => rfl) ooN)) rfl rfl k) locNil)) (ref10_Equal.ev self k) (ooC (fun _ => rfl) ooN) (dstOk_zero _) (by decide) rfl
theorem ref10_Equal.sat : ∀ k, Sat Tryz.prog 49 (ref10_Equal.E k)
  | 0 => sat_none ref10_Equal.at ref10_Equal.nm ref10_Equal.bo (fun _ => rfl)
  | k + 1 => ref10_Equal.satS (ref10_Equal.f k) k (ref10_Equal.sat k)

/-! ### ref52_Decode: function 20 (examboard/examboardref52.Decode) -/
abbrev ref52_Decode.A : Sig := ⟨1, [], (.nilL), [0], (.cons (.agg (.cons (.v (.int .i64)) (.cons (.v (.int .i64)) (.cons (.v (.int .i64)) (.cons (.v .str) (.cons (.v (.sl .node)) .nilL)))))) .nilL)⟩
abbrev ref52_Decode.R0 : Sig := ⟨1, [], (.nilL), [0], (.cons (.tup (.cons (.agg (.cons (.v (.int .i64)) (.cons (.v (.int .i64)) (.cons (.v (.int .i64)) (.cons (.v (.sl (.int .i64))) (.cons (.v (.int .i64)) (.cons (.v .str) (.cons (.v .bool) (.cons (.v (.int .i64)) (.cons (.v (.int .i64)) (.cons (.v (.int .i64)) (.cons (.v (.int .i64)) .nilL)))))))))))) (.cons (.v (.int .i64)) .nilL))) .nilL)⟩
abbrev ref52_Decode.outs : List Out := [⟨.ret, ref52_Decode.R0, Int × Int × Int × List Int × Int × ByteArray × Bool × Int × Int × Int × Int × Int, fun y => ((), (((y.1, y.2.1, y.2.2.1, y.2.2.2.1, y.2.2.2.2.1, y.2.2.2.2.2.1, y.2.2.2.2.2.2.1, y.2.2.2.2.2.2.2.1, y.2.2.2.2.2.2.2.2.1, y.2.2.2.2.2.2.2.2.2.1, y.2.2.2.2.2.2.2.2.2.2.1, ()), y.2.2.2.2.2.2.2.2.2.2.2, ()), ())), fun x => (x.2.1.1.1, x.2.1.1.2.1, x.2.1.1.2.2.1, x.2.1.1.2.2.2.1, x.2.1.1.2.2.2.2.1, x.2.1.1.2.2.2.2.2.1, x.2.1.1.2.2.2.2.2.2.1, x.2.1.1.2.2.2.2.2.2.2.1, x.2.1.1.2.2.2.2.2.2.2.2.1, x.2.1.1.2.2.2.2.2.2.2.2.2.1, x.2.1.1.2.2.2.2.2.2.2.2.2.2.1, x.2.1.2.1)⟩]
abbrev ref52_Decode.l2006.A : Sig := ⟨114, [.slot 1, .slot 2, .cell 1 3, .slot 5, .cell 3 3], (.cons (.obox (.cons (.v (.int .i64)) (.cons (.v (.int .i64)) (.cons (.v (.int .i64)) (.cons (.v .str) (.cons (.v (.sl .node)) .nilL)))))) (.cons (.obox (.cons (.v (.int .i64)) (.cons (.v (.int .i64)) (.cons (.v (.int .i64)) (.cons (.rowr 2) (.cons (.v (.int .i64)) (.cons (.v .str) (.cons (.v .bool) (.cons (.v (.int .i64)) (.cons (.v (.int .i64)) (.cons (.v (.int .i64)) (.cons (.v (.int .i64)) .nilL)))))))))))) (.cons (.orow 3 (.int .i64)) (.cons (.obox (.cons (.v (.int .i64)) (.cons (.v (.int .i64)) (.cons (.v (.int .i64)) (.cons (.rowr 4) (.cons (.v (.int .i64)) (.cons (.v .str) (.cons (.v .bool) (.cons (.v (.int .i64)) (.cons (.v (.int .i64)) (.cons (.v (.int .i64)) (.cons (.v (.int .i64)) .nilL)))))))))))) (.cons (.orow 3 (.int .i64)) .nilL))))), [1, 2, 5, 4, 6], (.cons (.boxr 0 0) (.cons (.boxr 1 0) (.cons (.boxr 3 0) (.cons (.v (.sl .node)) (.cons (.v (.int .i64)) .nilL)))))⟩
abbrev ref52_Decode.l2006.R0 : Sig := ⟨114, [.slot 1, .slot 2, .cell 1 3, .slot 5, .cell 3 3], (.cons (.obox (.cons (.v (.int .i64)) (.cons (.v (.int .i64)) (.cons (.v (.int .i64)) (.cons (.v .str) (.cons (.v (.sl .node)) .nilL)))))) (.cons (.obox (.cons (.v (.int .i64)) (.cons (.v (.int .i64)) (.cons (.v (.int .i64)) (.cons (.rowr 2) (.cons (.v (.int .i64)) (.cons (.v .str) (.cons (.v .bool) (.cons (.v (.int .i64)) (.cons (.v (.int .i64)) (.cons (.v (.int .i64)) (.cons (.v (.int .i64)) .nilL)))))))))))) (.cons (.orow 3 (.int .i64)) (.cons (.obox (.cons (.v (.int .i64)) (.cons (.v (.int .i64)) (.cons (.v (.int .i64)) (.cons (.rowr 4) (.cons (.v (.int .i64)) (.cons (.v .str) (.cons (.v .bool) (.cons (.v (.int .i64)) (.cons (.v (.int .i64)) (.cons (.v (.int .i64)) (.cons (.v (.int .i64)) .nilL)))))))))))) (.cons (.orow 3 (.int .i64)) .nilL))))), [1, 2, 5, 4], (.cons (.boxr 0 0) (.cons (.boxr 1 0) (.cons (.boxr 3 0) (.cons (.v (.sl .node)) .nilL))))⟩
abbrev ref52_Decode.l2006.outs : List Out := [⟨(.exit 0), ref52_Decode.l2006.R0, Int × Int × Int × ByteArray × List Nd × Int × Int × Int × Int × ByteArray × Bool × Int × Int × Int × Int × List Int × Int × Int × Int × Int × ByteArray × Bool × Int × Int × Int × Int × List Int × List Nd, fun y => (((y.1, y.2.1, y.2.2.1, y.2.2.2.1, y.2.2.2.2.1, ()), (y.2.2.2.2.2.1, y.2.2.2.2.2.2.1, y.2.2.2.2.2.2.2.1, (), y.2.2.2.2.2.2.2.2.1, y.2.2.2.2.2.2.2.2.2.1, y.2.2.2.2.2.2.2.2.2.2.1, y.2.2.2.2.2.2.2.2.2.2.2.1, y.2.2.2.2.2.2.2.2.2.2.2.2.1, y.2.2.2.2.2.2.2.2.2.2.2.2.2.1, y.2.2.2.2.2.2.2.2.2.2.2.2.2.2.1, ()), y.2.2.2.2.2.2.2.2.2.2.2.2.2.2.2.1, (y.2.2.2.2.2.2.2.2.2.2.2.2.2.2.2.2.1, y.2.2.2.2.2.2.2.2.2.2.2.2.2.2.2.2.2.1, y.2.2.2.2.2.2.2.2.2.2.2.2.2.2.2.2.2.2.1, (), y.2.2.2.2.2.2.2.2.2.2.2.2.2.2.2.2.2.2.2.1, y.2.2.2.2.2.2.2.2.2.2.2.2.2.2.2.2.2.2.2.2.1, y.2.2.2.2.2.2.2.2.2.2.2.2.2.2.2.2.2.2.2.2.2.1, y.2.2.2.2.2.2.2.2.2.2.2.2.2.2.2.2.2.2.2.2.2.2.1, y.2.2.2.2.2.2.2.2.2.2.2.2.2.2.2.2.2.2.2.2.2.2.2.1, y.2.2.2.2.2.2.2.2.2.2.2.2.2.2.2.2.2.2.2.2.2.2.2.2.1, y.2.2.2.2.2.2.2.2.2.2.2.2.2.2.2.2.2.2.2.2.2.2.2.2.2.1, ()), y.2.2.2.2.2.2.2.2.2.2.2.2.2.2.2.2.2.2.2.2.2.2.2.2.2.2.1, ()), ((), (), (), y.2.2.2.2.2.2.2.2.2.2.2.2.2.2.2.2.2.2.2.2.2.2.2.2.2.2.2, ())), fun x => (x.1.1.1, x.1.1.2.1, x.1.1.2.2.1, x.1.1.2.2.2.1, x.1.1.2.2.2.2.1, x.1.2.1.1, x.1.2.1.2.1, x.1.2.1.2.2.1, x.1.2.1.2.2.2.2.1, x.1.2.1.2.2.2.2.2.1, x.1.2.1.2.2.2.2.2.2.1, x.1.2.1.2.2.2.2.2.2.2.1, x.1.2.1.2.2.2.2.2.2.2.2.1, x.1.2.1.2.2.2.2.2.2.2.2.2.1, x.1.2.1.2.2.2.2.2.2.2.2.2.2.1, x.1.2.2.1, x.1.2.2.2.1.1, x.1.2.2.2.1.2.1, x.1.2.2.2.1.2.2.1, x.1.2.2.2.1.2.2.2.2.1, x.1.2.2.2.1.2.2.2.2.2.1, x.1.2.2.2.1.2.2.2.2.2.2.1, x.1.2.2.2.1.2.2.2.2.2.2.2.1, x.1.2.2.2.1.2.2.2.2.2.2.2.2.1, x.1.2.2.2.1.2.2.2.2.2.2.2.2.2.1, x.1.2.2.2.1.2.2.2.2.2.2.2.2.2.2.1, x.1.2.2.2.2.1, x.2.2.2.2.1)⟩]
def ref52_Decode.l2006 (k : Nat) : Nat → Int → Int → Int → ByteArray → (List Nd) → Int → Int → Int → Int → ByteArray → Bool → Int → Int → Int → Int → (List Int) → Int → Int → Int → Int → ByteArray → Bool → Int → Int → Int → Int → (List Int) → (List Nd) → Int → Option (Int × Int × Int × ByteArray × List Nd × Int × Int × Int × Int × ByteArray × Bool × Int × Int × Int × Int × List Int × Int × Int × Int × Int × ByteArray × Bool × Int × Int × Int × Int × List Int × List Nd)
  | 0, _, _, _, _, _, _, _, _, _, _, _, _, _, _, _, _, _, _, _, _, _, _, _, _, _, _, _, _, _ => none
  | q + 1, x0, x1, x2, x3, x4, x5, x6, x7, x8, x9, x10, x11, x12, x13, x14, x15, x16, x17, x18, x19, x20, x21, x22, x23, x24, x25, x26, x27, x28 =>
    cond (inB 3 x27.length)
    (cond (decide (x28 < (((rdL .node x27 3).kids).length : Int)))
      (cond (inB 3 x27.length)
        (cond (inB x28 ((rdL .node x27 3).kids).length)
          ((ref52_integer.f k ((rdL .node ((rdL .node x27 3).kids) x28).tag) ((rdL .node ((rdL .node x27 3).kids) x28).kind) ((rdL .node ((rdL .node x27 3).kids) x28).n) ((rdL .node ((rdL .node x27 3).kids) x28).s) ((rdL .node ((rdL .node x27 3).kids) x28).kids)).bind fun y7 =>
            cond (fits (x26.length + 1) 8)
            (ref52_Decode.l2006 k q x0 x1 x2 x3 x4 x5 x6 x7 x8 x9 x10 x11 x12 x13 x14 x15 x16 x17 x18 x19 x20 x21 x22 x23 x24 x25 (x26 ++ [y7]) x27 (IntKind.wrap .i64 (x28 + 1)))
            (none))
          (none))
        (none))
      (some (x0, x1, x2, x3, x4, x5, x6, x7, x8, x9, x10, x11, x12, x13, x14, x15, x16, x17, x18, x19, x20, x21, x22, x23, x24, x25, x26, x27)))
    (none)
abbrev ref52_Decode.l2006.pc (k : Nat) : Pc := ⟨ref52_Decode.l2006.A, ref52_Decode.l2006.outs, fun x => ref52_Decode.l2006 k k x.1.1.1 x.1.1.2.1 x.1.1.2.2.1 x.1.1.2.2.2.1 x.1.1.2.2.2.2.1 x.1.2.1.1 x.1.2.1.2.1 x.1.2.1.2.2.1 x.1.2.1.2.2.2.2.1 x.1.2.1.2.2.2.2.2.1 x.1.2.1.2.2.2.2.2.2.1 x.1.2.1.2.2.2.2.2.2.2.1 x.1.2.1.2.2.2.2.2.2.2.2.1 x.1.2.1.2.2.2.2.2.2.2.2.2.1 x.1.2.1.2.2.2.2.2.2.2.2.2.2.1 x.1.2.2.1 x.1.2.2.2.1.1 x.1.2.2.2.1.2.1 x.1.2.2.2.1.2.2.1 x.1.2.2.2.1.2.2.2.2.1 x.1.2.2.2.1.2.2.2.2.2.1 x.1.2.2.2.1.2.2.2.2.2.2.1 x.1.2.2.2.1.2.2.2.2.2.2.2.1 x.1.2.2.2.1.2.2.2.2.2.2.2.2.1 x.1.2.2.2.1.2.2.2.2.2.2.2.2.2.1 x.1.2.2.2.1.2.2.2.2.2.2.2.2.2.2.1 x.1.2.2.2.2.1 x.2.2.2.2.1 x.2.2.2.2.2.1⟩
abbrev ref52_Decode.j62.A : Sig := ⟨114, [.slot 1, .slot 2, .cell 1 3, .slot 5, .cell 3 3], (.cons (.obox (.cons (.v (.int .i64)) (.cons (.v (.int .i64)) (.cons (.v (.int .i64)) (.cons (.v .str) (.cons (.v (.sl .node)) .nilL)))))) (.cons (.obox (.cons (.v (.int .i64)) (.cons (.v (.int .i64)) (.cons (.v (.int .i64)) (.cons (.rowr 2) (.cons (.v (.int .i64)) (.cons (.v .str) (.cons (.v .bool) (.cons (.v (.int .i64)) (.cons (.v (.int .i64)) (.cons (.v (.int .i64)) (.cons (.v (.int .i64)) .nilL)))))))))))) (.cons (.orow 3 (.int .i64)) (.cons (.obox (.cons (.v (.int .i64)) (.cons (.v (.int .i64)) (.cons (.v (.int .i64)) (.cons (.rowr 4) (.cons (.v (.int .i64)) (.cons (.v .str) (.cons (.v .bool) (.cons (.v (.int .i64)) (.cons (.v (.int .i64)) (.cons (.v (.int .i64)) (.cons (.v (.int .i64)) .nilL)))))))))))) (.cons (.orow 3 (.int .i64)) .nilL))))), [1, 2, 5, 4], (.cons (.boxr 0 0) (.cons (.boxr 1 0) (.cons (.boxr 3 0) (.cons (.v (.sl .node)) .nilL))))⟩
abbrev ref52_Decode.j62.R0 : Sig := ⟨114, [.slot 1, .slot 2, .cell 1 3, .slot 5, .cell 3 3], (.cons (.obox (.cons (.v (.int .i64)) (.cons (.v (.int .i64)) (.cons (.v (.int .i64)) (.cons (.v .str) (.cons (.v (.sl .node)) .nilL)))))) (.cons (.obox (.cons (.v (.int .i64)) (.cons (.v (.int .i64)) (.cons (.v (.int .i64)) (.cons (.rowr 2) (.cons (.v (.int .i64)) (.cons (.v .str) (.cons (.v .bool) (.cons (.v (.int .i64)) (.cons (.v (.int .i64)) (.cons (.v (.int .i64)) (.cons (.v (.int .i64)) .nilL)))))))))))) (.cons (.orow 3 (.int .i64)) (.cons (.obox (.cons (.v (.int .i64)) (.cons (.v (.int .i64)) (.cons (.v (.int .i64)) (.cons (.rowr 4) (.cons (.v (.int .i64)) (.cons (.v .str) (.cons (.v .bool) (.cons (.v (.int .i64)) (.cons (.v (.int .i64)) (.cons (.v (.int .i64)) (.cons (.v (.int .i64)) .nilL)))))))))))) (.cons (.orow 3 (.int .i64)) .nilL))))), [1, 2, 5, 4], (.cons (.boxr 0 0) (.cons (.boxr 1 0) (.cons (.boxr 3 0) (.cons (.v (.sl .node)) .nilL))))⟩
abbrev ref52_Decode.j62.outs : List Out := [⟨.normal, ref52_Decode.j62.R0, Int × Int × Int × ByteArray × List Nd × Int × Int × Int × Int × ByteArray × Bool × Int × Int × Int × Int × List Int × Int × Int × Int × Int × ByteArray × Bool × Int × Int × Int × Int × List Int × List Nd, fun y => (((y.1, y.2.1, y.2.2.1, y.2.2.2.1, y.2.2.2.2.1, ()), (y.2.2.2.2.2.1, y.2.2.2.2.2.2.1, y.2.2.2.2.2.2.2.1, (), y.2.2.2.2.2.2.2.2.1, y.2.2.2.2.2.2.2.2.2.1, y.2.2.2.2.2.2.2.2.2.2.1, y.2.2.2.2.2.2.2.2.2.2.2.1, y.2.2.2.2.2.2.2.2.2.2.2.2.1, y.2.2.2.2.2.2.2.2.2.2.2.2.2.1, y.2.2.2.2.2.2.2.2.2.2.2.2.2.2.1, ()), y.2.2.2.2.2.2.2.2.2.2.2.2.2.2.2.1, (y.2.2.2.2.2.2.2.2.2.2.2.2.2.2.2.2.1, y.2.2.2.2.2.2.2.2.2.2.2.2.2.2.2.2.2.1, y.2.2.2.2.2.2.2.2.2.2.2.2.2.2.2.2.2.2.1, (), y.2.2.2.2.2.2.2.2.2.2.2.2.2.2.2.2.2.2.2.1, y.2.2.2.2.2.2.2.2.2.2.2.2.2.2.2.2.2.2.2.2.1, y.2.2.2.2.2.2.2.2.2.2.2.2.2.2.2.2.2.2.2.2.2.1, y.2.2.2.2.2.2.2.2.2.2.2.2.2.2.2.2.2.2.2.2.2.2.1, y.2.2.2.2.2.2.2.2.2.2.2.2.2.2.2.2.2.2.2.2.2.2.2.1, y.2.2.2.2.2.2.2.2.2.2.2.2.2.2.2.2.2.2.2.2.2.2.2.2.1, y.2.2.2.2.2.2.2.2.2.2.2.2.2.2.2.2.2.2.2.2.2.2.2.2.2.1, ()), y.2.2.2.2.2.2.2.2.2.2.2.2.2.2.2.2.2.2.2.2.2.2.2.2.2.2.1, ()), ((), (), (), y.2.2.2.2.2.2.2.2.2.2.2.2.2.2.2.2.2.2.2.2.2.2.2.2.2.2.2, ())), fun x => (x.1.1.1, x.1.1.2.1, x.1.1.2.2.1, x.1.1.2.2.2.1, x.1.1.2.2.2.2.1, x.1.2.1.1, x.1.2.1.2.1, x.1.2.1.2.2.1, x.1.2.1.2.2.2.2.1, x.1.2.1.2.2.2.2.2.1, x.1.2.1.2.2.2.2.2.2.1, x.1.2.1.2.2.2.2.2.2.2.1, x.1.2.1.2.2.2.2.2.2.2.2.1, x.1.2.1.2.2.2.2.2.2.2.2.2.1, x.1.2.1.2.2.2.2.2.2.2.2.2.2.1, x.1.2.2.1, x.1.2.2.2.1.1, x.1.2.2.2.1.2.1, x.1.2.2.2.1.2.2.1, x.1.2.2.2.1.2.2.2.2.1, x.1.2.2.2.1.2.2.2.2.2.1, x.1.2.2.2.1.2.2.2.2.2.2.1, x.1.2.2.2.1.2.2.2.2.2.2.2.1, x.1.2.2.2.1.2.2.2.2.2.2.2.2.1, x.1.2.2.2.1.2.2.2.2.2.2.2.2.2.1, x.1.2.2.2.1.2.2.2.2.2.2.2.2.2.2.1, x.1.2.2.2.2.1, x.2.2.2.2.1)⟩]
def ref52_Decode.j62 (k : Nat) (x0 : Int) (x1 : Int) (x2 : Int) (x3 : ByteArray) (x4 : List Nd) (x5 : Int) (x6 : Int) (x7 : Int) (x8 : Int) (x9 : ByteArray) (x10 : Bool) (x11 : Int) (x12 : Int) (x13 : Int) (x14 : Int) (x15 : List Int) (x16 : Int) (x17 : Int) (x18 : Int) (x19 : Int) (x20 : ByteArray) (x21 : Bool) (x22 : Int) (x23 : Int) (x24 : Int) (x25 : Int) (x26 : List Int) (x27 : List Nd) : Option (Int × Int × Int × ByteArray × List Nd × Int × Int × Int × Int × ByteArray × Bool × Int × Int × Int × Int × List Int × Int × Int × Int × Int × ByteArray × Bool × Int × Int × Int × Int × List Int × List Nd) :=
  Option.bind (cond (x16 == 2)
    (some ((x27.length : Int) == 7))
    (some false)) fun (c9 : Bool) =>
  cond c9
  (cond (inB 2 x27.length)
    ((ref52_integer.f k ((rdL .node x27 2).tag) ((rdL .node x27 2).kind) ((rdL .node x27 2).n) ((rdL .node x27 2).s) ((rdL .node x27 2).kids)).bind fun y10 =>
      cond (inB 4 x27.length)
      ((ref52_integer.f k ((rdL .node x27 4).tag) ((rdL .node x27 4).kind) ((rdL .node x27 4).n) ((rdL .node x27 4).s) ((rdL .node x27 4).kids)).bind fun y11 =>
        cond (inB 5 x27.length)
        (cond (inB 6 x27.length)
          ((ref52_Decode.l2006 k k x0 x1 x2 x3 x4 x5 x6 x7 x8 x9 x10 x11 x12 x13 x14 x15 x16 x17 y10 y11 ((rdL .node x27 5).s) ((rdL .node x27 6).n == 1) x22 x23 x24 x25 ([] : List Int) x27 0).bind fun y12 =>
            some (y12.1, y12.2.1, y12.2.2.1, y12.2.2.2.1, y12.2.2.2.2.1, y12.2.2.2.2.2.1, y12.2.2.2.2.2.2.1, y12.2.2.2.2.2.2.2.1, y12.2.2.2.2.2.2.2.2.1, y12.2.2.2.2.2.2.2.2.2.1, y12.2.2.2.2.2.2.2.2.2.2.1, y12.2.2.2.2.2.2.2.2.2.2.2.1, y12.2.2.2.2.2.2.2.2.2.2.2.2.1, y12.2.2.2.2.2.2.2.2.2.2.2.2.2.1, y12.2.2.2.2.2.2.2.2.2.2.2.2.2.2.1, y12.2.2.2.2.2.2.2.2.2.2.2.2.2.2.2.1, y12.2.2.2.2.2.2.2.2.2.2.2.2.2.2.2.2.1, y12.2.2.2.2.2.2.2.2.2.2.2.2.2.2.2.2.2.1, y12.2.2.2.2.2.2.2.2.2.2.2.2.2.2.2.2.2.2.1, y12.2.2.2.2.2.2.2.2.2.2.2.2.2.2.2.2.2.2.2.1, y12.2.2.2.2.2.2.2.2.2.2.2.2.2.2.2.2.2.2.2.2.1, y12.2.2.2.2.2.2.2.2.2.2.2.2.2.2.2.2.2.2.2.2.2.1, y12.2.2.2.2.2.2.2.2.2.2.2.2.2.2.2.2.2.2.2.2.2.2.1, y12.2.2.2.2.2.2.2.2.2.2.2.2.2.2.2.2.2.2.2.2.2.2.2.1, y12.2.2.2.2.2.2.2.2.2.2.2.2.2.2.2.2.2.2.2.2.2.2.2.2.1, y12.2.2.2.2.2.2.2.2.2.2.2.2.2.2.2.2.2.2.2.2.2.2.2.2.2.1, y12.2.2.2.2.2.2.2.2.2.2.2.2.2.2.2.2.2.2.2.2.2.2.2.2.2.2.1, y12.2.2.2.2.2.2.2.2.2.2.2.2.2.2.2.2.2.2.2.2.2.2.2.2.2.2.2))
          (none))
        (none))
      (none))
    (none))
  (some (x0, x1, x2, x3, x4, x5, x6, x7, x8, x9, x10, x11, x12, x13, x14, x15, x16, x17, x18, x19, x20, x21, x22, x23, x24, x25, x26, x27))
abbrev ref52_Decode.j62.pc (k : Nat) : Pc := ⟨ref52_Decode.j62.A, ref52_Decode.j62.outs, fun x => ref52_Decode.j62 k x.1.1.1 x.1.1.2.1 x.1.1.2.2.1 x.1.1.2.2.2.1 x.1.1.2.2.2.2.1 x.1.2.1.1 x.1.2.1.2.1 x.1.2.1.2.2.1 x.1.2.1.2.2.2.2.1 x.1.2.1.2.2.2.2.2.1 x.1.2.1.2.2.2.2.2.2.1 x.1.2.1.2.2.2.2.2.2.2.1 x.1.2.1.2.2.2.2.2.2.2.2.1 x.1.2.1.2.2.2.2.2.2.2.2.2.1 x.1.2.1.2.2.2.2.2.2.2.2.2.2.1 x.1.2.2.1 x.1.2.2.2.1.1 x.1.2.2.2.1.2.1 x.1.2.2.2.1.2.2.1 x.1.2.2.2.1.2.2.2.2.1 x.1.2.2.2.1.2.2.2.2.2.1 x.1.2.2.2.1.2.2.2.2.2.2.1 x.1.2.2.2.1.2.2.2.2.2.2.2.1 x.1.2.2.2.1.2.2.2.2.2.2.2.2.1 x.1.2.2.2.1.2.2.2.2.2.2.2.2.2.1 x.1.2.2.2.1.2.2.2.2.2.2.2.2.2.2.1 x.1.2.2.2.2.1 x.2.2.2.2.1⟩
abbrev ref52_Decode.j126.A : Sig := ⟨114, [.slot 1, .slot 2, .cell 1 3, .slot 5, .cell 3 3], (.cons (.obox (.cons (.v (.int .i64)) (.cons (.v (.int .i64)) (.cons (.v (.int .i64)) (.cons (.v .str) (.cons (.v (.sl .node)) .nilL)))))) (.cons (.obox (.cons (.v (.int .i64)) (.cons (.v (.int .i64)) (.cons (.v (.int .i64)) (.cons (.rowr 2) (.cons (.v (.int .i64)) (.cons (.v .str) (.cons (.v .bool) (.cons (.v (.int .i64)) (.cons (.v (.int .i64)) (.cons (.v (.int .i64)) (.cons (.v (.int .i64)) .nilL)))))))))))) (.cons (.orow 3 (.int .i64)) (.cons (.obox (.cons (.v (.int .i64)) (.cons (.v (.int .i64)) (.cons (.v (.int .i64)) (.cons (.rowr 4) (.cons (.v (.int .i64)) (.cons (.v .str) (.cons (.v .bool) (.cons (.v (.int .i64)) (.cons (.v (.int .i64)) (.cons (.v (.int .i64)) (.cons (.v (.int .i64)) .nilL)))))))))))) (.cons (.orow 3 (.int .i64)) .nilL))))), [1, 2, 5, 4], (.cons (.boxr 0 0) (.cons (.boxr 1 0) (.cons (.boxr 3 0) (.cons (.v (.sl .node)) .nilL))))⟩
abbrev ref52_Decode.j126.R0 : Sig := ⟨114, [.slot 1, .slot 2, .cell 1 3, .slot 5, .cell 3 3], (.cons (.obox (.cons (.v (.int .i64)) (.cons (.v (.int .i64)) (.cons (.v (.int .i64)) (.cons (.v .str) (.cons (.v (.sl .node)) .nilL)))))) (.cons (.obox (.cons (.v (.int .i64)) (.cons (.v (.int .i64)) (.cons (.v (.int .i64)) (.cons (.rowr 2) (.cons (.v (.int .i64)) (.cons (.v .str) (.cons (.v .bool) (.cons (.v (.int .i64)) (.cons (.v (.int .i64)) (.cons (.v (.int .i64)) (.cons (.v (.int .i64)) .nilL)))))))))))) (.cons (.orow 3 (.int .i64)) (.cons (.obox (.cons (.v (.int .i64)) (.cons (.v (.int .i64)) (.cons (.v (.int .i64)) (.cons (.rowr 4) (.cons (.v (.int .i64)) (.cons (.v .str) (.cons (.v .bool) (.cons (.v (.int .i64)) (.cons (.v (.int .i64)) (.cons (.v (.int .i64)) (.cons (.v (.int .i64)) .nilL)))))))))))) (.cons (.orow 3 (.int .i64)) .nilL))))), [1, 2, 5], (.cons (.boxr 0 0) (.cons (.boxr 1 0) (.cons (.boxr 3 0) .nilL)))⟩
abbrev ref52_Decode.j126.outs : List Out := [⟨.normal, ref52_Decode.j126.R0, Int × Int × Int × ByteArray × List Nd × Int × Int × Int × Int × ByteArray × Bool × Int × Int × Int × Int × List Int × Int × Int × Int × Int × ByteArray × Bool × Int × Int × Int × Int × List Int, fun y => (((y.1, y.2.1, y.2.2.1, y.2.2.2.1, y.2.2.2.2.1, ()), (y.2.2.2.2.2.1, y.2.2.2.2.2.2.1, y.2.2.2.2.2.2.2.1, (), y.2.2.2.2.2.2.2.2.1, y.2.2.2.2.2.2.2.2.2.1, y.2.2.2.2.2.2.2.2.2.2.1, y.2.2.2.2.2.2.2.2.2.2.2.1, y.2.2.2.2.2.2.2.2.2.2.2.2.1, y.2.2.2.2.2.2.2.2.2.2.2.2.2.1, y.2.2.2.2.2.2.2.2.2.2.2.2.2.2.1, ()), y.2.2.2.2.2.2.2.2.2.2.2.2.2.2.2.1, (y.2.2.2.2.2.2.2.2.2.2.2.2.2.2.2.2.1, y.2.2.2.2.2.2.2.2.2.2.2.2.2.2.2.2.2.1, y.2.2.2.2.2.2.2.2.2.2.2.2.2.2.2.2.2.2.1, (), y.2.2.2.2.2.2.2.2.2.2.2.2.2.2.2.2.2.2.2.1, y.2.2.2.2.2.2.2.2.2.2.2.2.2.2.2.2.2.2.2.2.1, y.2.2.2.2.2.2.2.2.2.2.2.2.2.2.2.2.2.2.2.2.2.1, y.2.2.2.2.2.2.2.2.2.2.2.2.2.2.2.2.2.2.2.2.2.2.1, y.2.2.2.2.2.2.2.2.2.2.2.2.2.2.2.2.2.2.2.2.2.2.2.1, y.2.2.2.2.2.2.2.2.2.2.2.2.2.2.2.2.2.2.2.2.2.2.2.2.1, y.2.2.2.2.2.2.2.2.2.2.2.2.2.2.2.2.2.2.2.2.2.2.2.2.2.1, ()), y.2.2.2.2.2.2.2.2.2.2.2.2.2.2.2.2.2.2.2.2.2.2.2.2.2.2, ()), ((), (), (), ())), fun x => (x.1.1.1, x.1.1.2.1, x.1.1.2.2.1, x.1.1.2.2.2.1, x.1.1.2.2.2.2.1, x.1.2.1.1, x.1.2.1.2.1, x.1.2.1.2.2.1, x.1.2.1.2.2.2.2.1, x.1.2.1.2.2.2.2.2.1, x.1.2.1.2.2.2.2.2.2.1, x.1.2.1.2.2.2.2.2.2.2.1, x.1.2.1.2.2.2.2.2.2.2.2.1, x.1.2.1.2.2.2.2.2.2.2.2.2.1, x.1.2.1.2.2.2.2.2.2.2.2.2.2.1, x.1.2.2.1, x.1.2.2.2.1.1, x.1.2.2.2.1.2.1, x.1.2.2.2.1.2.2.1, x.1.2.2.2.1.2.2.2.2.1, x.1.2.2.2.1.2.2.2.2.2.1, x.1.2.2.2.1.2.2.2.2.2.2.1, x.1.2.2.2.1.2.2.2.2.2.2.2.1, x.1.2.2.2.1.2.2.2.2.2.2.2.2.1, x.1.2.2.2.1.2.2.2.2.2.2.2.2.2.1, x.1.2.2.2.1.2.2.2.2.2.2.2.2.2.2.1, x.1.2.2.2.2.1)⟩]
def ref52_Decode.j126 (k : Nat) (x0 : Int) (x1 : Int) (x2 : Int) (x3 : ByteArray) (x4 : List Nd) (x5 : Int) (x6 : Int) (x7 : Int) (x8 : Int) (x9 : ByteArray) (x10 : Bool) (x11 : Int) (x12 : Int) (x13 : Int) (x14 : Int) (x15 : List Int) (x16 : Int) (x17 : Int) (x18 : Int) (x19 : Int) (x20 : ByteArray) (x21 : Bool) (x22 : Int) (x23 : Int) (x24 : Int) (x25 : Int) (x26 : List Int) (x27 : List Nd) : Option (Int × Int × Int × ByteArray × List Nd × Int × Int × Int × Int × ByteArray × Bool × Int × Int × Int × Int × List Int × Int × Int × Int × Int × ByteArray × Bool × Int × Int × Int × Int × List Int) :=
  Option.bind (cond (x16 == 5)
    (some ((x27.length : Int) == 5))
    (some false)) fun (c18 : Bool) =>
  cond c18
  (cond (inB 2 x27.length)
    ((ref52_integer.f k ((rdL .node x27 2).tag) ((rdL .node x27 2).kind) ((rdL .node x27 2).n) ((rdL .node x27 2).s) ((rdL .node x27 2).kids)).bind fun y19 =>
      cond (inB 3 x27.length)
      ((ref52_integer.f k ((rdL .node x27 3).tag) ((rdL .node x27 3).kind) ((rdL .node x27 3).n) ((rdL .node x27 3).s) ((rdL .node x27 3).kids)).bind fun y20 =>
        cond (inB 4 x27.length)
        ((ref52_integer.f k ((rdL .node x27 4).tag) ((rdL .node x27 4).kind) ((rdL .node x27 4).n) ((rdL .node x27 4).s) ((rdL .node x27 4).kids)).bind fun y21 =>
          some (x0, x1, x2, x3, x4, x5, x6, x7, x8, x9, x10, x11, x12, x13, x14, x15, x16, x17, x18, x19, x20, x21, y19, x17, y20, y21, x26))
        (none))
      (none))
    (none))
  (some (x0, x1, x2, x3, x4, x5, x6, x7, x8, x9, x10, x11, x12, x13, x14, x15, x16, x17, x18, x19, x20, x21, x22, x23, x24, x25, x26))
abbrev ref52_Decode.j126.pc (k : Nat) : Pc := ⟨ref52_Decode.j126.A, ref52_Decode.j126.outs, fun x => ref52_Decode.j126 k x.1.1.1 x.1.1.2.1 x.1.1.2.2.1 x.1.1.2.2.2.1 x.1.1.2.2.2.2.1 x.1.2.1.1 x.1.2.1.2.1 x.1.2.1.2.2.1 x.1.2.1.2.2.2.2.1 x.1.2.1.2.2.2.2.2.1 x.1.2.1.2.2.2.2.2.2.1 x.1.2.1.2.2.2.2.2.2.2.1 x.1.2.1.2.2.2.2.2.2.2.2.1 x.1.2.1.2.2.2.2.2.2.2.2.2.1 x.1.2.1.2.2.2.2.2.2.2.2.2.2.1 x.1.2.2.1 x.1.2.2.2.1.1 x.1.2.2.2.1.2.1 x.1.2.2.2.1.2.2.1 x.1.2.2.2.1.2.2.2.2.1 x.1.2.2.2.1.2.2.2.2.2.1 x.1.2.2.2.1.2.2.2.2.2.2.1 x.1.2.2.2.1.2.2.2.2.2.2.2.1 x.1.2.2.2.1.2.2.2.2.2.2.2.2.1 x.1.2.2.2.1.2.2.2.2.2.2.2.2.2.1 x.1.2.2.2.1.2.2.2.2.2.2.2.2.2.2.1 x.1.2.2.2.2.1 x.2.2.2.2.1⟩
def ref52_Decode.f (k : Nat) (a0 : Int) (a1 : Int) (a2 : Int) (a3 : ByteArray) (a4 : List Nd) : Option (Int × Int × Int × List Int × Int × ByteArray × Bool × Int × Int × Int × Int × Int) :=
  cond (decide ((a4.length : Int) < 2))
  (some (0, 0, 0, ([] : List Int), 0, (⟨#[]⟩ : ByteArray), false, 0, 0, 0, 0, 2))
  (cond (inB 0 a4.length)
    ((ref52_integer.f k ((rdL .node a4 0).tag) ((rdL .node a4 0).kind) ((rdL .node a4 0).n) ((rdL .node a4 0).s) ((rdL .node a4 0).kids)).bind fun y1 =>
      cond (inB 1 a4.length)
      ((ref52_integer.f k ((rdL .node a4 1).tag) ((rdL .node a4 1).kind) ((rdL .node a4 1).n) ((rdL .node a4 1).s) ((rdL .node a4 1).kids)).bind fun y2 =>
        (ref52_Decode.j62 k a0 a1 a2 a3 a4 0 0 0 0 (⟨#[]⟩ : ByteArray) false 0 0 0 0 ([] : List Int) y1 y2 0 0 (⟨#[]⟩ : ByteArray) false 0 0 0 0 ([] : List Int) a4).bind fun y13 =>
        (ref52_Decode.j126 k y13.1 y13.2.1 y13.2.2.1 y13.2.2.2.1 y13.2.2.2.2.1 y13.2.2.2.2.2.1 y13.2.2.2.2.2.2.1 y13.2.2.2.2.2.2.2.1 y13.2.2.2.2.2.2.2.2.1 y13.2.2.2.2.2.2.2.2.2.1 y13.2.2.2.2.2.2.2.2.2.2.1 y13.2.2.2.2.2.2.2.2.2.2.2.1 y13.2.2.2.2.2.2.2.2.2.2.2.2.1 y13.2.2.2.2.2.2.2.2.2.2.2.2.2.1 y13.2.2.2.2.2.2.2.2.2.2.2.2.2.2.1 y13.2.2.2.2.2.2.2.2.2.2.2.2.2.2.2.1 y13.2.2.2.2.2.2.2.2.2.2.2.2.2.2.2.2.1 y13.2.2.2.2.2.2.2.2.2.2.2.2.2.2.2.2.2.1 y13.2.2.2.2.2.2.2.2.2.2.2.2.2.2.2.2.2.2.1 y13.2.2.2.2.2.2.2.2.2.2.2.2.2.2.2.2.2.2.2.1 y13.2.2.2.2.2.2.2.2.2.2.2.2.2.2.2.2.2.2.2.2.1 y13.2.2.2.2.2.2.2.2.2.2.2.2.2.2.2.2.2.2.2.2.2.1 y13.2.2.2.2.2.2.2.2.2.2.2.2.2.2.2.2.2.2.2.2.2.2.1 y13.2.2.2.2.2.2.2.2.2.2.2.2.2.2.2.2.2.2.2.2.2.2.2.1 y13.2.2.2.2.2.2.2.2.2.2.2.2.2.2.2.2.2.2.2.2.2.2.2.2.1 y13.2.2.2.2.2.2.2.2.2.2.2.2.2.2.2.2.2.2.2.2.2.2.2.2.2.1 y13.2.2.2.2.2.2.2.2.2.2.2.2.2.2.2.2.2.2.2.2.2.2.2.2.2.2.1 y13.2.2.2.2.2.2.2.2.2.2.2.2.2.2.2.2.2.2.2.2.2.2.2.2.2.2.2).bind fun y22 =>
        (ref52_Encode.f k y22.2.2.2.2.2.2.2.2.2.2.2.2.2.2.2.2.1 y22.2.2.2.2.2.2.2.2.2.2.2.2.2.2.2.2.2.1 y22.2.2.2.2.2.2.2.2.2.2.2.2.2.2.2.2.2.2.1 y22.2.2.2.2.2.2.2.2.2.2.2.2.2.2.2.2.2.2.2.2.2.2.2.2.2.2 y22.2.2.2.2.2.2.2.2.2.2.2.2.2.2.2.2.2.2.2.1 y22.2.2.2.2.2.2.2.2.2.2.2.2.2.2.2.2.2.2.2.2.1 y22.2.2.2.2.2.2.2.2.2.2.2.2.2.2.2.2.2.2.2.2.2.1 y22.2.2.2.2.2.2.2.2.2.2.2.2.2.2.2.2.2.2.2.2.2.2.1 y22.2.2.2.2.2.2.2.2.2.2.2.2.2.2.2.2.2.2.2.2.2.2.2.1 y22.2.2.2.2.2.2.2.2.2.2.2.2.2.2.2.2.2.2.2.2.2.2.2.2.1 y22.2.2.2.2.2.2.2.2.2.2.2.2.2.2.2.2.2.2.2.2.2.2.2.2.2.1).bind fun y23 =>
        Option.bind (cond (y23.2.2.2.2.2 != 0)
          (some true)
          ((ref10_Equal.f k y23.1 y23.2.1 y23.2.2.1 y23.2.2.2.1 y23.2.2.2.2.1 y22.1 y22.2.1 y22.2.2.1 y22.2.2.2.1 y22.2.2.2.2.1).bind fun y24 =>
            some (!y24))) fun (c25 : Bool) =>
        cond c25
        (some (0, 0, 0, ([] : List Int), 0, (⟨#[]⟩ : ByteArray), false, 0, 0, 0, 0, 2))
        (some (y22.2.2.2.2.2.2.2.2.2.2.2.2.2.2.2.2.1, y22.2.2.2.2.2.2.2.2.2.2.2.2.2.2.2.2.2.1, y22.2.2.2.2.2.2.2.2.2.2.2.2.2.2.2.2.2.2.1, y22.2.2.2.2.2.2.2.2.2.2.2.2.2.2.2.2.2.2.2.2.2.2.2.2.2.2, y22.2.2.2.2.2.2.2.2.2.2.2.2.2.2.2.2.2.2.2.1, y22.2.2.2.2.2.2.2.2.2.2.2.2.2.2.2.2.2.2.2.2.1, y22.2.2.2.2.2.2.2.2.2.2.2.2.2.2.2.2.2.2.2.2.2.1, y22.2.2.2.2.2.2.2.2.2.2.2.2.2.2.2.2.2.2.2.2.2.2.1, y22.2.2.2.2.2.2.2.2.2.2.2.2.2.2.2.2.2.2.2.2.2.2.2.1, y22.2.2.2.2.2.2.2.2.2.2.2.2.2.2.2.2.2.2.2.2.2.2.2.2.1, y22.2.2.2.2.2.2.2.2.2.2.2.2.2.2.2.2.2.2.2.2.2.2.2.2.2.1, 0)))
      (none))
    (none))
abbrev ref52_Decode.E (k : Nat) : Ent := ⟨ref52_Decode.A, ref52_Decode.outs, fun x => ref52_Decode.f k x.2.1.1 x.2.1.2.1 x.2.1.2.2.1 x.2.1.2.2.2.1 x.2.1.2.2.2.2.1⟩
noncomputable abbrev ref52_Decode.C (k : Nat) : Cfg := ⟨Tryz.prog, shs, look2 [(49, [], ref10_Equal.E k), (14, [], ref52_Encode.E k), (48, [], ref52_integer.E k)], look [(2006, ref52_Decode.l2006.pc k), (62, ref52_Decode.j62.pc k), (126, ref52_Decode.j126.pc k)]⟩
theorem ref52_Decode.l2006.ev (k q : Nat) (x : ref52_Decode.l2006.A.V) : ((codeAt 60 (bodyOf (Tryz.f20)) 2006).bind fun c => (loopOf c).bind fun c1 => evL (ref52_Decode.C k) c1 2006 ref52_Decode.l2006.A ref52_Decode.l2006.outs (fun x => ref52_Decode.l2006 k q x.1.1.1 x.1.1.2.1 x.1.1.2.2.1 x.1.1.2.2.2.1 x.1.1.2.2.2.2.1 x.1.2.1.1 x.1.2.1.2.1 x.1.2.1.2.2.1 x.1.2.1.2.2.2.2.1 x.1.2.1.2.2.2.2.2.1 x.1.2.1.2.2.2.2.2.2.1 x.1.2.1.2.2.2.2.2.2.2.1 x.1.2.1.2.2.2.2.2.2.2.2.1 x.1.2.1.2.2.2.2.2.2.2.2.2.1 x.1.2.1.2.2.2.2.2.2.2.2.2.2.1 x.1.2.2.1 x.1.2.2.2.1.1 x.1.2.2.2.1.2.1 x.1.2.2.2.1.2.2.1 x.1.2.2.2.1.2.2.2.2.1 x.1.2.2.2.1.2.2.2.2.2.1 x.1.2.2.2.1.2.2.2.2.2.2.1 x.1.2.2.2.1.2.2.2.2.2.2.2.1 x.1.2.2.2.1.2.2.2.2.2.2.2.2.1 x.1.2.2.2.1.2.2.2.2.2.2.2.2.2.1 x.1.2.2.2.1.2.2.2.2.2.2.2.2.2.2.1 x.1.2.2.2.2.1 x.2.2.2.2.1 x.2.2.2.2.2.1) x) = ref52_Decode.l2006 k (q + 1) x.1.1.1 x.1.1.2.1 x.1.1.2.2.1 x.1.1.2.2.2.1 x.1.1.2.2.2.2.1 x.1.2.1.1 x.1.2.1.2.1 x.1.2.1.2.2.1 x.1.2.1.2.2.2.2.1 x.1.2.1.2.2.2.2.2.1 x.1.2.1.2.2.2.2.2.2.1 x.1.2.1.2.2.2.2.2.2.2.1 x.1.2.1.2.2.2.2.2.2.2.2.1 x.1.2.1.2.2.2.2.2.2.2.2.2.1 x.1.2.1.2.2.2.2.2.2.2.2.2.2.1 x.1.2.2.1 x.1.2.2.2.1.1 x.1.2.2.2.1.2.1 x.1.2.2.2.1.2.2.1 x.1.2.2.2.1.2.2.2.2.1 x.1.2.2.2.1.2.2.2.2.2.1 x.1.2.2.2.1.2.2.2.2.2.2.1 x.1.2.2.2.1.2.2.2.2.2.2.2.1 x.1.2.2.2.1.2.2.2.2.2.2.2.2.1 x.1.2.2.2.1.2.2.2.2.2.2.2.2.2.1 x.1.2.2.2.1.2.2.2.2.2.2.2.2.2.2.1 x.1.2.2.2.2.1 x.2.2.2.2.1 x.2.2.2.2.2.1 := by kernel_rfl
theorem ref52_Decode.j62.ev (k : Nat) (x : ref52_Decode.j62.A.V) : ((codeAt 60 (bodyOf (Tryz.f20)) 62).bind fun c => evP (ref52_Decode.C k) c 62 ref52_Decode.j62.A ref52_Decode.j62.outs x) = ref52_Decode.j62 k x.1.1.1 x.1.1.2.1 x.1.1.2.2.1 x.1.1.2.2.2.1 x.1.1.2.2.2.2.1 x.1.2.1.1 x.1.2.1.2.1 x.1.2.1.2.2.1 x.1.2.1.2.2.2.2.1 x.1.2.1.2.2.2.2.2.1 x.1.2.1.2.2.2.2.2.2.1 x.1.2.1.2.2.2.2.2.2.2.1 x.1.2.1.2.2.2.2.2.2.2.2.1 x.1.2.1.2.2.2.2.2.2.2.2.2.1 x.1.2.1.2.2.2.2.2.2.2.2.2.2.1 x.1.2.2.1 x.1.2.2.2.1.1 x.1.2.2.2.1.2.1 x.1.2.2.2.1.2.2.1 x.1.2.2.2.1.2.2.2.2.1 x.1.2.2.2.1.2.2.2.2.2.1 x.1.2.2.2.1.2.2.2.2.2.2.1 x.1.2.2.2.1.2.2.2.2.2.2.2.1 x.1.2.2.2.1.2.2.2.2.2.2.2.2.1 x.1.2.2.2.1.2.2.2.2.2.2.2.2.2.1 x.1.2.2.2.1.2.2.2.2.2.2.2.2.2.2.1 x.1.2.2.2.2.1 x.2.2.2.2.1 := by kernel_rfl
theorem ref52_Decode.j126.ev (k : Nat) (x : ref52_Decode.j126.A.V) : ((codeAt 60 (bodyOf (Tryz.f20)) 126).bind fun c => evP (ref52_Decode.C k) c 126 ref52_Decode.j126.A ref52_Decode.j126.outs x) = ref52_Decode.j126 k x.1.1.1 x.1.1.2.1 x.1.1.2.2.1 x.1.1.2.2.2.1 x.1.1.2.2.2.2.1 x.1.2.1.1 x.1.2.1.2.1 x.1.2.1.2.2.1 x.1.2.1.2.2.2.2.1 x.1.2.1.2.2.2.2.2.1 x.1.2.1.2.2.2.2.2.2.1 x.1.2.1.2.2.2.2.2.2.2.1 x.1.2.1.2.2.2.2.2.2.2.2.1 x.1.2.1.2.2.2.2.2.2.2.2.2.1 x.1.2.1.2.2.2.2.2.2.2.2.2.2.1 x.1.2.2.1 x.1.2.2.2.1.1 x.1.2.2.2.1.2.1 x.1.2.2.2.1.2.2.1 x.1.2.2.2.1.2.2.2.2.1 x.1.2.2.2.1.2.2.2.2.2.1 x.1.2.2.2.1.2.2.2.2.2.2.1 x.1.2.2.2.1.2.2.2.2.2.2.2.1 x.1.2.2.2.1.2.2.2.2.2.2.2.2.1 x.1.2.2.2.1.2.2.2.2.2.2.2.2.2.1 x.1.2.2.2.1.2.2.2.2.2.2.2.2.2.2.1 x.1.2.2.2.2.1 x.2.2.2.2.1 := by kernel_rfl
theorem ref52_Decode.ev (k : Nat) (x : ref52_Decode.A.V) : evF (ref52_Decode.C k) Tryz.f20 ref52_Decode.A ref52_Decode.outs x = ref52_Decode.f k x.2.1.1 x.2.1.2.1 x.2.1.2.2.1 x.2.1.2.2.2.1 x.2.1.2.2.2.2.1 := by kernel_rfl
theorem ref52_Decode.at : Tryz.prog.funcs[20]? = some Tryz.f20 := by kernel_rfl
theorem ref52_Decode.bo : Tryz.f20.body = some (bodyOf (Tryz.f20)) := by kernel_rfl
theorem ref52_Decode.nm : (Tryz.f20.name == "runtime.NumGoroutine") = false := by kernel_rfl
theorem ref52_Decode.sat (k : Nat) : Sat Tryz.prog 20 (ref52_Decode.E k) :=
  have hC : ∀ g l N, (ref52_Decode.C k).orc g l = some N → Sat Tryz.prog g N := satAll (satCons (ref10_Equal.sat k) (satCons (ref52_Encode.sat k) (satCons (ref52_integer.sat k) satNil)))
  sat_of (C := ref52_Decode.C k) hC mixed ref52_Decode.at ref52_Decode.nm ref52_Decode.bo (all_pieces rfl (locCons (loc_loop (A := ref52_Decode.l2006.A) (outs := ref52_Decode.l2006.outs) hC mixed (dstOk_zero _) (fun (q : Nat) (x : ref52_Decode.l2006.A.V) => ref52_Decode.l2006 k q x.1.1.1 x.1.1.2.1 x.1.1.2.2.1 x.1.1.2.2.2.1 x.1.1.2.2.2.2.1 x.1.2.1.1 x.1.2.1.2.1 x.1.2.1.2.2.1 x.1.2.1.2.2.2.2.1 x.1.2.1.2.2.2.2.2.1 x.1.2.1.2.2.2.2.2.2.1 x.1.2.1.2.2.2.2.2.2.2.1 x.1.2.1.2.2.2.2.2.2.2.2.1 x.1.2.1.2.2.2.2.2.2.2.2.2.1 x.1.2.1.2.2.2.2.2.2.2.2.2.2.1 x.1.2.2.1 x.1.2.2.2.1.1 x.1.2.2.2.1.2.1 x.1.2.2.2.1.2.2.1 x.1.2.2.2.1.2.2.2.2.1 x.1.2.2.2.1.2.2.2.2.2.1 x.1.2.2.2.1.2.2.2.2.2.2.1 x.1.2.2.2.1.2.2.2.2.2.2.2.1 x.1.2.2.2.1.2.2.2.2.2.2.2.2.1 x.1.2.2.2.1.2.2.2.2.2.2.2.2.2.1 x.1.2.2.2.1.2.2.2.2.2.2.2.2.2.2.1 x.1.2.2.2.2.1 x.2.2.2.2.1 x.2.2.2.2.2.1) (fun _ => rfl) (ref52_Decode.l2006.ev k) (ooC (fun _ => rfl) ooN) rfl rfl k) (locCons (loc_code (A := ref52_Decode.j62.A) (outs := ref52_Decode.j62.outs) hC mixed (dstOk_zero _) (fun (x : ref52_Decode.j62.A.V) => ref52_Decode.j62 k x.1.1.1 x.1.1.2.1 x.1.1.2.2.1 x.1.1.2.2.2.1 x.1.1.2.2.2.2.1 x.1.2.1.1 x.1.2.1.2.1 x.1.2.1.2.2.1 x.1.2.1.2.2.2.2.1 x.1.2.1.2.2.2.2.2.1 x.1.2.1.2.2.2.2.2.2.1 x.1.2.1.2.2.2.2.2.2.2.1 x.1.2.1.2.2.2.2.2.2.2.2.1 x.1.2.1.2.2.2.2.2.2.2.2.2.1 x.1.2.1.2.2.2.2.2.2.2.2.2.2.1 x.1.2.2.1 x.1.2.2.2.1.1 x.1.2.2.2.1.2.1 x.1.2.2.2.1.2.2.1 x.1.2.2.2.1.2.2.2.2.1 x.1.2.2.2.1.2.2.2.2.2.1 x.1.2.2.2.1.2.2.2.2.2.2.1 x.1.2.2.2.1.2.2.2.2.2.2.2.1 x.1.2.2.2.1.2.2.2.2.2.2.2.2.1 x.1.2.2.2.1.2.2.2.2.2.2.2.2.2.1 x.1.2.2.2.1.2.2.2.2.2.2.2.2.2.2.1 x.1.2.2.2.2.1 x.2.2.2.2.1) (ref52_Decode.j62.ev k) (ooC (fun _ => rfl) ooN) rfl) (locCons (loc_code (A := ref52_Decode.j126.A) (outs := ref52_Decode.j126.outs) hC mixed (dstOk_zero _) (fun (x : ref52_Decode.j126.A.V) => ref52_Decode.j126 k x.1.1.1 x.1.1.2.1 x.1.1.2.2.1 x.1.1.2.2.2.1 x.1.1.2.2.2.2.1 x.1.2.1.1 x.1.2.1.2.1 x.1.2.1.2.2.1 x.1.2.1.2.2.2.2.1 x.1.2.1.2.2.2.2.2.1 x.1.2.1.2.2.2.2.2.2.1 x.1.2.1.2.2.2.2.2.2.2.1 x.1.2.1.2.2.2.2.2.2.2.2.1 x.1.2.1.2.2.2.2.2.2.2.2.2.1 x.1.2.1.2.2.2.2.2.2.2.2.2.2.1 x.1.2.2.1 x.1.2.2.2.1.1 x.1.2.2.2.1.2.1 x.1.2.2.2.1.2.2.1 x.1.2.2.2.1.2.2.2.2.1 x.1.2.2.2.1.2.2.2.2.2.1 x.1.2.2.2.1.2.2.2.2.2.2.1 x.1.2.2.2.1.2.2.2.2.2.2.2.1 x.1.2.2.2.1.2.2.2.2.2.2.2.2.1 x.1.2.2.2.1.2.2.2.2.2.2.2.2.2.1 x.1.2.2.2.1.2.2.2.2.2.2.2.2.2.2.1 x.1.2.2.2.2.1 x.2.2.2.2.1) (ref52_Decode.j126.ev k) (ooC (fun _ => rfl) ooN) rfl) locNil)))) (ref52_Decode.ev k) (ooC (fun _ => rfl) ooN) (dstOk_zero _) (by decide) rfl

/-! ### ref52_size: function 21 (examboard/examboardref52.size) -/
abbrev ref52_size.A : Sig := ⟨1, [], (.nilL), [0], (.cons (.agg (.cons (.v (.int .i64)) (.cons (.v (.int .i64)) (.cons (.v (.int .i64)) (.cons (.v .str) (.cons (.v (.sl .node)) .nilL)))))) .nilL)⟩
abbrev ref52_size.R0 : Sig := ⟨1, [], (.nilL), [0], (.cons (.v (.int .i64)) .nilL)⟩
abbrev ref52_size.outs : List Out := [⟨.ret, ref52_size.R0, Int, fun y => ((), (y, ())), fun x => x.2.1⟩]
def ref52_size.f (k : Nat) (a0 : Int) (a1 : Int) (a2 : Int) (a3 : ByteArray) (a4 : List Nd) : Option (Int) :=
  (ref10_Encode.f k a0 a1 a2 a3 a4).bind fun y1 =>
  some (IntKind.wrap .i64 (12 + (y1.1.length : Int)))
abbrev ref52_size.E (k : Nat) : Ent := ⟨ref52_size.A, ref52_size.outs, fun x => ref52_size.f k x.2.1.1 x.2.1.2.1 x.2.1.2.2.1 x.2.1.2.2.2.1 x.2.1.2.2.2.2.1⟩
noncomputable abbrev ref52_size.C (k : Nat) : Cfg := ⟨Tryz.prog, shs, look2 [(42, [], ref10_Encode.E k)], look []⟩
theorem ref52_size.ev (k : Nat) (x : ref52_size.A.V) : evF (ref52_size.C k) Tryz.f21 ref52_size.A ref52_size.outs x = ref52_size.f k x.2.1.1 x.2.1.2.1 x.2.1.2.2.1 x.2.1.2.2.2.1 x.2.1.2.2.2.2.1 := by kernel_rfl
theorem ref52_size.at : Tryz.prog.funcs[21]? = some Tryz.f21 := by kernel_rfl
theorem ref52_size.bo : Tryz.f21.body = some (bodyOf (Tryz.f21)) := by kernel_rfl
theorem ref52_size.nm : (Tryz.f21.name == "runtime.NumGoroutine") = false := by kernel_rfl
theorem ref52_size.sat (k : Nat) : Sat Tryz.prog 21 (ref52_size.E k) :=
  have hC : ∀ g l N, (ref52_size.C k).orc g l = some N → Sat Tryz.prog g N := satAll (satCons (ref10_Encode.sat k) satNil)
  sat_of (C := ref52_size.C k) hC mixed ref52_size.at ref52_size.nm ref52_size.bo (all_pieces rfl locNil) (ref52_size.ev k) (ooC (fun _ => rfl) ooN) (dstOk_zero _) (by decide) rfl

/-! ### ref52_Events: function 8 (examboard/examboardref52.Events) -/
abbrev ref52_Events.A : Sig := ⟨1, [], (.nilL), [0], (.cons (.v (.sl (.int .u8))) .nilL)⟩
abbrev ref52_Events.R0 : Sig := ⟨1, [], (.nilL), [0], (.cons (.tup (.cons (.v (.sl (.pr (.int .i64) (.pr (.int .i64) (.pr (.pr (.int .i64) (.pr (.sl (.int .i64)) (.pr (.int .i64) (.pr .str .bool)))) (.pr (.int .i64) (.pr (.int .i64) (.pr (.int .i64) (.int .i64))))))))) (.cons (.v (.int .i64)) (.cons (.v (.int .i64)) .nilL)))) .nilL)⟩
abbrev ref52_Events.outs : List Out := [⟨.ret, ref52_Events.R0, (List (Int × Int × (Int × List Int × Int × ByteArray × Bool) × Int × Int × Int × Int)) × Int × Int, fun y => ((), ((y.1, y.2.1, y.2.2, ()), ())), fun x => (x.2.1.1, x.2.1.2.1, x.2.1.2.2.1)⟩]
abbrev ref52_Events.l250.A : Sig := ⟨51, [.slot 8], (.cons (.orow 29 (.pr (.int .i64) (.pr (.int .i64) (.pr (.pr (.int .i64) (.pr (.sl (.int .i64)) (.pr (.int .i64) (.pr .str .bool)))) (.pr (.int .i64) (.pr (.int .i64) (.pr (.int .i64) (.int .i64)))))))) .nilL), [5, 7, 8, 9, 10], (.cons (.v (.sl .node)) (.cons (.v (.int .i64)) (.cons (.rowr 0) (.cons (.v (.int .i64)) (.cons (.v (.int .i64)) .nilL)))))⟩
abbrev ref52_Events.l250.R0 : Sig := ⟨51, [.slot 8], (.cons (.orow 29 (.pr (.int .i64) (.pr (.int .i64) (.pr (.pr (.int .i64) (.pr (.sl (.int .i64)) (.pr (.int .i64) (.pr .str .bool)))) (.pr (.int .i64) (.pr (.int .i64) (.pr (.int .i64) (.int .i64)))))))) .nilL), [7, 8, 9], (.cons (.v (.int .i64)) (.cons (.rowr 0) (.cons (.v (.int .i64)) .nilL)))⟩
abbrev ref52_Events.l250.R1 : Sig := ⟨51, [.slot 2], (.cons (.orow 29 (.pr (.int .i64) (.pr (.int .i64) (.pr (.pr (.int .i64) (.pr (.sl (.int .i64)) (.pr (.int .i64) (.pr .str .bool)))) (.pr (.int .i64) (.pr (.int .i64) (.pr (.int .i64) (.int .i64)))))))) .nilL), [2, 3, 4], (.cons (.rowr 0) (.cons (.v (.int .i64)) (.cons (.v (.int .i64)) .nilL)))⟩
abbrev ref52_Events.l250.outs : List Out := [⟨(.exit 0), ref52_Events.l250.R0, (List (Int × Int × (Int × List Int × Int × ByteArray × Bool) × Int × Int × Int × Int)) × Int × Int, fun y => ((y.1, ()), (y.2.1, (), y.2.2, ())), fun x => (x.1.1, x.2.1, x.2.2.2.1)⟩, ⟨.ret, ref52_Events.l250.R1, (List (Int × Int × (Int × List Int × Int × ByteArray × Bool) × Int × Int × Int × Int)) × Int × Int, fun y => ((y.1, ()), ((), y.2.1, y.2.2, ())), fun x => (x.1.1, x.2.2.1, x.2.2.2.1)⟩]
def ref52_Events.l250 (k : Nat) : Nat → (List (Int × Int × (Int × List Int × Int × ByteArray × Bool) × Int × Int × Int × Int)) → (List Nd) → Int → Int → Int → Option (((List (Int × Int × (Int × List Int × Int × ByteArray × Bool) × Int × Int × Int × Int)) × Int × Int) ⊕ ((List (Int × Int × (Int × List Int × Int × ByteArray × Bool) × Int × Int × Int × Int)) × Int × Int))
  | 0, _, _, _, _, _ => none
  | q + 1, x0, x1, x2, x3, x4 =>
    cond (decide (x4 < (x1.length : Int)))
    (cond (inB x4 x1.length)
      ((ref52_Decode.f k ((rdL .node x1 x4).tag) ((rdL .node x1 x4).kind) ((rdL .node x1 x4).n) ((rdL .node x1 x4).s) ((rdL .node x1 x4).kids)).bind fun y4 =>
        cond (y4.2.2.2.2.2.2.2.2.2.2.2 != 0)
        (some (.inr (x0, x3, 2)))
        (cond (fits (x0.length + 1) 112)
          (cond (inB x4 x1.length)
            ((ref52_size.f k ((rdL .node x1 x4).tag) ((rdL .node x1 x4).kind) ((rdL .node x1 x4).n) ((rdL .node x1 x4).s) ((rdL .node x1 x4).kids)).bind fun y5 =>
              ref52_Events.l250 k q (x0 ++ [(y4.1, y4.2.1, (y4.2.2.1, y4.2.2.2.1, y4.2.2.2.2.1, y4.2.2.2.2.2.1, y4.2.2.2.2.2.2.1), y4.2.2.2.2.2.2.2.1, y4.2.2.2.2.2.2.2.2.1, y4.2.2.2.2.2.2.2.2.2.1, y4.2.2.2.2.2.2.2.2.2.2.1)]) x1 x2 (IntKind.wrap .i64 (x3 + y5)) (IntKind.wrap .i64 (x4 + 1)))
            (none))
          (none)))
      (none))
    (some (.inl (x0, x2, x3)))
abbrev ref52_Events.l250.pc (k : Nat) : Pc := ⟨ref52_Events.l250.A, ref52_Events.l250.outs, fun x => ref52_Events.l250 k k x.1.1 x.2.1 x.2.2.1 x.2.2.2.2.1 x.2.2.2.2.2.1⟩
def ref52_Events.f (k : Nat) (a0 : List Int) : Option ((List (Int × Int × (Int × List Int × Int × ByteArray × Bool) × Int × Int × Int × Int)) × Int × Int) :=
  (ref49_Read.f k a0).bind fun y1 =>
  (ref52_Events.l250 k k ([] : List (Int × Int × (Int × List Int × Int × ByteArray × Bool) × Int × Int × Int × Int)) y1.1 y1.2.2 0 0).bind fun y6 =>
  Sum.casesOn (motive := fun _ => Option _) y6 (fun u7 =>
  some (u7.1, u7.2.2, u7.2.1))
  (fun v8 =>
  some (v8.1, v8.2.1, v8.2.2))
abbrev ref52_Events.E (k : Nat) : Ent := ⟨ref52_Events.A, ref52_Events.outs, fun x => ref52_Events.f k x.2.1⟩
noncomputable abbrev ref52_Events.C (k : Nat) : Cfg := ⟨Tryz.prog, shs, look2 [(19, [], ref49_Read.E k), (20, [], ref52_Decode.E k), (21, [], ref52_size.E k)], look [(250, ref52_Events.l250.pc k)]⟩
theorem ref52_Events.l250.ev (k q : Nat) (x : ref52_Events.l250.A.V) : ((codeAt 60 (bodyOf (Tryz.f8)) 250).bind fun c => (loopOf c).bind fun c1 => evL (ref52_Events.C k) c1 250 ref52_Events.l250.A ref52_Events.l250.outs (fun x => ref52_Events.l250 k q x.1.1 x.2.1 x.2.2.1 x.2.2.2.2.1 x.2.2.2.2.2.1) x) = ref52_Events.l250 k (q + 1) x.1.1 x.2.1 x.2.2.1 x.2.2.2.2.1 x.2.2.2.2.2.1 := by kernel_rfl
theorem ref52_Events.ev (k : Nat) (x : ref52_Events.A.V) : evF (ref52_Events.C k) Tryz.f8 ref52_Events.A ref52_Events.outs x = ref52_Events.f k x.2.1 := by kernel_rfl
theorem ref52_Events.at : Tryz.prog.funcs[8]? = some Tryz.f8 := by kernel_rfl
theorem ref52_Events.bo : Tryz.f8.body = some (bodyOf (Tryz.f8)) := by kernel_rfl
theorem ref52_Events.nm : (Tryz.f8.name == "runtime.NumGoroutine") = false := by kernel_rfl
theorem ref52_Events.sat (k : Nat) : Sat Tryz.prog 8 (ref52_Events.E k) :=
  have hC : ∀ g l N, (ref52_Events.C k).orc g l = some N → Sat Tryz.prog g N := satAll (satCons (ref49_Read.sat k) (satCons (ref52_Decode.sat k) (satCons (ref52_size.sat k) satNil)))
  sat_of (C := ref52_Events.C k) hC mixed ref52_Events.at ref52_Events.nm ref52_Events.bo (all_pieces rfl (locCons (loc_loop (A := ref52_Events.l250.A) (outs := ref52_Events.l250.outs) hC mixed (dstOk_zero _) (fun (q : Nat) (x : ref52_Events.l250.A.V) => ref52_Events.l250 k q x.1.1 x.2.1 x.2.2.1 x.2.2.2.2.1 x.2.2.2.2.2.1) (fun _ => rfl) (ref52_Events.l250.ev k) (ooC (fun _ => rfl) (ooC (fun _ => rfl) ooN)) rfl rfl k) locNil)) (ref52_Events.ev k) (ooC (fun _ => rfl) ooN) (dstOk_zero _) (by decide) rfl

/-! ### law52_same: function 22 (examboard/examboardlaw52.same) -/
abbrev law52_same.A : Sig := ⟨2, [], (.nilL), [0, 1], (.cons (.agg (.cons (.v (.int .i64)) (.cons (.v (.int .i64)) (.cons (.v (.int .i64)) (.cons (.v (.sl (.int .i64))) (.cons (.v (.int .i64)) (.cons (.v .str) (.cons (.v .bool) (.cons (.v (.int .i64)) (.cons (.v (.int .i64)) (.cons (.v (.int .i64)) (.cons (.v (.int .i64)) .nilL)))))))))))) (.cons (.agg (.cons (.v (.int .i64)) (.cons (.v (.int .i64)) (.cons (.v (.int .i64)) (.cons (.v (.sl (.int .i64))) (.cons (.v (.int .i64)) (.cons (.v .str) (.cons (.v .bool) (.cons (.v (.int .i64)) (.cons (.v (.int .i64)) (.cons (.v (.int .i64)) (.cons (.v (.int .i64)) .nilL)))))))))))) .nilL))⟩
abbrev law52_same.R0 : Sig := ⟨1, [], (.nilL), [0], (.cons (.v .bool) .nilL)⟩
abbrev law52_same.outs : List Out := [⟨.ret, law52_same.R0, Bool, fun y => ((), (y, ())), fun x => x.2.1⟩]
abbrev law52_same.l58.A : Sig := ⟨91, [.slot 2, .slot 3], (.cons (.obox (.cons (.v (.int .i64)) (.cons (.v (.int .i64)) (.cons (.v (.int .i64)) (.cons (.v (.sl (.int .i64))) (.cons (.v (.int .i64)) (.cons (.v .str) (.cons (.v .bool) (.cons (.v (.int .i64)) (.cons (.v (.int .i64)) (.cons (.v (.int .i64)) (.cons (.v (.int .i64)) .nilL)))))))))))) (.cons (.obox (.cons (.v (.int .i64)) (.cons (.v (.int .i64)) (.cons (.v (.int .i64)) (.cons (.v (.sl (.int .i64))) (.cons (.v (.int .i64)) (.cons (.v .str) (.cons (.v .bool) (.cons (.v (.int .i64)) (.cons (.v (.int .i64)) (.cons (.v (.int .i64)) (.cons (.v (.int .i64)) .nilL)))))))))))) .nilL)), [2, 3, 5], (.cons (.boxr 0 0) (.cons (.boxr 1 0) (.cons (.v (.int .i64)) .nilL)))⟩
abbrev law52_same.l58.R0 : Sig := ⟨91, [.slot 2, .slot 3], (.cons (.obox (.cons (.v (.int .i64)) (.cons (.v (.int .i64)) (.cons (.v (.int .i64)) (.cons (.v (.sl (.int .i64))) (.cons (.v (.int .i64)) (.cons (.v .str) (.cons (.v .bool) (.cons (.v (.int .i64)) (.cons (.v (.int .i64)) (.cons (.v (.int .i64)) (.cons (.v (.int .i64)) .nilL)))))))))))) (.cons (.obox (.cons (.v (.int .i64)) (.cons (.v (.int .i64)) (.cons (.v (.int .i64)) (.cons (.v (.sl (.int .i64))) (.cons (.v (.int .i64)) (.cons (.v .str) (.cons (.v .bool) (.cons (.v (.int .i64)) (.cons (.v (.int .i64)) (.cons (.v (.int .i64)) (.cons (.v (.int .i64)) .nilL)))))))))))) .nilL)), [2, 3], (.cons (.boxr 0 0) (.cons (.boxr 1 0) .nilL))⟩
abbrev law52_same.l58.R1 : Sig := ⟨91, [], (.nilL), [4], (.cons (.v .bool) .nilL)⟩
abbrev law52_same.l58.outs : List Out := [⟨(.exit 0), law52_same.l58.R0, Int × Int × Int × List Int × Int × ByteArray × Bool × Int × Int × Int × Int × Int × Int × Int × List Int × Int × ByteArray × Bool × Int × Int × Int × Int, fun y => (((y.1, y.2.1, y.2.2.1, y.2.2.2.1, y.2.2.2.2.1, y.2.2.2.2.2.1, y.2.2.2.2.2.2.1, y.2.2.2.2.2.2.2.1, y.2.2.2.2.2.2.2.2.1, y.2.2.2.2.2.2.2.2.2.1, y.2.2.2.2.2.2.2.2.2.2.1, ()), (y.2.2.2.2.2.2.2.2.2.2.2.1, y.2.2.2.2.2.2.2.2.2.2.2.2.1, y.2.2.2.2.2.2.2.2.2.2.2.2.2.1, y.2.2.2.2.2.2.2.2.2.2.2.2.2.2.1, y.2.2.2.2.2.2.2.2.2.2.2.2.2.2.2.1, y.2.2.2.2.2.2.2.2.2.2.2.2.2.2.2.2.1, y.2.2.2.2.2.2.2.2.2.2.2.2.2.2.2.2.2.1, y.2.2.2.2.2.2.2.2.2.2.2.2.2.2.2.2.2.2.1, y.2.2.2.2.2.2.2.2.2.2.2.2.2.2.2.2.2.2.2.1, y.2.2.2.2.2.2.2.2.2.2.2.2.2.2.2.2.2.2.2.2.1, y.2.2.2.2.2.2.2.2.2.2.2.2.2.2.2.2.2.2.2.2.2, ()), ()), ((), (), ())), fun x => (x.1.1.1, x.1.1.2.1, x.1.1.2.2.1, x.1.1.2.2.2.1, x.1.1.2.2.2.2.1, x.1.1.2.2.2.2.2.1, x.1.1.2.2.2.2.2.2.1, x.1.1.2.2.2.2.2.2.2.1, x.1.1.2.2.2.2.2.2.2.2.1, x.1.1.2.2.2.2.2.2.2.2.2.1, x.1.1.2.2.2.2.2.2.2.2.2.2.1, x.1.2.1.1, x.1.2.1.2.1, x.1.2.1.2.2.1, x.1.2.1.2.2.2.1, x.1.2.1.2.2.2.2.1, x.1.2.1.2.2.2.2.2.1, x.1.2.1.2.2.2.2.2.2.1, x.1.2.1.2.2.2.2.2.2.2.1, x.1.2.1.2.2.2.2.2.2.2.2.1, x.1.2.1.2.2.2.2.2.2.2.2.2.1, x.1.2.1.2.2.2.2.2.2.2.2.2.2.1)⟩, ⟨.ret, law52_same.l58.R1, Bool, fun y => ((), (y, ())), fun x => x.2.1⟩]
def law52_same.l58 (k : Nat) : Nat → Int → Int → Int → (List Int) → Int → ByteArray → Bool → Int → Int → Int → Int → Int → Int → Int → (List Int) → Int → ByteArray → Bool → Int → Int → Int → Int → Int → Option ((Int × Int × Int × List Int × Int × ByteArray × Bool × Int × Int × Int × Int × Int × Int × Int × List Int × Int × ByteArray × Bool × Int × Int × Int × Int) ⊕ (Bool))
  | 0, _, _, _, _, _, _, _, _, _, _, _, _, _, _, _, _, _, _, _, _, _, _, _ => none
  | q + 1, x0, x1, x2, x3, x4, x5, x6, x7, x8, x9, x10, x11, x12, x13, x14, x15, x16, x17, x18, x19, x20, x21, x22 =>
    cond (decide (x22 < (x3.length : Int)))
    (cond (inB x22 x3.length)
      (cond (inB x22 x14.length)
        (cond ((rdL (.int .i64) x3 x22) != (rdL (.int .i64) x14 x22))
          (some (.inr false))
          (law52_same.l58 k q x0 x1 x2 x3 x4 x5 x6 x7 x8 x9 x10 x11 x12 x13 x14 x15 x16 x17 x18 x19 x20 x21 (IntKind.wrap .i64 (x22 + 1))))
        (none))
      (none))
    (some (.inl (x0, x1, x2, x3, x4, x5, x6, x7, x8, x9, x10, x11, x12, x13, x14, x15, x16, x17, x18, x19, x20, x21)))
abbrev law52_same.l58.pc (k : Nat) : Pc := ⟨law52_same.l58.A, law52_same.l58.outs, fun x => law52_same.l58 k k x.1.1.1 x.1.1.2.1 x.1.1.2.2.1 x.1.1.2.2.2.1 x.1.1.2.2.2.2.1 x.1.1.2.2.2.2.2.1 x.1.1.2.2.2.2.2.2.1 x.1.1.2.2.2.2.2.2.2.1 x.1.1.2.2.2.2.2.2.2.2.1 x.1.1.2.2.2.2.2.2.2.2.2.1 x.1.1.2.2.2.2.2.2.2.2.2.2.1 x.1.2.1.1 x.1.2.1.2.1 x.1.2.1.2.2.1 x.1.2.1.2.2.2.1 x.1.2.1.2.2.2.2.1 x.1.2.1.2.2.2.2.2.1 x.1.2.1.2.2.2.2.2.2.1 x.1.2.1.2.2.2.2.2.2.2.1 x.1.2.1.2.2.2.2.2.2.2.2.1 x.1.2.1.2.2.2.2.2.2.2.2.2.1 x.1.2.1.2.2.2.2.2.2.2.2.2.2.1 x.2.2.2.1⟩
def law52_same.f (k : Nat) (a0 : Int) (a1 : Int) (a2 : Int) (a3 : List Int) (a4 : Int) (a5 : ByteArray) (a6 : Bool) (a7 : Int) (a8 : Int) (a9 : Int) (a10 : Int) (a11 : Int) (a12 : Int) (a13 : Int) (a14 : List Int) (a15 : Int) (a16 : ByteArray) (a17 : Bool) (a18 : Int) (a19 : Int) (a20 : Int) (a21 : Int) : Option (Bool) :=
  Option.bind (cond (a0 != a11)
    (some true)
    (some (a1 != a12))) fun (c1 : Bool) =>
  Option.bind (cond c1
    (some true)
    (some (!((a7 == a18) && ((a8 == a19) && ((a9 == a20) && ((a10 == a21) && true))))))) fun (c2 : Bool) =>
  Option.bind (cond c2
    (some true)
    (some ((a3.length : Int) != (a14.length : Int)))) fun (c3 : Bool) =>
  cond c3
  (some false)
  ((law52_same.l58 k k a0 a1 a2 a3 a4 a5 a6 a7 a8 a9 a10 a11 a12 a13 a14 a15 a16 a17 a18 a19 a20 a21 0).bind fun y7 =>
    Sum.casesOn (motive := fun _ => Option _) y7 (fun u8 =>
    Option.bind (cond (u8.2.2.1 == u8.2.2.2.2.2.2.2.2.2.2.2.2.2.1)
        (some (u8.2.2.2.2.1 == u8.2.2.2.2.2.2.2.2.2.2.2.2.2.2.2.1))
        (some false)) fun (c10 : Bool) =>
      Option.bind (cond c10
        (some (u8.2.2.2.2.2.1.toList == u8.2.2.2.2.2.2.2.2.2.2.2.2.2.2.2.2.1.toList))
        (some false)) fun (c11 : Bool) =>
      Option.bind (cond c11
        (some (u8.2.2.2.2.2.2.1 == u8.2.2.2.2.2.2.2.2.2.2.2.2.2.2.2.2.2.1))
        (some false)) fun (c12 : Bool) =>
      some c12)
    (fun v9 =>
    some v9))
abbrev law52_same.E (k : Nat) : Ent := ⟨law52_same.A, law52_same.outs, fun x => law52_same.f k x.2.1.1 x.2.1.2.1 x.2.1.2.2.1 x.2.1.2.2.2.1 x.2.1.2.2.2.2.1 x.2.1.2.2.2.2.2.1 x.2.1.2.2.2.2.2.2.1 x.2.1.2.2.2.2.2.2.2.1 x.2.1.2.2.2.2.2.2.2.2.1 x.2.1.2.2.2.2.2.2.2.2.2.1 x.2.1.2.2.2.2.2.2.2.2.2.2.1 x.2.2.1.1 x.2.2.1.2.1 x.2.2.1.2.2.1 x.2.2.1.2.2.2.1 x.2.2.1.2.2.2.2.1 x.2.2.1.2.2.2.2.2.1 x.2.2.1.2.2.2.2.2.2.1 x.2.2.1.2.2.2.2.2.2.2.1 x.2.2.1.2.2.2.2.2.2.2.2.1 x.2.2.1.2.2.2.2.2.2.2.2.2.1 x.2.2.1.2.2.2.2.2.2.2.2.2.2.1⟩
noncomputable abbrev law52_same.C (k : Nat) : Cfg := ⟨Tryz.prog, shs, look2 [], look [(58, law52_same.l58.pc k)]⟩
theorem law52_same.l58.ev (k q : Nat) (x : law52_same.l58.A.V) : ((codeAt 60 (bodyOf (Tryz.f22)) 58).bind fun c => (loopOf c).bind fun c1 => evL (law52_same.C k) c1 58 law52_same.l58.A law52_same.l58.outs (fun x => law52_same.l58 k q x.1.1.1 x.1.1.2.1 x.1.1.2.2.1 x.1.1.2.2.2.1 x.1.1.2.2.2.2.1 x.1.1.2.2.2.2.2.1 x.1.1.2.2.2.2.2.2.1 x.1.1.2.2.2.2.2.2.2.1 x.1.1.2.2.2.2.2.2.2.2.1 x.1.1.2.2.2.2.2.2.2.2.2.1 x.1.1.2.2.2.2.2.2.2.2.2.2.1 x.1.2.1.1 x.1.2.1.2.1 x.1.2.1.2.2.1 x.1.2.1.2.2.2.1 x.1.2.1.2.2.2.2.1 x.1.2.1.2.2.2.2.2.1 x.1.2.1.2.2.2.2.2.2.1 x.1.2.1.2.2.2.2.2.2.2.1 x.1.2.1.2.2.2.2.2.2.2.2.1 x.1.2.1.2.2.2.2.2.2.2.2.2.1 x.1.2.1.2.2.2.2.2.2.2.2.2.2.1 x.2.2.2.1) x) = law52_same.l58 k (q + 1) x.1.1.1 x.1.1.2.1 x.1.1.2.2.1 x.1.1.2.2.2.1 x.1.1.2.2.2.2.1 x.1.1.2.2.2.2.2.1 x.1.1.2.2.2.2.2.2.1 x.1.1.2.2.2.2.2.2.2.1 x.1.1.2.2.2.2.2.2.2.2.1 x.1.1.2.2.2.2.2.2.2.2.2.1 x.1.1.2.2.2.2.2.2.2.2.2.2.1 x.1.2.1.1 x.1.2.1.2.1 x.1.2.1.2.2.1 x.1.2.1.2.2.2.1 x.1.2.1.2.2.2.2.1 x.1.2.1.2.2.2.2.2.1 x.1.2.1.2.2.2.2.2.2.1 x.1.2.1.2.2.2.2.2.2.2.1 x.1.2.1.2.2.2.2.2.2.2.2.1 x.1.2.1.2.2.2.2.2.2.2.2.2.1 x.1.2.1.2.2.2.2.2.2.2.2.2.2.1 x.2.2.2.1 := by kernel_rfl
theorem law52_same.ev (k : Nat) (x : law52_same.A.V) : evF (law52_same.C k) Tryz.f22 law52_same.A law52_same.outs x = law52_same.f k x.2.1.1 x.2.1.2.1 x.2.1.2.2.1 x.2.1.2.2.2.1 x.2.1.2.2.2.2.1 x.2.1.2.2.2.2.2.1 x.2.1.2.2.2.2.2.2.1 x.2.1.2.2.2.2.2.2.2.1 x.2.1.2.2.2.2.2.2.2.2.1 x.2.1.2.2.2.2.2.2.2.2.2.1 x.2.1.2.2.2.2.2.2.2.2.2.2.1 x.2.2.1.1 x.2.2.1.2.1 x.2.2.1.2.2.1 x.2.2.1.2.2.2.1 x.2.2.1.2.2.2.2.1 x.2.2.1.2.2.2.2.2.1 x.2.2.1.2.2.2.2.2.2.1 x.2.2.1.2.2.2.2.2.2.2.1 x.2.2.1.2.2.2.2.2.2.2.2.1 x.2.2.1.2.2.2.2.2.2.2.2.2.1 x.2.2.1.2.2.2.2.2.2.2.2.2.2.1 := by kernel_rfl
theorem law52_same.at : Tryz.prog.funcs[22]? = some Tryz.f22 := by kernel_rfl
theorem law52_same.bo : Tryz.f22.body = some (bodyOf (Tryz.f22)) := by kernel_rfl
theorem law52_same.nm : (Tryz.f22.name == "runtime.NumGoroutine") = false := by kernel_rfl
theorem law52_same.sat (k : Nat) : Sat Tryz.prog 22 (law52_same.E k) :=
  have hC : ∀ g l N, (law52_same.C k).orc g l = some N → Sat Tryz.prog g N := satAll satNil
  sat_of (C := law52_same.C k) hC mixed law52_same.at law52_same.nm law52_same.bo (all_pieces rfl (locCons (loc_loop (A := law52_same.l58.A) (outs := law52_same.l58.outs) hC mixed (dstOk_zero _) (fun (q : Nat) (x : law52_same.l58.A.V) => law52_same.l58 k q x.1.1.1 x.1.1.2.1 x.1.1.2.2.1 x.1.1.2.2.2.1 x.1.1.2.2.2.2.1 x.1.1.2.2.2.2.2.1 x.1.1.2.2.2.2.2.2.1 x.1.1.2.2.2.2.2.2.2.1 x.1.1.2.2.2.2.2.2.2.2.1 x.1.1.2.2.2.2.2.2.2.2.2.1 x.1.1.2.2.2.2.2.2.2.2.2.2.1 x.1.2.1.1 x.1.2.1.2.1 x.1.2.1.2.2.1 x.1.2.1.2.2.2.1 x.1.2.1.2.2.2.2.1 x.1.2.1.2.2.2.2.2.1 x.1.2.1.2.2.2.2.2.2.1 x.1.2.1.2.2.2.2.2.2.2.1 x.1.2.1.2.2.2.2.2.2.2.2.1 x.1.2.1.2.2.2.2.2.2.2.2.2.1 x.1.2.1.2.2.2.2.2.2.2.2.2.2.1 x.2.2.2.1) (fun _ => rfl) (law52_same.l58.ev k) (ooC (fun _ => rfl) (ooC (fun _ => rfl) ooN)) rfl rfl k) locNil)) (law52_same.ev k) (ooC (fun _ => rfl) ooN) (dstOk_zero _) (by decide) rfl

/-! ### law52_events: function 9 (examboard/examboardlaw52.events) -/
abbrev law52_events.A : Sig := ⟨2, [], (.nilL), [0, 1], (.cons (.v (.sl (.pr (.int .i64) (.pr (.int .i64) (.pr (.pr (.int .i64) (.pr (.sl (.int .i64)) (.pr (.int .i64) (.pr .str .bool)))) (.pr (.int .i64) (.pr (.int .i64) (.pr (.int .i64) (.int .i64))))))))) (.cons (.v (.sl (.pr (.int .i64) (.pr (.int .i64) (.pr (.pr (.int .i64) (.pr (.sl (.int .i64)) (.pr (.int .i64) (.pr .str .bool)))) (.pr (.int .i64) (.pr (.int .i64) (.pr (.int .i64) (.int .i64))))))))) .nilL))⟩
abbrev law52_events.R0 : Sig := ⟨1, [], (.nilL), [0], (.cons (.v .bool) .nilL)⟩
abbrev law52_events.outs : List Out := [⟨.ret, law52_events.R0, Bool, fun y => ((), (y, ())), fun x => x.2.1⟩]
abbrev law52_events.l58.A : Sig := ⟨27, [], (.nilL), [0, 1, 5], (.cons (.v (.sl (.pr (.int .i64) (.pr (.int .i64) (.pr (.pr (.int .i64) (.pr (.sl (.int .i64)) (.pr (.int .i64) (.pr .str .bool)))) (.pr (.int .i64) (.pr (.int .i64) (.pr (.int .i64) (.int .i64))))))))) (.cons (.v (.sl (.pr (.int .i64) (.pr (.int .i64) (.pr (.pr (.int .i64) (.pr (.sl (.int .i64)) (.pr (.int .i64) (.pr .str .bool)))) (.pr (.int .i64) (.pr (.int .i64) (.pr (.int .i64) (.int .i64))))))))) (.cons (.v (.int .i64)) .nilL)))⟩
abbrev law52_events.l58.R0 : Sig := ⟨27, [], (.nilL), [], (.nilL)⟩
abbrev law52_events.l58.R1 : Sig := ⟨27, [], (.nilL), [4], (.cons (.v .bool) .nilL)⟩
abbrev law52_events.l58.outs : List Out := [⟨(.exit 0), law52_events.l58.R0, Unit, fun y => ((), ()), fun x => ()⟩, ⟨.ret, law52_events.l58.R1, Bool, fun y => ((), (y, ())), fun x => x.2.1⟩]
def law52_events.l58 (k : Nat) : Nat → (List (Int × Int × (Int × List Int × Int × ByteArray × Bool) × Int × Int × Int × Int)) → (List (Int × Int × (Int × List Int × Int × ByteArray × Bool) × Int × Int × Int × Int)) → Int → Option ((Unit) ⊕ (Bool))
  | 0, _, _, _ => none
  | q + 1, x0, x1, x2 =>
    cond (decide (x2 < (x0.length : Int)))
    (cond (inB x2 x0.length)
      (cond (inB x2 x1.length)
        ((law52_same.f k ((rdL (.pr (.int .i64) (.pr (.int .i64) (.pr (.pr (.int .i64) (.pr (.sl (.int .i64)) (.pr (.int .i64) (.pr .str .bool)))) (.pr (.int .i64) (.pr (.int .i64) (.pr (.int .i64) (.int .i64))))))) x0 x2).1) (((rdL (.pr (.int .i64) (.pr (.int .i64) (.pr (.pr (.int .i64) (.pr (.sl (.int .i64)) (.pr (.int .i64) (.pr .str .bool)))) (.pr (.int .i64) (.pr (.int .i64) (.pr (.int .i64) (.int .i64))))))) x0 x2).2).1) (((((rdL (.pr (.int .i64) (.pr (.int .i64) (.pr (.pr (.int .i64) (.pr (.sl (.int .i64)) (.pr (.int .i64) (.pr .str .bool)))) (.pr (.int .i64) (.pr (.int .i64) (.pr (.int .i64) (.int .i64))))))) x0 x2).2).2).1).1) ((((((rdL (.pr (.int .i64) (.pr (.int .i64) (.pr (.pr (.int .i64) (.pr (.sl (.int .i64)) (.pr (.int .i64) (.pr .str .bool)))) (.pr (.int .i64) (.pr (.int .i64) (.pr (.int .i64) (.int .i64))))))) x0 x2).2).2).1).2).1) (((((((rdL (.pr (.int .i64) (.pr (.int .i64) (.pr (.pr (.int .i64) (.pr (.sl (.int .i64)) (.pr (.int .i64) (.pr .str .bool)))) (.pr (.int .i64) (.pr (.int .i64) (.pr (.int .i64) (.int .i64))))))) x0 x2).2).2).1).2).2).1) ((((((((rdL (.pr (.int .i64) (.pr (.int .i64) (.pr (.pr (.int .i64) (.pr (.sl (.int .i64)) (.pr (.int .i64) (.pr .str .bool)))) (.pr (.int .i64) (.pr (.int .i64) (.pr (.int .i64) (.int .i64))))))) x0 x2).2).2).1).2).2).2).1) ((((((((rdL (.pr (.int .i64) (.pr (.int .i64) (.pr (.pr (.int .i64) (.pr (.sl (.int .i64)) (.pr (.int .i64) (.pr .str .bool)))) (.pr (.int .i64) (.pr (.int .i64) (.pr (.int .i64) (.int .i64))))))) x0 x2).2).2).1).2).2).2).2) (((((rdL (.pr (.int .i64) (.pr (.int .i64) (.pr (.pr (.int .i64) (.pr (.sl (.int .i64)) (.pr (.int .i64) (.pr .str .bool)))) (.pr (.int .i64) (.pr (.int .i64) (.pr (.int .i64) (.int .i64))))))) x0 x2).2).2).2).1) ((((((rdL (.pr (.int .i64) (.pr (.int .i64) (.pr (.pr (.int .i64) (.pr (.sl (.int .i64)) (.pr (.int .i64) (.pr .str .bool)))) (.pr (.int .i64) (.pr (.int .i64) (.pr (.int .i64) (.int .i64))))))) x0 x2).2).2).2).2).1) (((((((rdL (.pr (.int .i64) (.pr (.int .i64) (.pr (.pr (.int .i64) (.pr (.sl (.int .i64)) (.pr (.int .i64) (.pr .str .bool)))) (.pr (.int .i64) (.pr (.int .i64) (.pr (.int .i64) (.int .i64))))))) x0 x2).2).2).2).2).2).1) (((((((rdL (.pr (.int .i64) (.pr (.int .i64) (.pr (.pr (.int .i64) (.pr (.sl (.int .i64)) (.pr (.int .i64) (.pr .str .bool)))) (.pr (.int .i64) (.pr (.int .i64) (.pr (.int .i64) (.int .i64))))))) x0 x2).2).2).2).2).2).2) ((rdL (.pr (.int .i64) (.pr (.int .i64) (.pr (.pr (.int .i64) (.pr (.sl (.int .i64)) (.pr (.int .i64) (.pr .str .bool)))) (.pr (.int .i64) (.pr (.int .i64) (.pr (.int .i64) (.int .i64))))))) x1 x2).1) (((rdL (.pr (.int .i64) (.pr (.int .i64) (.pr (.pr (.int .i64) (.pr (.sl (.int .i64)) (.pr (.int .i64) (.pr .str .bool)))) (.pr (.int .i64) (.pr (.int .i64) (.pr (.int .i64) (.int .i64))))))) x1 x2).2).1) (((((rdL (.pr (.int .i64) (.pr (.int .i64) (.pr (.pr (.int .i64) (.pr (.sl (.int .i64)) (.pr (.int .i64) (.pr .str .bool)))) (.pr (.int .i64) (.pr (.int .i64) (.pr (.int .i64) (.int .i64))))))) x1 x2).2).2).1).1) ((((((rdL (.pr (.int .i64) (.pr (.int .i64) (.pr (.pr (.int .i64) (.pr (.sl (.int .i64)) (.pr (.int .i64) (.pr .str .bool)))) (.pr (.int .i64) (.pr (.int .i64) (.pr (.int .i64) (.int .i64))))))) x1 x2).2).2).1).2).1) (((((((rdL (.pr (.int .i64) (.pr (.int .i64) (.pr (.pr (.int .i64) (.pr (.sl (.int .i64)) (.pr (.int .i64) (.pr .str .bool)))) (.pr (.int .i64) (.pr (.int .i64) (.pr (.int .i64) (.int .i64))))))) x1 x2).2).2).1).2).2).1) ((((((((rdL (.pr (.int .i64) (.pr (.int .i64) (.pr (.pr (.int .i64) (.pr (.sl (.int .i64)) (.pr (.int .i64) (.pr .str .bool)))) (.pr (.int .i64) (.pr (.int .i64) (.pr (.int .i64) (.int .i64))))))) x1 x2).2).2).1).2).2).2).1) ((((((((rdL (.pr (.int .i64) (.pr (.int .i64) (.pr (.pr (.int .i64) (.pr (.sl (.int .i64)) (.pr (.int .i64) (.pr .str .bool)))) (.pr (.int .i64) (.pr (.int .i64) (.pr (.int .i64) (.int .i64))))))) x1 x2).2).2).1).2).2).2).2) (((((rdL (.pr (.int .i64) (.pr (.int .i64) (.pr (.pr (.int .i64) (.pr (.sl (.int .i64)) (.pr (.int .i64) (.pr .str .bool)))) (.pr (.int .i64) (.pr (.int .i64) (.pr (.int .i64) (.int .i64))))))) x1 x2).2).2).2).1) ((((((rdL (.pr (.int .i64) (.pr (.int .i64) (.pr (.pr (.int .i64) (.pr (.sl (.int .i64)) (.pr (.int .i64) (.pr .str .bool)))) (.pr (.int .i64) (.pr (.int .i64) (.pr (.int .i64) (.int .i64))))))) x1 x2).2).2).2).2).1) (((((((rdL (.pr (.int .i64) (.pr (.int .i64) (.pr (.pr (.int .i64) (.pr (.sl (.int .i64)) (.pr (.int .i64) (.pr .str .bool)))) (.pr (.int .i64) (.pr (.int .i64) (.pr (.int .i64) (.int .i64))))))) x1 x2).2).2).2).2).2).1) (((((((rdL (.pr (.int .i64) (.pr (.int .i64) (.pr (.pr (.int .i64) (.pr (.sl (.int .i64)) (.pr (.int .i64) (.pr .str .bool)))) (.pr (.int .i64) (.pr (.int .i64) (.pr (.int .i64) (.int .i64))))))) x1 x2).2).2).2).2).2).2)).bind fun y2 =>
          cond (!y2)
          (some (.inr false))
          (law52_events.l58 k q x0 x1 (IntKind.wrap .i64 (x2 + 1))))
        (none))
      (none))
    (some (.inl ()))
abbrev law52_events.l58.pc (k : Nat) : Pc := ⟨law52_events.l58.A, law52_events.l58.outs, fun x => law52_events.l58 k k x.2.1 x.2.2.1 x.2.2.2.1⟩
def law52_events.f (k : Nat) (a0 : List (Int × Int × (Int × List Int × Int × ByteArray × Bool) × Int × Int × Int × Int)) (a1 : List (Int × Int × (Int × List Int × Int × ByteArray × Bool) × Int × Int × Int × Int)) : Option (Bool) :=
  cond ((a0.length : Int) != (a1.length : Int))
  (some false)
  ((law52_events.l58 k k a0 a1 0).bind fun y3 =>
    Sum.casesOn (motive := fun _ => Option _) y3 (fun u4 =>
    some true)
    (fun v5 =>
    some v5))
abbrev law52_events.E (k : Nat) : Ent := ⟨law52_events.A, law52_events.outs, fun x => law52_events.f k x.2.1 x.2.2.1⟩
noncomputable abbrev law52_events.C (k : Nat) : Cfg := ⟨Tryz.prog, shs, look2 [(22, [], law52_same.E k)], look [(58, law52_events.l58.pc k)]⟩
theorem law52_events.l58.ev (k q : Nat) (x : law52_events.l58.A.V) : ((codeAt 60 (bodyOf (Tryz.f9)) 58).bind fun c => (loopOf c).bind fun c1 => evL (law52_events.C k) c1 58 law52_events.l58.A law52_events.l58.outs (fun x => law52_events.l58 k q x.2.1 x.2.2.1 x.2.2.2.1) x) = law52_events.l58 k (q + 1) x.2.1 x.2.2.1 x.2.2.2.1 := by kernel_rfl
theorem law52_events.ev (k : Nat) (x : law52_events.A.V) : evF (law52_events.C k) Tryz.f9 law52_events.A law52_events.outs x = law52_events.f k x.2.1 x.2.2.1 := by kernel_rfl
theorem law52_events.at : Tryz.prog.funcs[9]? = some Tryz.f9 := by kernel_rfl
theorem law52_events.bo : Tryz.f9.body = some (bodyOf (Tryz.f9)) := by kernel_rfl
theorem law52_events.nm : (Tryz.f9.name == "runtime.NumGoroutine") = false := by kernel_rfl
theorem law52_events.sat (k : Nat) : Sat Tryz.prog 9 (law52_events.E k) :=
  have hC : ∀ g l N, (law52_events.C k).orc g l = some N → Sat Tryz.prog g N := satAll (satCons (law52_same.sat k) satNil)
  sat_of (C := law52_events.C k) hC mixed law52_events.at law52_events.nm law52_events.bo (all_pieces rfl (locCons (loc_loop (A := law52_events.l58.A) (outs := law52_events.l58.outs) hC mixed (dstOk_zero _) (fun (q : Nat) (x : law52_events.l58.A.V) => law52_events.l58 k q x.2.1 x.2.2.1 x.2.2.2.1) (fun _ => rfl) (law52_events.l58.ev k) (ooC (fun _ => rfl) (ooC (fun _ => rfl) ooN)) rfl rfl k) locNil)) (law52_events.ev k) (ooC (fun _ => rfl) ooN) (dstOk_zero _) (by decide) rfl

/-! ### journal_Trim: function 23 (examboard/journal.Trim) -/
abbrev journal_Trim.A : Sig := ⟨1, [], (.nilL), [0], (.cons (.v (.sl (.int .u8))) .nilL)⟩
abbrev journal_Trim.R0 : Sig := ⟨1, [], (.nilL), [0], (.cons (.v (.sl (.int .u8))) .nilL)⟩
abbrev journal_Trim.outs : List Out := [⟨.ret, journal_Trim.R0, List Int, fun y => ((), (y, ())), fun x => x.2.1⟩]
def journal_Trim.f (k : Nat) (a0 : List Int) : Option (List Int) :=
  (journal_read.f k a0).bind fun y1 =>
  Sum.casesOn (motive := fun _ => Option _) y1 (fun u2 =>
  cond ((decide ((0 : Int) ≤ 0)) && ((decide ((0 : Int) ≤ u2.2.1)) && (decide (u2.2.1 ≤ (a0.length : Int)))))
    (cond (fits (0 + (List.drop (Int.toNat 0) (List.take (Int.toNat u2.2.1) a0)).length) 1)
      (some (([] : List Int) ++ (List.drop (Int.toNat 0) (List.take (Int.toNat u2.2.1) a0))))
      (none))
    (none))
  (fun v3 =>
  cond ((decide ((0 : Int) ≤ 0)) && ((decide ((0 : Int) ≤ v3.2.1)) && (decide (v3.2.1 ≤ (a0.length : Int)))))
    (cond (fits (0 + (List.drop (Int.toNat 0) (List.take (Int.toNat v3.2.1) a0)).length) 1)
      (some (([] : List Int) ++ (List.drop (Int.toNat 0) (List.take (Int.toNat v3.2.1) a0))))
      (none))
    (none))
abbrev journal_Trim.E (k : Nat) : Ent := ⟨journal_Trim.A, journal_Trim.outs, fun x => journal_Trim.f k x.2.1⟩
noncomputable abbrev journal_Trim.C (k : Nat) : Cfg := ⟨Tryz.prog, shs, look2 [(31, [], journal_read.E k)], look []⟩
theorem journal_Trim.ev (k : Nat) (x : journal_Trim.A.V) : evF (journal_Trim.C k) Tryz.f23 journal_Trim.A journal_Trim.outs x = journal_Trim.f k x.2.1 := by kernel_rfl
theorem journal_Trim.at : Tryz.prog.funcs[23]? = some Tryz.f23 := by kernel_rfl
theorem journal_Trim.bo : Tryz.f23.body = some (bodyOf (Tryz.f23)) := by kernel_rfl
theorem journal_Trim.nm : (Tryz.f23.name == "runtime.NumGoroutine") = false := by kernel_rfl
theorem journal_Trim.sat (k : Nat) : Sat Tryz.prog 23 (journal_Trim.E k) :=
  have hC : ∀ g l N, (journal_Trim.C k).orc g l = some N → Sat Tryz.prog g N := satAll (satCons (journal_read.sat k) satNil)
  sat_of (C := journal_Trim.C k) hC mixed journal_Trim.at journal_Trim.nm journal_Trim.bo (all_pieces rfl locNil) (journal_Trim.ev k) (ooC (fun _ => rfl) ooN) (dstOk_zero _) (by decide) rfl

/-! ### bytes_Equal: function 72 (bytes.Equal) -/
abbrev bytes_Equal.A : Sig := ⟨2, [], (.nilL), [0, 1], (.cons (.v (.sl (.int .u8))) (.cons (.v (.sl (.int .u8))) .nilL))⟩
abbrev bytes_Equal.R0 : Sig := ⟨1, [], (.nilL), [0], (.cons (.v .bool) .nilL)⟩
abbrev bytes_Equal.outs : List Out := [⟨.ret, bytes_Equal.R0, Bool, fun y => ((), (y, ())), fun x => x.2.1⟩]
def bytes_Equal.f (k : Nat) (a0 : List Int) (a1 : List Int) : Option (Bool) :=
  some ((bytesOf a0).toList == (bytesOf a1).toList)
abbrev bytes_Equal.E (k : Nat) : Ent := ⟨bytes_Equal.A, bytes_Equal.outs, fun x => bytes_Equal.f k x.2.1 x.2.2.1⟩
noncomputable abbrev bytes_Equal.C (k : Nat) : Cfg := ⟨Tryz.prog, shs, look2 [], look []⟩
theorem bytes_Equal.ev (k : Nat) (x : bytes_Equal.A.V) : evF (bytes_Equal.C k) Tryz.f72 bytes_Equal.A bytes_Equal.outs x = bytes_Equal.f k x.2.1 x.2.2.1 := by kernel_rfl
theorem bytes_Equal.at : Tryz.prog.funcs[72]? = some Tryz.f72 := by kernel_rfl
theorem bytes_Equal.bo : Tryz.f72.body = some (bodyOf (Tryz.f72)) := by kernel_rfl
theorem bytes_Equal.nm : (Tryz.f72.name == "runtime.NumGoroutine") = false := by kernel_rfl
theorem bytes_Equal.sat (k : Nat) : Sat Tryz.prog 72 (bytes_Equal.E k) :=
  have hC : ∀ g l N, (bytes_Equal.C k).orc g l = some N → Sat Tryz.prog g N := satAll satNil
  sat_of (C := bytes_Equal.C k) hC mixed bytes_Equal.at bytes_Equal.nm bytes_Equal.bo (all_pieces rfl locNil) (bytes_Equal.ev k) (ooC (fun _ => rfl) ooN) (dstOk_zero _) (by decide) rfl

/-! ### bytes_HasPrefix: function 50 (bytes.HasPrefix) -/
abbrev bytes_HasPrefix.A : Sig := ⟨2, [], (.nilL), [0, 1], (.cons (.v (.sl (.int .u8))) (.cons (.v (.sl (.int .u8))) .nilL))⟩
abbrev bytes_HasPrefix.R0 : Sig := ⟨1, [], (.nilL), [0], (.cons (.v .bool) .nilL)⟩
abbrev bytes_HasPrefix.outs : List Out := [⟨.ret, bytes_HasPrefix.R0, Bool, fun y => ((), (y, ())), fun x => x.2.1⟩]
def bytes_HasPrefix.f (k : Nat) (a0 : List Int) (a1 : List Int) : Option (Bool) :=
  Option.bind (cond (decide ((a0.length : Int) ≥ (a1.length : Int)))
    (cond ((decide ((0 : Int) ≤ 0)) && ((decide ((0 : Int) ≤ (a1.length : Int))) && (decide ((a1.length : Int) ≤ (a0.length : Int)))))
      ((bytes_Equal.f k (List.drop (Int.toNat 0) (List.take (Int.toNat (a1.length : Int)) a0)) a1).bind fun y1 =>
        some y1)
      (none))
    (some false)) fun (c2 : Bool) =>
  some c2
abbrev bytes_HasPrefix.E (k : Nat) : Ent := ⟨bytes_HasPrefix.A, bytes_HasPrefix.outs, fun x => bytes_HasPrefix.f k x.2.1 x.2.2.1⟩
noncomputable abbrev bytes_HasPrefix.C (k : Nat) : Cfg := ⟨Tryz.prog, shs, look2 [(72, [], bytes_Equal.E k)], look []⟩
theorem bytes_HasPrefix.ev (k : Nat) (x : bytes_HasPrefix.A.V) : evF (bytes_HasPrefix.C k) Tryz.f50 bytes_HasPrefix.A bytes_HasPrefix.outs x = bytes_HasPrefix.f k x.2.1 x.2.2.1 := by kernel_rfl
theorem bytes_HasPrefix.at : Tryz.prog.funcs[50]? = some Tryz.f50 := by kernel_rfl
theorem bytes_HasPrefix.bo : Tryz.f50.body = some (bodyOf (Tryz.f50)) := by kernel_rfl
theorem bytes_HasPrefix.nm : (Tryz.f50.name == "runtime.NumGoroutine") = false := by kernel_rfl
theorem bytes_HasPrefix.sat (k : Nat) : Sat Tryz.prog 50 (bytes_HasPrefix.E k) :=
  have hC : ∀ g l N, (bytes_HasPrefix.C k).orc g l = some N → Sat Tryz.prog g N := satAll (satCons (bytes_Equal.sat k) satNil)
  sat_of (C := bytes_HasPrefix.C k) hC mixed bytes_HasPrefix.at bytes_HasPrefix.nm bytes_HasPrefix.bo (all_pieces rfl locNil) (bytes_HasPrefix.ev k) (ooC (fun _ => rfl) ooN) (dstOk_zero _) (by decide) rfl

/-! ### journal_Extends: function 24 (examboard/journal.Extends) -/
abbrev journal_Extends.A : Sig := ⟨2, [], (.nilL), [0, 1], (.cons (.v (.sl (.int .u8))) (.cons (.v (.sl (.int .u8))) .nilL))⟩
abbrev journal_Extends.R0 : Sig := ⟨1, [], (.nilL), [0], (.cons (.v .bool) .nilL)⟩
abbrev journal_Extends.outs : List Out := [⟨.ret, journal_Extends.R0, Bool, fun y => ((), (y, ())), fun x => x.2.1⟩]
def journal_Extends.f (k : Nat) (a0 : List Int) (a1 : List Int) : Option (Bool) :=
  (bytes_HasPrefix.f k a0 a1).bind fun y1 =>
  some y1
abbrev journal_Extends.E (k : Nat) : Ent := ⟨journal_Extends.A, journal_Extends.outs, fun x => journal_Extends.f k x.2.1 x.2.2.1⟩
noncomputable abbrev journal_Extends.C (k : Nat) : Cfg := ⟨Tryz.prog, shs, look2 [(50, [], bytes_HasPrefix.E k)], look []⟩
theorem journal_Extends.ev (k : Nat) (x : journal_Extends.A.V) : evF (journal_Extends.C k) Tryz.f24 journal_Extends.A journal_Extends.outs x = journal_Extends.f k x.2.1 x.2.2.1 := by kernel_rfl
theorem journal_Extends.at : Tryz.prog.funcs[24]? = some Tryz.f24 := by kernel_rfl
theorem journal_Extends.bo : Tryz.f24.body = some (bodyOf (Tryz.f24)) := by kernel_rfl
theorem journal_Extends.nm : (Tryz.f24.name == "runtime.NumGoroutine") = false := by kernel_rfl
theorem journal_Extends.sat (k : Nat) : Sat Tryz.prog 24 (journal_Extends.E k) :=
  have hC : ∀ g l N, (journal_Extends.C k).orc g l = some N → Sat Tryz.prog g N := satAll (satCons (bytes_HasPrefix.sat k) satNil)
  sat_of (C := journal_Extends.C k) hC mixed journal_Extends.at journal_Extends.nm journal_Extends.bo (all_pieces rfl locNil) (journal_Extends.ev k) (ooC (fun _ => rfl) ooN) (dstOk_zero _) (by decide) rfl

/-! ### resume_Join: function 10 (examboard/resume.Join) -/
abbrev resume_Join.A : Sig := ⟨2, [], (.nilL), [0, 1], (.cons (.v (.sl (.int .u8))) (.cons (.v (.sl (.int .u8))) .nilL))⟩
abbrev resume_Join.R0 : Sig := ⟨1, [], (.nilL), [0], (.cons (.tup (.cons (.v (.sl (.int .u8))) (.cons (.v (.int .i64)) .nilL))) .nilL)⟩
abbrev resume_Join.outs : List Out := [⟨.ret, resume_Join.R0, List Int × Int, fun y => ((), ((y.1, y.2, ()), ())), fun x => (x.2.1.1, x.2.1.2.1)⟩]
def resume_Join.f (k : Nat) (a0 : List Int) (a1 : List Int) : Option (List Int × Int) :=
  (journal_Trim.f k a0).bind fun y1 =>
  (journal_Trim.f k a1).bind fun y2 =>
  cond (decide ((y1.length : Int) < (y2.length : Int)))
  ((journal_Extends.f k y2 y1).bind fun y3 =>
    cond (!y3)
    (some (([] : List Int), 11))
    (some (y2, 0)))
  ((journal_Extends.f k y1 y2).bind fun y4 =>
    cond (!y4)
    (some (([] : List Int), 11))
    (some (y1, 0)))
abbrev resume_Join.E (k : Nat) : Ent := ⟨resume_Join.A, resume_Join.outs, fun x => resume_Join.f k x.2.1 x.2.2.1⟩
noncomputable abbrev resume_Join.C (k : Nat) : Cfg := ⟨Tryz.prog, shs, look2 [(24, [], journal_Extends.E k), (23, [], journal_Trim.E k)], look []⟩
theorem resume_Join.ev (k : Nat) (x : resume_Join.A.V) : evF (resume_Join.C k) Tryz.f10 resume_Join.A resume_Join.outs x = resume_Join.f k x.2.1 x.2.2.1 := by kernel_rfl
theorem resume_Join.at : Tryz.prog.funcs[10]? = some Tryz.f10 := by kernel_rfl
theorem resume_Join.bo : Tryz.f10.body = some (bodyOf (Tryz.f10)) := by kernel_rfl
theorem resume_Join.nm : (Tryz.f10.name == "runtime.NumGoroutine") = false := by kernel_rfl
theorem resume_Join.sat (k : Nat) : Sat Tryz.prog 10 (resume_Join.E k) :=
  have hC : ∀ g l N, (resume_Join.C k).orc g l = some N → Sat Tryz.prog g N := satAll (satCons (journal_Extends.sat k) (satCons (journal_Trim.sat k) satNil))
  sat_of (C := resume_Join.C k) hC mixed resume_Join.at resume_Join.nm resume_Join.bo (all_pieces rfl locNil) (resume_Join.ev k) (ooC (fun _ => rfl) ooN) (dstOk_zero _) (by decide) rfl

/-! ### ref49_Trim: function 25 (examboard/examboardref49.Trim) -/
abbrev ref49_Trim.A : Sig := ⟨1, [], (.nilL), [0], (.cons (.v (.sl (.int .u8))) .nilL)⟩
abbrev ref49_Trim.R0 : Sig := ⟨1, [], (.nilL), [0], (.cons (.v (.sl (.int .u8))) .nilL)⟩
abbrev ref49_Trim.outs : List Out := [⟨.ret, ref49_Trim.R0, List Int, fun y => ((), (y, ())), fun x => x.2.1⟩]
def ref49_Trim.f (k : Nat) (a0 : List Int) : Option (List Int) :=
  (ref49_read.f k a0).bind fun y1 =>
  cond ((decide ((0 : Int) ≤ 0)) && ((decide ((0 : Int) ≤ y1.2.1)) && (decide (y1.2.1 ≤ (a0.length : Int)))))
  ((ref49_copied.f k (List.drop (Int.toNat 0) (List.take (Int.toNat y1.2.1) a0))).bind fun y2 =>
    some y2)
  (none)
abbrev ref49_Trim.E (k : Nat) : Ent := ⟨ref49_Trim.A, ref49_Trim.outs, fun x => ref49_Trim.f k x.2.1⟩
noncomputable abbrev ref49_Trim.C (k : Nat) : Cfg := ⟨Tryz.prog, shs, look2 [(44, [], ref49_copied.E k), (41, [], ref49_read.E k)], look []⟩
theorem ref49_Trim.ev (k : Nat) (x : ref49_Trim.A.V) : evF (ref49_Trim.C k) Tryz.f25 ref49_Trim.A ref49_Trim.outs x = ref49_Trim.f k x.2.1 := by kernel_rfl
theorem ref49_Trim.at : Tryz.prog.funcs[25]? = some Tryz.f25 := by kernel_rfl
theorem ref49_Trim.bo : Tryz.f25.body = some (bodyOf (Tryz.f25)) := by kernel_rfl
theorem ref49_Trim.nm : (Tryz.f25.name == "runtime.NumGoroutine") = false := by kernel_rfl
theorem ref49_Trim.sat (k : Nat) : Sat Tryz.prog 25 (ref49_Trim.E k) :=
  have hC : ∀ g l N, (ref49_Trim.C k).orc g l = some N → Sat Tryz.prog g N := satAll (satCons (ref49_copied.sat k) (satCons (ref49_read.sat k) satNil))
  sat_of (C := ref49_Trim.C k) hC mixed ref49_Trim.at ref49_Trim.nm ref49_Trim.bo (all_pieces rfl locNil) (ref49_Trim.ev k) (ooC (fun _ => rfl) ooN) (dstOk_zero _) (by decide) rfl

/-! ### ref49_Extends: function 26 (examboard/examboardref49.Extends) -/
abbrev ref49_Extends.A : Sig := ⟨2, [], (.nilL), [0, 1], (.cons (.v (.sl (.int .u8))) (.cons (.v (.sl (.int .u8))) .nilL))⟩
abbrev ref49_Extends.R0 : Sig := ⟨1, [], (.nilL), [0], (.cons (.v .bool) .nilL)⟩
abbrev ref49_Extends.outs : List Out := [⟨.ret, ref49_Extends.R0, Bool, fun y => ((), (y, ())), fun x => x.2.1⟩]
abbrev ref49_Extends.l58.A : Sig := ⟨26, [], (.nilL), [0, 12, 13, 14], (.cons (.v (.sl (.int .u8))) (.cons (.v (.sl (.int .u8))) (.cons (.v (.int .i64)) (.cons (.v (.int .i64)) .nilL))))⟩
abbrev ref49_Extends.l58.R0 : Sig := ⟨26, [], (.nilL), [], (.nilL)⟩
abbrev ref49_Extends.l58.R1 : Sig := ⟨26, [], (.nilL), [4], (.cons (.v .bool) .nilL)⟩
abbrev ref49_Extends.l58.outs : List Out := [⟨(.exit 0), ref49_Extends.l58.R0, Unit, fun y => ((), ()), fun x => ()⟩, ⟨.ret, ref49_Extends.l58.R1, Bool, fun y => ((), (y, ())), fun x => x.2.1⟩]
def ref49_Extends.l58 (k : Nat) : Nat → (List Int) → (List Int) → Int → Int → Option ((Unit) ⊕ (Bool))
  | 0, _, _, _, _ => none
  | q + 1, x0, x1, x2, x3 =>
    cond (decide (x3 < x2))
    (cond (inB x3 x1.length)
      (cond (inB x3 x0.length)
        (cond ((rdL (.int .u8) x0 x3) != (rdL (.int .u8) x1 x3))
          (some (.inr false))
          (ref49_Extends.l58 k q x0 x1 x2 (IntKind.wrap .i64 (x3 + 1))))
        (none))
      (none))
    (some (.inl ()))
abbrev ref49_Extends.l58.pc (k : Nat) : Pc := ⟨ref49_Extends.l58.A, ref49_Extends.l58.outs, fun x => ref49_Extends.l58 k k x.2.1 x.2.2.1 x.2.2.2.1 x.2.2.2.2.1⟩
def ref49_Extends.f (k : Nat) (a0 : List Int) (a1 : List Int) : Option (Bool) :=
  cond (decide ((a1.length : Int) > (a0.length : Int)))
  (some false)
  ((ref49_Extends.l58 k k a0 a1 (a1.length : Int) 0).bind fun y1 =>
    Sum.casesOn (motive := fun _ => Option _) y1 (fun u2 =>
    some true)
    (fun v3 =>
    some v3))
abbrev ref49_Extends.E (k : Nat) : Ent := ⟨ref49_Extends.A, ref49_Extends.outs, fun x => ref49_Extends.f k x.2.1 x.2.2.1⟩
noncomputable abbrev ref49_Extends.C (k : Nat) : Cfg := ⟨Tryz.prog, shs, look2 [], look [(58, ref49_Extends.l58.pc k)]⟩
theorem ref49_Extends.l58.ev (k q : Nat) (x : ref49_Extends.l58.A.V) : ((codeAt 60 (bodyOf (Tryz.f26)) 58).bind fun c => (loopOf c).bind fun c1 => evL (ref49_Extends.C k) c1 58 ref49_Extends.l58.A ref49_Extends.l58.outs (fun x => ref49_Extends.l58 k q x.2.1 x.2.2.1 x.2.2.2.1 x.2.2.2.2.1) x) = ref49_Extends.l58 k (q + 1) x.2.1 x.2.2.1 x.2.2.2.1 x.2.2.2.2.1 := by kernel_rfl
theorem ref49_Extends.ev (k : Nat) (x : ref49_Extends.A.V) : evF (ref49_Extends.C k) Tryz.f26 ref49_Extends.A ref49_Extends.outs x = ref49_Extends.f k x.2.1 x.2.2.1 := by kernel_rfl
theorem ref49_Extends.at : Tryz.prog.funcs[26]? = some Tryz.f26 := by kernel_rfl
theorem ref49_Extends.bo : Tryz.f26.body = some (bodyOf (Tryz.f26)) := by kernel_rfl
theorem ref49_Extends.nm : (Tryz.f26.name == "runtime.NumGoroutine") = false := by kernel_rfl
theorem ref49_Extends.sat (k : Nat) : Sat Tryz.prog 26 (ref49_Extends.E k) :=
  have hC : ∀ g l N, (ref49_Extends.C k).orc g l = some N → Sat Tryz.prog g N := satAll satNil
  sat_of (C := ref49_Extends.C k) hC mixed ref49_Extends.at ref49_Extends.nm ref49_Extends.bo (all_pieces rfl (locCons (loc_loop (A := ref49_Extends.l58.A) (outs := ref49_Extends.l58.outs) hC mixed (dstOk_zero _) (fun (q : Nat) (x : ref49_Extends.l58.A.V) => ref49_Extends.l58 k q x.2.1 x.2.2.1 x.2.2.2.1 x.2.2.2.2.1) (fun _ => rfl) (ref49_Extends.l58.ev k) (ooC (fun _ => rfl) (ooC (fun _ => rfl) ooN)) rfl rfl k) locNil)) (ref49_Extends.ev k) (ooC (fun _ => rfl) ooN) (dstOk_zero _) (by decide) rfl

/-! ### ref52_Join: function 11 (examboard/examboardref52.Join) -/
abbrev ref52_Join.A : Sig := ⟨2, [], (.nilL), [0, 1], (.cons (.v (.sl (.int .u8))) (.cons (.v (.sl (.int .u8))) .nilL))⟩
abbrev ref52_Join.R0 : Sig := ⟨1, [], (.nilL), [0], (.cons (.tup (.cons (.v (.sl (.int .u8))) (.cons (.v (.int .i64)) .nilL))) .nilL)⟩
abbrev ref52_Join.outs : List Out := [⟨.ret, ref52_Join.R0, List Int × Int, fun y => ((), ((y.1, y.2, ()), ())), fun x => (x.2.1.1, x.2.1.2.1)⟩]
def ref52_Join.f (k : Nat) (a0 : List Int) (a1 : List Int) : Option (List Int × Int) :=
  (ref49_Trim.f k a0).bind fun y1 =>
  (ref49_Trim.f k a1).bind fun y2 =>
  (ref49_Extends.f k y1 y2).bind fun y3 =>
  cond y3
  (some (y1, 0))
  ((ref49_Extends.f k y2 y1).bind fun y4 =>
    cond y4
    (some (y2, 0))
    (some (([] : List Int), 11)))
abbrev ref52_Join.E (k : Nat) : Ent := ⟨ref52_Join.A, ref52_Join.outs, fun x => ref52_Join.f k x.2.1 x.2.2.1⟩
noncomputable abbrev ref52_Join.C (k : Nat) : Cfg := ⟨Tryz.prog, shs, look2 [(26, [], ref49_Extends.E k), (25, [], ref49_Trim.E k)], look []⟩
theorem ref52_Join.ev (k : Nat) (x : ref52_Join.A.V) : evF (ref52_Join.C k) Tryz.f11 ref52_Join.A ref52_Join.outs x = ref52_Join.f k x.2.1 x.2.2.1 := by kernel_rfl
theorem ref52_Join.at : Tryz.prog.funcs[11]? = some Tryz.f11 := by kernel_rfl
theorem ref52_Join.bo : Tryz.f11.body = some (bodyOf (Tryz.f11)) := by kernel_rfl
theorem ref52_Join.nm : (Tryz.f11.name == "runtime.NumGoroutine") = false := by kernel_rfl
theorem ref52_Join.sat (k : Nat) : Sat Tryz.prog 11 (ref52_Join.E k) :=
  have hC : ∀ g l N, (ref52_Join.C k).orc g l = some N → Sat Tryz.prog g N := satAll (satCons (ref49_Extends.sat k) (satCons (ref49_Trim.sat k) satNil))
  sat_of (C := ref52_Join.C k) hC mixed ref52_Join.at ref52_Join.nm ref52_Join.bo (all_pieces rfl locNil) (ref52_Join.ev k) (ooC (fun _ => rfl) ooN) (dstOk_zero _) (by decide) rfl

/-! ### law52_ResumeJournals: function 3 (examboard/examboardlaw52.ResumeJournals) -/
abbrev law52_ResumeJournals.A : Sig := ⟨3, [], (.nilL), [0, 1, 2], (.cons (.v (.sl (.int .u8))) (.cons (.v (.sl (.int .u8))) (.cons (.agg (.cons (.v (.int .i64)) (.cons (.v (.int .i64)) (.cons (.v (.int .i64)) (.cons (.v (.sl (.int .i64))) (.cons (.v (.int .i64)) (.cons (.v .str) (.cons (.v .bool) (.cons (.v (.int .i64)) (.cons (.v (.int .i64)) (.cons (.v (.int .i64)) (.cons (.v (.int .i64)) .nilL)))))))))))) .nilL)))⟩
abbrev law52_ResumeJournals.R0 : Sig := ⟨1, [], (.nilL), [0], (.cons (.v .bool) .nilL)⟩
abbrev law52_ResumeJournals.outs : List Out := [⟨.ret, law52_ResumeJournals.R0, Bool, fun y => ((), (y, ())), fun x => x.2.1⟩]
def law52_ResumeJournals.f (k : Nat) (a0 : List Int) (a1 : List Int) (a2 : Int) (a3 : Int) (a4 : Int) (a5 : List Int) (a6 : Int) (a7 : ByteArray) (a8 : Bool) (a9 : Int) (a10 : Int) (a11 : Int) (a12 : Int) : Option (Bool) :=
  Option.bind (cond (decide ((a0.length : Int) > 5000))
    (some true)
    (some (decide ((a1.length : Int) > 5000)))) fun (c1 : Bool) =>
  cond c1
  (some true)
  ((resume_Write.f k a0 a2 a3 a4 a5 a6 a7 a8 a9 a10 a11 a12).bind fun y2 =>
    (ref52_Write.f k a0 a2 a3 a4 a5 a6 a7 a8 a9 a10 a11 a12).bind fun y3 =>
    Option.bind (cond (y2.2 != y3.2)
      (some true)
      ((law52_bytes.f k y2.1 y3.1).bind fun y4 =>
        some (!y4))) fun (c5 : Bool) =>
    cond c5
    (some false)
    ((resume_Events.f k a0).bind fun y6 =>
      (ref52_Events.f k a0).bind fun y7 =>
      Option.bind (cond (y6.2.2 != y7.2.2)
        (some true)
        (some (y6.2.1 != y7.2.1))) fun (c8 : Bool) =>
      Option.bind (cond c8
        (some true)
        ((law52_events.f k y6.1 y7.1).bind fun y9 =>
          some (!y9))) fun (c10 : Bool) =>
      cond c10
      (some false)
      ((resume_Join.f k a0 a1).bind fun y11 =>
        (ref52_Join.f k a0 a1).bind fun y12 =>
        Option.bind (cond (y11.2 == y12.2)
          ((law52_bytes.f k y11.1 y12.1).bind fun y13 =>
            some y13)
          (some false)) fun (c14 : Bool) =>
        some c14)))
abbrev law52_ResumeJournals.E (k : Nat) : Ent := ⟨law52_ResumeJournals.A, law52_ResumeJournals.outs, fun x => law52_ResumeJournals.f k x.2.1 x.2.2.1 x.2.2.2.1.1 x.2.2.2.1.2.1 x.2.2.2.1.2.2.1 x.2.2.2.1.2.2.2.1 x.2.2.2.1.2.2.2.2.1 x.2.2.2.1.2.2.2.2.2.1 x.2.2.2.1.2.2.2.2.2.2.1 x.2.2.2.1.2.2.2.2.2.2.2.1 x.2.2.2.1.2.2.2.2.2.2.2.2.1 x.2.2.2.1.2.2.2.2.2.2.2.2.2.1 x.2.2.2.1.2.2.2.2.2.2.2.2.2.2.1⟩
noncomputable abbrev law52_ResumeJournals.C (k : Nat) : Cfg := ⟨Tryz.prog, shs, look2 [(6, [], law52_bytes.E k), (9, [], law52_events.E k), (8, [], ref52_Events.E k), (11, [], ref52_Join.E k), (5, [], ref52_Write.E k), (7, [], resume_Events.E k), (10, [], resume_Join.E k), (4, [], resume_Write.E k)], look []⟩
theorem law52_ResumeJournals.ev (k : Nat) (x : law52_ResumeJournals.A.V) : evF (law52_ResumeJournals.C k) Tryz.f3 law52_ResumeJournals.A law52_ResumeJournals.outs x = law52_ResumeJournals.f k x.2.1 x.2.2.1 x.2.2.2.1.1 x.2.2.2.1.2.1 x.2.2.2.1.2.2.1 x.2.2.2.1.2.2.2.1 x.2.2.2.1.2.2.2.2.1 x.2.2.2.1.2.2.2.2.2.1 x.2.2.2.1.2.2.2.2.2.2.1 x.2.2.2.1.2.2.2.2.2.2.2.1 x.2.2.2.1.2.2.2.2.2.2.2.2.1 x.2.2.2.1.2.2.2.2.2.2.2.2.2.1 x.2.2.2.1.2.2.2.2.2.2.2.2.2.2.1 := by kernel_rfl
theorem law52_ResumeJournals.at : Tryz.prog.funcs[3]? = some Tryz.f3 := by kernel_rfl
theorem law52_ResumeJournals.bo : Tryz.f3.body = some (bodyOf (Tryz.f3)) := by kernel_rfl
theorem law52_ResumeJournals.nm : (Tryz.f3.name == "runtime.NumGoroutine") = false := by kernel_rfl
theorem law52_ResumeJournals.sat (k : Nat) : Sat Tryz.prog 3 (law52_ResumeJournals.E k) :=
  have hC : ∀ g l N, (law52_ResumeJournals.C k).orc g l = some N → Sat Tryz.prog g N := satAll (satCons (law52_bytes.sat k) (satCons (law52_events.sat k) (satCons (ref52_Events.sat k) (satCons (ref52_Join.sat k) (satCons (ref52_Write.sat k) (satCons (resume_Events.sat k) (satCons (resume_Join.sat k) (satCons (resume_Write.sat k) satNil))))))))
  sat_of (C := law52_ResumeJournals.C k) hC mixed law52_ResumeJournals.at law52_ResumeJournals.nm law52_ResumeJournals.bo (all_pieces rfl locNil) (law52_ResumeJournals.ev k) (ooC (fun _ => rfl) ooN) (dstOk_zero _) (by decide) rfl
end
end Gv
