import Derived.Test.YtgkcdgbegkpmoaaGreatDoorGzHb
namespace Gv
open Go Go.Proofs
set_option linter.unusedVariables false
set_option linter.unusedSectionVars false
set_option maxRecDepth 1000000

section
/-! ### resume_empty: function 51 (examboard/resume.empty) -/
abbrev resume_empty.A : Sig := ⟨1, [], (.nilL), [0], (.cons (.agg (.cons (.v (.int .i64)) (.cons (.v (.sl (.int .i64))) (.cons (.v (.int .i64)) (.cons (.v .str) (.cons (.v .bool) .nilL)))))) .nilL)⟩
abbrev resume_empty.R0 : Sig := ⟨1, [], (.nilL), [0], (.cons (.v .bool) .nilL)⟩
abbrev resume_empty.outs : List Out := [⟨.ret, resume_empty.R0, Bool, fun y => ((), (y, ())), fun x => x.2.1⟩]
def resume_empty.f (k : Nat) (a0 : Int) (a1 : List Int) (a2 : Int) (a3 : ByteArray) (a4 : Bool) : Option (Bool) :=
  Option.bind (cond (a0 == 0)
    (some ((a1.length : Int) == 0))
    (some false)) fun (c1 : Bool) =>
  Option.bind (cond c1
    (some (a2 == 0))
    (some false)) fun (c2 : Bool) =>
  Option.bind (cond c2
    (some (a3.toList == (⟨#[]⟩ : ByteArray).toList))
    (some false)) fun (c3 : Bool) =>
  Option.bind (cond c3
    (some (!a4))
    (some false)) fun (c4 : Bool) =>
  some c4
abbrev resume_empty.E (k : Nat) : Ent := ⟨resume_empty.A, resume_empty.outs, fun x => resume_empty.f k x.2.1.1 x.2.1.2.1 x.2.1.2.2.1 x.2.1.2.2.2.1 x.2.1.2.2.2.2.1⟩
noncomputable abbrev resume_empty.C (k : Nat) : Cfg := ⟨Tryz.prog, shs, look2 [], look []⟩
theorem resume_empty.ev (k : Nat) (x : resume_empty.A.V) : evF (resume_empty.C k) Tryz.f51 resume_empty.A resume_empty.outs x = resume_empty.f k x.2.1.1 x.2.1.2.1 x.2.1.2.2.1 x.2.1.2.2.2.1 x.2.1.2.2.2.2.1 := by kernel_rfl
theorem resume_empty.at : Tryz.prog.funcs[51]? = some Tryz.f51 := by kernel_rfl
theorem resume_empty.bo : Tryz.f51.body = some (bodyOf (Tryz.f51)) := by kernel_rfl
theorem resume_empty.nm : (Tryz.f51.name == "runtime.NumGoroutine") = false := by kernel_rfl
theorem resume_empty.sat (k : Nat) : Sat Tryz.prog 51 (resume_empty.E k) :=
  have hC : ∀ g l N, (resume_empty.C k).orc g l = some N → Sat Tryz.prog g N := satAll satNil
  sat_of (C := resume_empty.C k) hC mixed resume_empty.at resume_empty.nm resume_empty.bo (all_pieces rfl locNil) (resume_empty.ev k) (ooC (fun _ => rfl) ooN) (dstOk_zero _) (by decide) rfl

/-! ### resume_valid: function 27 (examboard/resume.valid) -/
abbrev resume_valid.A : Sig := ⟨1, [], (.nilL), [0], (.cons (.agg (.cons (.v (.int .i64)) (.cons (.v (.int .i64)) (.cons (.v (.int .i64)) (.cons (.v (.sl (.int .i64))) (.cons (.v (.int .i64)) (.cons (.v .str) (.cons (.v .bool) (.cons (.v (.int .i64)) (.cons (.v (.int .i64)) (.cons (.v (.int .i64)) (.cons (.v (.int .i64)) .nilL)))))))))))) .nilL)⟩
abbrev resume_valid.R0 : Sig := ⟨1, [], (.nilL), [0], (.cons (.v (.int .i64)) .nilL)⟩
abbrev resume_valid.outs : List Out := [⟨.ret, resume_valid.R0, Int, fun y => ((), (y, ())), fun x => x.2.1⟩]
def resume_valid.f (k : Nat) (a0 : Int) (a1 : Int) (a2 : Int) (a3 : List Int) (a4 : Int) (a5 : ByteArray) (a6 : Bool) (a7 : Int) (a8 : Int) (a9 : Int) (a10 : Int) : Option (Int) :=
  Option.bind (cond (decide (a0 < 1))
    (some true)
    (some (decide (a0 > 6)))) fun (c1 : Bool) =>
  cond c1
  (some 1)
  (Option.bind (cond (a0 != 2)
      ((resume_empty.f k a2 a3 a4 a5 a6).bind fun y2 =>
        some (!y2))
      (some false)) fun (c3 : Bool) =>
    cond c3
    (some 1)
    (Option.bind (cond (a0 != 5)
        (some (!((a7 == 0) && ((a8 == 0) && ((a9 == 0) && ((a10 == 0) && true))))))
        (some false)) fun (c4 : Bool) =>
      cond c4
      (some 1)
      (Option.bind (cond (a0 == 5)
          (some (a8 != a1))
          (some false)) fun (c5 : Bool) =>
        cond c5
        (some 1)
        (Option.bind (cond (decide (a1 < 0))
            (some true)
            (some (decide (a1 > 1099511627776)))) fun (c6 : Bool) =>
          cond c6
          (some 3)
          (Option.bind (cond (decide ((a3.length : Int) > 10))
              (some true)
              (some (decide ((a5.size : Int) > 1000)))) fun (c7 : Bool) =>
            cond c7
            (some 5)
            (some 0))))))
abbrev resume_valid.E (k : Nat) : Ent := ⟨resume_valid.A, resume_valid.outs, fun x => resume_valid.f k x.2.1.1 x.2.1.2.1 x.2.1.2.2.1 x.2.1.2.2.2.1 x.2.1.2.2.2.2.1 x.2.1.2.2.2.2.2.1 x.2.1.2.2.2.2.2.2.1 x.2.1.2.2.2.2.2.2.2.1 x.2.1.2.2.2.2.2.2.2.2.1 x.2.1.2.2.2.2.2.2.2.2.2.1 x.2.1.2.2.2.2.2.2.2.2.2.2.1⟩
noncomputable abbrev resume_valid.C (k : Nat) : Cfg := ⟨Tryz.prog, shs, look2 [(51, [], resume_empty.E k)], look []⟩
theorem resume_valid.ev (k : Nat) (x : resume_valid.A.V) : evF (resume_valid.C k) Tryz.f27 resume_valid.A resume_valid.outs x = resume_valid.f k x.2.1.1 x.2.1.2.1 x.2.1.2.2.1 x.2.1.2.2.2.1 x.2.1.2.2.2.2.1 x.2.1.2.2.2.2.2.1 x.2.1.2.2.2.2.2.2.1 x.2.1.2.2.2.2.2.2.2.1 x.2.1.2.2.2.2.2.2.2.2.1 x.2.1.2.2.2.2.2.2.2.2.2.1 x.2.1.2.2.2.2.2.2.2.2.2.2.1 := by kernel_rfl
theorem resume_valid.at : Tryz.prog.funcs[27]? = some Tryz.f27 := by kernel_rfl
theorem resume_valid.bo : Tryz.f27.body = some (bodyOf (Tryz.f27)) := by kernel_rfl
theorem resume_valid.nm : (Tryz.f27.name == "runtime.NumGoroutine") = false := by kernel_rfl
theorem resume_valid.sat (k : Nat) : Sat Tryz.prog 27 (resume_valid.E k) :=
  have hC : ∀ g l N, (resume_valid.C k).orc g l = some N → Sat Tryz.prog g N := satAll (satCons (resume_empty.sat k) satNil)
  sat_of (C := resume_valid.C k) hC mixed resume_valid.at resume_valid.nm resume_valid.bo (all_pieces rfl locNil) (resume_valid.ev k) (ooC (fun _ => rfl) ooN) (dstOk_zero _) (by decide) rfl

/-! ### codec_Int: function 52 (examboard/codec.Int) -/
abbrev codec_Int.A : Sig := ⟨2, [], (.nilL), [0, 1], (.cons (.v (.int .i64)) (.cons (.v (.int .i64)) .nilL))⟩
abbrev codec_Int.R0 : Sig := ⟨1, [], (.nilL), [0], (.cons (.agg (.cons (.v (.int .i64)) (.cons (.v (.int .i64)) (.cons (.v (.int .i64)) (.cons (.v .str) (.cons (.v (.sl .node)) .nilL)))))) .nilL)⟩
abbrev codec_Int.outs : List Out := [⟨.ret, codec_Int.R0, Int × Int × Int × ByteArray × List Nd, fun y => ((), ((y.1, y.2.1, y.2.2.1, y.2.2.2.1, y.2.2.2.2, ()), ())), fun x => (x.2.1.1, x.2.1.2.1, x.2.1.2.2.1, x.2.1.2.2.2.1, x.2.1.2.2.2.2.1)⟩]
def codec_Int.f (k : Nat) (a0 : Int) (a1 : Int) : Option (Int × Int × Int × ByteArray × List Nd) :=
  some (a0, 1, a1, (⟨#[]⟩ : ByteArray), ([] : List Nd))
abbrev codec_Int.E (k : Nat) : Ent := ⟨codec_Int.A, codec_Int.outs, fun x => codec_Int.f k x.2.1 x.2.2.1⟩
noncomputable abbrev codec_Int.C (k : Nat) : Cfg := ⟨Tryz.prog, shs, look2 [], look []⟩
theorem codec_Int.ev (k : Nat) (x : codec_Int.A.V) : evF (codec_Int.C k) Tryz.f52 codec_Int.A codec_Int.outs x = codec_Int.f k x.2.1 x.2.2.1 := by kernel_rfl
theorem codec_Int.at : Tryz.prog.funcs[52]? = some Tryz.f52 := by kernel_rfl
theorem codec_Int.bo : Tryz.f52.body = some (bodyOf (Tryz.f52)) := by kernel_rfl
theorem codec_Int.nm : (Tryz.f52.name == "runtime.NumGoroutine") = false := by kernel_rfl
theorem codec_Int.sat (k : Nat) : Sat Tryz.prog 52 (codec_Int.E k) :=
  have hC : ∀ g l N, (codec_Int.C k).orc g l = some N → Sat Tryz.prog g N := satAll satNil
  sat_of (C := codec_Int.C k) hC mixed codec_Int.at codec_Int.nm codec_Int.bo (all_pieces rfl locNil) (codec_Int.ev k) (ooC (fun _ => rfl) ooN) (dstOk_zero _) (by decide) rfl

/-! ### resume_number: function 28 (examboard/resume.number) -/
abbrev resume_number.A : Sig := ⟨2, [], (.nilL), [0, 1], (.cons (.v (.int .i64)) (.cons (.v (.int .i64)) .nilL))⟩
abbrev resume_number.R0 : Sig := ⟨1, [], (.nilL), [0], (.cons (.agg (.cons (.v (.int .i64)) (.cons (.v (.int .i64)) (.cons (.v (.int .i64)) (.cons (.v .str) (.cons (.v (.sl .node)) .nilL)))))) .nilL)⟩
abbrev resume_number.outs : List Out := [⟨.ret, resume_number.R0, Int × Int × Int × ByteArray × List Nd, fun y => ((), ((y.1, y.2.1, y.2.2.1, y.2.2.2.1, y.2.2.2.2, ()), ())), fun x => (x.2.1.1, x.2.1.2.1, x.2.1.2.2.1, x.2.1.2.2.2.1, x.2.1.2.2.2.2.1)⟩]
def resume_number.f (k : Nat) (a0 : Int) (a1 : Int) : Option (Int × Int × Int × ByteArray × List Nd) :=
  (codec_Int.f k a0 a1).bind fun y1 =>
  some (y1.1, y1.2.1, y1.2.2.1, y1.2.2.2.1, y1.2.2.2.2)
abbrev resume_number.E (k : Nat) : Ent := ⟨resume_number.A, resume_number.outs, fun x => resume_number.f k x.2.1 x.2.2.1⟩
noncomputable abbrev resume_number.C (k : Nat) : Cfg := ⟨Tryz.prog, shs, look2 [(52, [], codec_Int.E k)], look []⟩
theorem resume_number.ev (k : Nat) (x : resume_number.A.V) : evF (resume_number.C k) Tryz.f28 resume_number.A resume_number.outs x = resume_number.f k x.2.1 x.2.2.1 := by kernel_rfl
theorem resume_number.at : Tryz.prog.funcs[28]? = some Tryz.f28 := by kernel_rfl
theorem resume_number.bo : Tryz.f28.body = some (bodyOf (Tryz.f28)) := by kernel_rfl
theorem resume_number.nm : (Tryz.f28.name == "runtime.NumGoroutine") = false := by kernel_rfl
theorem resume_number.sat (k : Nat) : Sat Tryz.prog 28 (resume_number.E k) :=
  have hC : ∀ g l N, (resume_number.C k).orc g l = some N → Sat Tryz.prog g N := satAll (satCons (codec_Int.sat k) satNil)
  sat_of (C := resume_number.C k) hC mixed resume_number.at resume_number.nm resume_number.bo (all_pieces rfl locNil) (resume_number.ev k) (ooC (fun _ => rfl) ooN) (dstOk_zero _) (by decide) rfl

/-! ### codec_clone: function 53 (examboard/codec.clone) -/
abbrev codec_clone.A : Sig := ⟨1, [], (.nilL), [0], (.cons (.agg (.cons (.v (.int .i64)) (.cons (.v (.int .i64)) (.cons (.v (.int .i64)) (.cons (.v .str) (.cons (.v (.sl .node)) .nilL)))))) .nilL)⟩
abbrev codec_clone.R0 : Sig := ⟨1, [], (.nilL), [0], (.cons (.agg (.cons (.v (.int .i64)) (.cons (.v (.int .i64)) (.cons (.v (.int .i64)) (.cons (.v .str) (.cons (.v (.sl .node)) .nilL)))))) .nilL)⟩
abbrev codec_clone.outs : List Out := [⟨.ret, codec_clone.R0, Int × Int × Int × ByteArray × List Nd, fun y => ((), ((y.1, y.2.1, y.2.2.1, y.2.2.2.1, y.2.2.2.2, ()), ())), fun x => (x.2.1.1, x.2.1.2.1, x.2.1.2.2.1, x.2.1.2.2.2.1, x.2.1.2.2.2.2.1)⟩]
abbrev codec_clone.l122.A : Sig := ⟨24, [.slot 2, .cell 0 4, .slot 3, .cell 2 4], (.cons (.obox (.cons (.v (.int .i64)) (.cons (.v (.int .i64)) (.cons (.v (.int .i64)) (.cons (.v .str) (.cons (.rowr 1) .nilL)))))) (.cons (.orow 42 .node) (.cons (.obox (.cons (.v (.int .i64)) (.cons (.v (.int .i64)) (.cons (.v (.int .i64)) (.cons (.v .str) (.cons (.rowr 3) .nilL)))))) (.cons (.orow 42 .node) .nilL)))), [2, 3, 9, 10, 11], (.cons (.boxr 0 0) (.cons (.boxr 2 0) (.cons (.v (.sl .node)) (.cons (.v (.int .i64)) (.cons (.v (.int .i64)) .nilL)))))⟩
abbrev codec_clone.l122.R0 : Sig := ⟨24, [.slot 2, .cell 0 4, .slot 3, .cell 2 4], (.cons (.obox (.cons (.v (.int .i64)) (.cons (.v (.int .i64)) (.cons (.v (.int .i64)) (.cons (.v .str) (.cons (.rowr 1) .nilL)))))) (.cons (.orow 42 .node) (.cons (.obox (.cons (.v (.int .i64)) (.cons (.v (.int .i64)) (.cons (.v (.int .i64)) (.cons (.v .str) (.cons (.rowr 3) .nilL)))))) (.cons (.orow 42 .node) .nilL)))), [2, 3], (.cons (.boxr 0 0) (.cons (.boxr 2 0) .nilL))⟩
abbrev codec_clone.l122.outs : List Out := [⟨(.exit 0), codec_clone.l122.R0, Int × Int × Int × ByteArray × List Nd × Int × Int × Int × ByteArray × List Nd, fun y => (((y.1, y.2.1, y.2.2.1, y.2.2.2.1, (), ()), y.2.2.2.2.1, (y.2.2.2.2.2.1, y.2.2.2.2.2.2.1, y.2.2.2.2.2.2.2.1, y.2.2.2.2.2.2.2.2.1, (), ()), y.2.2.2.2.2.2.2.2.2, ()), ((), (), ())), fun x => (x.1.1.1, x.1.1.2.1, x.1.1.2.2.1, x.1.1.2.2.2.1, x.1.2.1, x.1.2.2.1.1, x.1.2.2.1.2.1, x.1.2.2.1.2.2.1, x.1.2.2.1.2.2.2.1, x.1.2.2.2.1)⟩]
def codec_clone.l122 (self : Int → Int → Int → ByteArray → (List Nd) → Option (Int × Int × Int × ByteArray × List Nd)) (k : Nat) : Nat → Int → Int → Int → ByteArray → (List Nd) → Int → Int → Int → ByteArray → (List Nd) → (List Nd) → Int → Int → Option (Int × Int × Int × ByteArray × List Nd × Int × Int × Int × ByteArray × List Nd)
  | 0, _, _, _, _, _, _, _, _, _, _, _, _, _ => none
  | q + 1, x0, x1, x2, x3, x4, x5, x6, x7, x8, x9, x10, x11, x12 =>
    cond (decide (x12 < x11))
    (cond (inB x12 x10.length)
      ((self ((rdL .node x10 x12).tag) ((rdL .node x10 x12).kind) ((rdL .node x10 x12).n) ((rdL .node x10 x12).s) ((rdL .node x10 x12).kids)).bind fun y2 =>
        cond (fits (x9.length + 1) 64)
        (codec_clone.l122 self k q x0 x1 x2 x3 x4 x5 x6 x7 x8 (x9 ++ [(⟨y2.1, y2.2.1, y2.2.2.1, y2.2.2.2.1, y2.2.2.2.2⟩ : Nd)]) x10 x11 (IntKind.wrap .i64 (x12 + 1)))
        (none))
      (none))
    (some (x0, x1, x2, x3, x4, x5, x6, x7, x8, x9))
abbrev codec_clone.l122.pc (self : Int → Int → Int → ByteArray → (List Nd) → Option (Int × Int × Int × ByteArray × List Nd)) (k : Nat) : Pc := ⟨codec_clone.l122.A, codec_clone.l122.outs, fun x => codec_clone.l122 self k k x.1.1.1 x.1.1.2.1 x.1.1.2.2.1 x.1.1.2.2.2.1 x.1.2.1 x.1.2.2.1.1 x.1.2.2.1.2.1 x.1.2.2.1.2.2.1 x.1.2.2.1.2.2.2.1 x.1.2.2.2.1 x.2.2.2.1 x.2.2.2.2.1 x.2.2.2.2.2.1⟩
def codec_clone.g (self : Int → Int → Int → ByteArray → (List Nd) → Option (Int × Int × Int × ByteArray × List Nd)) (k : Nat) (a0 : Int) (a1 : Int) (a2 : Int) (a3 : ByteArray) (a4 : List Nd) : Option (Int × Int × Int × ByteArray × List Nd) :=
  (codec_clone.l122 self k k 0 0 0 (⟨#[]⟩ : ByteArray) ([] : List Nd) a0 a1 a2 a3 ([] : List Nd) a4 (a4.length : Int) 0).bind fun y3 =>
  some (y3.2.2.2.2.2.1, y3.2.2.2.2.2.2.1, y3.2.2.2.2.2.2.2.1, y3.2.2.2.2.2.2.2.2.1, y3.2.2.2.2.2.2.2.2.2)
def codec_clone.f : Nat → Int → Int → Int → ByteArray → (List Nd) → Option (Int × Int × Int × ByteArray × List Nd)
  | 0, _, _, _, _, _ => none
  | k + 1, a0, a1, a2, a3, a4 => codec_clone.g (codec_clone.f k) k a0 a1 a2 a3 a4
abbrev codec_clone.ES (self : Int → Int → Int → ByteArray → (List Nd) → Option (Int × Int × Int × ByteArray × List Nd)) : Ent := ⟨codec_clone.A, codec_clone.outs, fun x => self x.2.1.1 x.2.1.2.1 x.2.1.2.2.1 x.2.1.2.2.2.1 x.2.1.2.2.2.2.1⟩
abbrev codec_clone.E (k : Nat) : Ent := ⟨codec_clone.A, codec_clone.outs, fun x => codec_clone.f k x.2.1.1 x.2.1.2.1 x.2.1.2.2.1 x.2.1.2.2.2.1 x.2.1.2.2.2.2.1⟩
noncomputable abbrev codec_clone.C (self : Int → Int → Int → ByteArray → (List Nd) → Option (Int × Int × Int × ByteArray × List Nd)) (k : Nat) : Cfg := ⟨Tryz.prog, shs, look2 [(53, [], codec_clone.ES self)], look [(122, codec_clone.l122.pc self k)]⟩
theorem codec_clone.l122.ev (self : Int → Int → Int → ByteArray → (List Nd) → Option (Int × Int × Int × ByteArray × List Nd)) (k q : Nat) (x : codec_clone.l122.A.V) : ((codeAt 60 (bodyOf (Tryz.f53)) 122).bind fun c => (loopOf c).bind fun c1 => evL (codec_clone.C self k) c1 122 codec_clone.l122.A codec_clone.l122.outs (fun x => codec_clone.l122 self k q x.1.1.1 x.1.1.2.1 x.1.1.2.2.1 x.1.1.2.2.2.1 x.1.2.1 x.1.2.2.1.1 x.1.2.2.1.2.1 x.1.2.2.1.2.2.1 x.1.2.2.1.2.2.2.1 x.1.2.2.2.1 x.2.2.2.1 x.2.2.2.2.1 x.2.2.2.2.2.1) x) = codec_clone.l122 self k (q + 1) x.1.1.1 x.1.1.2.1 x.1.1.2.2.1 x.1.1.2.2.2.1 x.1.2.1 x.1.2.2.1.1 x.1.2.2.1.2.1 x.1.2.2.1.2.2.1 x.1.2.2.1.2.2.2.1 x.1.2.2.2.1 x.2.2.2.1 x.2.2.2.2.1 x.2.2.2.2.2.1 := by kernel_rfl
theorem codec_clone.ev (self : Int → Int → Int → ByteArray → (List Nd) → Option (Int × Int × Int × ByteArray × List Nd)) (k : Nat) (x : codec_clone.A.V) : evF (codec_clone.C self k) Tryz.f53 codec_clone.A codec_clone.outs x = codec_clone.g self k x.2.1.1 x.2.1.2.1 x.2.1.2.2.1 x.2.1.2.2.2.1 x.2.1.2.2.2.2.1 := by kernel_rfl
theorem codec_clone.at : Tryz.prog.funcs[53]? = some Tryz.f53 := by kernel_rfl
theorem codec_clone.bo : Tryz.f53.body = some (bodyOf (Tryz.f53)) := by kernel_rfl
theorem codec_clone.nm : (Tryz.f53.name == "runtime.NumGoroutine") = false := by kernel_rfl
theorem codec_clone.satS (self : Int → Int → Int → ByteArray → (List Nd) → Option (Int × Int × Int × ByteArray × List Nd)) (k : Nat) (hS : Sat Tryz.prog 53 (codec_clone.ES self)) : Sat Tryz.prog 53 ⟨codec_clone.A, codec_clone.outs, fun x => codec_clone.g self k x.2.1.1 x.2.1.2.1 x.2.1.2.2.1 x.2.1.2.2.2.1 x.2.1.2.2.2.2.1⟩ :=
  have hC : ∀ g l N, (codec_clone.C self k).orc g l = some N → Sat Tryz.prog g N := satAll (satCons hS satNil)
  sat_of (C := codec_clone.C self k) hC mixed codec_clone.at codec_clone.nm codec_clone.bo (all_pieces rfl (locCons (loc_loop (A := codec_clone.l122.A) (outs := codec_clone.l122.outs) hC mixed (dstOk_zero _) (fun (q : Nat) (x : codec_clone.l122.A.V) => codec_clone.l122 self k q x.1.1.1 x.1.1.2.1 x.1.1.2.2.1 x.1.1.2.2.2.1 x.1.2.1 x.1.2.2.1.1 x.1.2.2.1.2.1 x.1.2.2.1.2.2.1 x.1.2.2.1.2.2.2.1 x.1.2.2.2.1 x.2.2.2.1 x.2.2.2.2.1 x.2.2.2.2.2.1) (fun _ => rfl) (codec_clone.l122.ev self k) (ooC (fun _ => rfl) ooN) rfl rfl k) locNil)) (codec_clone.ev self k) (ooC (fun _ => rfl) ooN) (dstOk_zero _) (by decide) rfl
theorem codec_clone.sat : ∀ k, Sat Tryz.prog 53 (codec_clone.E k)
  | 0 => sat_none codec_clone.at codec_clone.nm codec_clone.bo (fun _ => rfl)
  | k + 1 => codec_clone.satS (codec_clone.f k) k (codec_clone.sat k)

/-! ### codec_List: function 29 (examboard/codec.List) -/
abbrev codec_List.A : Sig := ⟨2, [], (.nilL), [0, 1], (.cons (.v (.int .i64)) (.cons (.v (.sl .node)) .nilL))⟩
abbrev codec_List.R0 : Sig := ⟨1, [], (.nilL), [0], (.cons (.agg (.cons (.v (.int .i64)) (.cons (.v (.int .i64)) (.cons (.v (.int .i64)) (.cons (.v .str) (.cons (.v (.sl .node)) .nilL)))))) .nilL)⟩
abbrev codec_List.outs : List Out := [⟨.ret, codec_List.R0, Int × Int × Int × ByteArray × List Nd, fun y => ((), ((y.1, y.2.1, y.2.2.1, y.2.2.2.1, y.2.2.2.2, ()), ())), fun x => (x.2.1.1, x.2.1.2.1, x.2.1.2.2.1, x.2.1.2.2.2.1, x.2.1.2.2.2.2.1)⟩]
def codec_List.f (k : Nat) (a0 : Int) (a1 : List Nd) : Option (Int × Int × Int × ByteArray × List Nd) :=
  (codec_clone.f k a0 3 0 (⟨#[]⟩ : ByteArray) a1).bind fun y1 =>
  some (y1.1, y1.2.1, y1.2.2.1, y1.2.2.2.1, y1.2.2.2.2)
abbrev codec_List.E (k : Nat) : Ent := ⟨codec_List.A, codec_List.outs, fun x => codec_List.f k x.2.1 x.2.2.1⟩
noncomputable abbrev codec_List.C (k : Nat) : Cfg := ⟨Tryz.prog, shs, look2 [(53, [], codec_clone.E k)], look []⟩
theorem codec_List.ev (k : Nat) (x : codec_List.A.V) : evF (codec_List.C k) Tryz.f29 codec_List.A codec_List.outs x = codec_List.f k x.2.1 x.2.2.1 := by kernel_rfl
theorem codec_List.at : Tryz.prog.funcs[29]? = some Tryz.f29 := by kernel_rfl
theorem codec_List.bo : Tryz.f29.body = some (bodyOf (Tryz.f29)) := by kernel_rfl
theorem codec_List.nm : (Tryz.f29.name == "runtime.NumGoroutine") = false := by kernel_rfl
theorem codec_List.sat (k : Nat) : Sat Tryz.prog 29 (codec_List.E k) :=
  have hC : ∀ g l N, (codec_List.C k).orc g l = some N → Sat Tryz.prog g N := satAll (satCons (codec_clone.sat k) satNil)
  sat_of (C := codec_List.C k) hC mixed codec_List.at codec_List.nm codec_List.bo (all_pieces rfl locNil) (codec_List.ev k) (ooC (fun _ => rfl) ooN) (dstOk_zero _) (by decide) rfl

/-! ### codec_String: function 30 (examboard/codec.String) -/
abbrev codec_String.A : Sig := ⟨2, [], (.nilL), [0, 1], (.cons (.v (.int .i64)) (.cons (.v .str) .nilL))⟩
abbrev codec_String.R0 : Sig := ⟨1, [], (.nilL), [0], (.cons (.agg (.cons (.v (.int .i64)) (.cons (.v (.int .i64)) (.cons (.v (.int .i64)) (.cons (.v .str) (.cons (.v (.sl .node)) .nilL)))))) .nilL)⟩
abbrev codec_String.outs : List Out := [⟨.ret, codec_String.R0, Int × Int × Int × ByteArray × List Nd, fun y => ((), ((y.1, y.2.1, y.2.2.1, y.2.2.2.1, y.2.2.2.2, ()), ())), fun x => (x.2.1.1, x.2.1.2.1, x.2.1.2.2.1, x.2.1.2.2.2.1, x.2.1.2.2.2.2.1)⟩]
def codec_String.f (k : Nat) (a0 : Int) (a1 : ByteArray) : Option (Int × Int × Int × ByteArray × List Nd) :=
  some (a0, 2, 0, a1, ([] : List Nd))
abbrev codec_String.E (k : Nat) : Ent := ⟨codec_String.A, codec_String.outs, fun x => codec_String.f k x.2.1 x.2.2.1⟩
noncomputable abbrev codec_String.C (k : Nat) : Cfg := ⟨Tryz.prog, shs, look2 [], look []⟩
theorem codec_String.ev (k : Nat) (x : codec_String.A.V) : evF (codec_String.C k) Tryz.f30 codec_String.A codec_String.outs x = codec_String.f k x.2.1 x.2.2.1 := by kernel_rfl
theorem codec_String.at : Tryz.prog.funcs[30]? = some Tryz.f30 := by kernel_rfl
theorem codec_String.bo : Tryz.f30.body = some (bodyOf (Tryz.f30)) := by kernel_rfl
theorem codec_String.nm : (Tryz.f30.name == "runtime.NumGoroutine") = false := by kernel_rfl
theorem codec_String.sat (k : Nat) : Sat Tryz.prog 30 (codec_String.E k) :=
  have hC : ∀ g l N, (codec_String.C k).orc g l = some N → Sat Tryz.prog g N := satAll satNil
  sat_of (C := codec_String.C k) hC mixed codec_String.at codec_String.nm codec_String.bo (all_pieces rfl locNil) (codec_String.ev k) (ooC (fun _ => rfl) ooN) (dstOk_zero _) (by decide) rfl

/-! ### resume_Encode: function 12 (examboard/resume.Encode) -/
abbrev resume_Encode.A : Sig := ⟨1, [], (.nilL), [0], (.cons (.agg (.cons (.v (.int .i64)) (.cons (.v (.int .i64)) (.cons (.v (.int .i64)) (.cons (.v (.sl (.int .i64))) (.cons (.v (.int .i64)) (.cons (.v .str) (.cons (.v .bool) (.cons (.v (.int .i64)) (.cons (.v (.int .i64)) (.cons (.v (.int .i64)) (.cons (.v (.int .i64)) .nilL)))))))))))) .nilL)⟩
abbrev resume_Encode.R0 : Sig := ⟨1, [], (.nilL), [0], (.cons (.tup (.cons (.agg (.cons (.v (.int .i64)) (.cons (.v (.int .i64)) (.cons (.v (.int .i64)) (.cons (.v .str) (.cons (.v (.sl .node)) .nilL)))))) (.cons (.v (.int .i64)) .nilL))) .nilL)⟩
abbrev resume_Encode.outs : List Out := [⟨.ret, resume_Encode.R0, Int × Int × Int × ByteArray × List Nd × Int, fun y => ((), (((y.1, y.2.1, y.2.2.1, y.2.2.2.1, y.2.2.2.2.1, ()), y.2.2.2.2.2, ()), ())), fun x => (x.2.1.1.1, x.2.1.1.2.1, x.2.1.1.2.2.1, x.2.1.1.2.2.2.1, x.2.1.1.2.2.2.2.1, x.2.1.2.1)⟩]
abbrev resume_Encode.l7850.A : Sig := ⟨82, [.slot 1, .slot 2, .cell 1 4, .slot 5, .slot 6], (.cons (.obox (.cons (.v (.int .i64)) (.cons (.v (.int .i64)) (.cons (.v (.int .i64)) (.cons (.v (.sl (.int .i64))) (.cons (.v (.int .i64)) (.cons (.v .str) (.cons (.v .bool) (.cons (.v (.int .i64)) (.cons (.v (.int .i64)) (.cons (.v (.int .i64)) (.cons (.v (.int .i64)) .nilL)))))))))))) (.cons (.obox (.cons (.v (.int .i64)) (.cons (.v (.int .i64)) (.cons (.v (.int .i64)) (.cons (.v .str) (.cons (.rowr 2) .nilL)))))) (.cons (.orow 42 .node) (.cons (.orow 42 .node) (.cons (.orow 42 .node) .nilL))))), [1, 2, 5, 6, 29, 30, 31], (.cons (.boxr 0 0) (.cons (.boxr 1 0) (.cons (.rowr 3) (.cons (.rowr 4) (.cons (.v (.sl (.int .i64))) (.cons (.v (.int .i64)) (.cons (.v (.int .i64)) .nilL)))))))⟩
abbrev resume_Encode.l7850.R0 : Sig := ⟨82, [.slot 1, .slot 2, .cell 1 4, .slot 5, .slot 6], (.cons (.obox (.cons (.v (.int .i64)) (.cons (.v (.int .i64)) (.cons (.v (.int .i64)) (.cons (.v (.sl (.int .i64))) (.cons (.v (.int .i64)) (.cons (.v .str) (.cons (.v .bool) (.cons (.v (.int .i64)) (.cons (.v (.int .i64)) (.cons (.v (.int .i64)) (.cons (.v (.int .i64)) .nilL)))))))))))) (.cons (.obox (.cons (.v (.int .i64)) (.cons (.v (.int .i64)) (.cons (.v (.int .i64)) (.cons (.v .str) (.cons (.rowr 2) .nilL)))))) (.cons (.orow 42 .node) (.cons (.orow 42 .node) (.cons (.orow 42 .node) .nilL))))), [1, 2, 5, 6], (.cons (.boxr 0 0) (.cons (.boxr 1 0) (.cons (.rowr 3) (.cons (.rowr 4) .nilL))))⟩
abbrev resume_Encode.l7850.outs : List Out := [⟨(.exit 1), resume_Encode.l7850.R0, Int × Int × Int × List Int × Int × ByteArray × Bool × Int × Int × Int × Int × Int × Int × Int × ByteArray × List Nd × List Nd × List Nd, fun y => (((y.1, y.2.1, y.2.2.1, y.2.2.2.1, y.2.2.2.2.1, y.2.2.2.2.2.1, y.2.2.2.2.2.2.1, y.2.2.2.2.2.2.2.1, y.2.2.2.2.2.2.2.2.1, y.2.2.2.2.2.2.2.2.2.1, y.2.2.2.2.2.2.2.2.2.2.1, ()), (y.2.2.2.2.2.2.2.2.2.2.2.1, y.2.2.2.2.2.2.2.2.2.2.2.2.1, y.2.2.2.2.2.2.2.2.2.2.2.2.2.1, y.2.2.2.2.2.2.2.2.2.2.2.2.2.2.1, (), ()), y.2.2.2.2.2.2.2.2.2.2.2.2.2.2.2.1, y.2.2.2.2.2.2.2.2.2.2.2.2.2.2.2.2.1, y.2.2.2.2.2.2.2.2.2.2.2.2.2.2.2.2.2, ()), ((), (), (), (), ())), fun x => (x.1.1.1, x.1.1.2.1, x.1.1.2.2.1, x.1.1.2.2.2.1, x.1.1.2.2.2.2.1, x.1.1.2.2.2.2.2.1, x.1.1.2.2.2.2.2.2.1, x.1.1.2.2.2.2.2.2.2.1, x.1.1.2.2.2.2.2.2.2.2.1, x.1.1.2.2.2.2.2.2.2.2.2.1, x.1.1.2.2.2.2.2.2.2.2.2.2.1, x.1.2.1.1, x.1.2.1.2.1, x.1.2.1.2.2.1, x.1.2.1.2.2.2.1, x.1.2.2.1, x.1.2.2.2.1, x.1.2.2.2.2.1)⟩]
def resume_Encode.l7850 (k : Nat) : Nat → Int → Int → Int → (List Int) → Int → ByteArray → Bool → Int → Int → Int → Int → Int → Int → Int → ByteArray → (List Nd) → (List Nd) → (List Nd) → (List Int) → Int → Int → Option (Int × Int × Int × List Int × Int × ByteArray × Bool × Int × Int × Int × Int × Int × Int × Int × ByteArray × List Nd × List Nd × List Nd)
  | 0, _, _, _, _, _, _, _, _, _, _, _, _, _, _, _, _, _, _, _, _, _ => none
  | q + 1, x0, x1, x2, x3, x4, x5, x6, x7, x8, x9, x10, x11, x12, x13, x14, x15, x16, x17, x18, x19, x20 =>
    cond (decide (x20 < x19))
    (cond (inB x20 x18.length)
      ((resume_number.f k 0 (rdL (.int .i64) x18 x20)).bind fun y5 =>
        cond (fits (x17.length + 1) 64)
        (resume_Encode.l7850 k q x0 x1 x2 x3 x4 x5 x6 x7 x8 x9 x10 x11 x12 x13 x14 x15 x16 (x17 ++ [(⟨y5.1, y5.2.1, y5.2.2.1, y5.2.2.2.1, y5.2.2.2.2⟩ : Nd)]) x18 x19 (IntKind.wrap .i64 (x20 + 1)))
        (none))
      (none))
    (some (x0, x1, x2, x3, x4, x5, x6, x7, x8, x9, x10, x11, x12, x13, x14, x15, x16, x17))
abbrev resume_Encode.l7850.pc (k : Nat) : Pc := ⟨resume_Encode.l7850.A, resume_Encode.l7850.outs, fun x => resume_Encode.l7850 k k x.1.1.1 x.1.1.2.1 x.1.1.2.2.1 x.1.1.2.2.2.1 x.1.1.2.2.2.2.1 x.1.1.2.2.2.2.2.1 x.1.1.2.2.2.2.2.2.1 x.1.1.2.2.2.2.2.2.2.1 x.1.1.2.2.2.2.2.2.2.2.1 x.1.1.2.2.2.2.2.2.2.2.2.1 x.1.1.2.2.2.2.2.2.2.2.2.2.1 x.1.2.1.1 x.1.2.1.2.1 x.1.2.1.2.2.1 x.1.2.1.2.2.2.1 x.1.2.2.1 x.1.2.2.2.1 x.1.2.2.2.2.1 x.2.2.2.2.2.1 x.2.2.2.2.2.2.1 x.2.2.2.2.2.2.2.1⟩
abbrev resume_Encode.j7854.A : Sig := ⟨82, [.slot 1, .slot 2, .cell 1 4, .slot 5, .slot 6], (.cons (.obox (.cons (.v (.int .i64)) (.cons (.v (.int .i64)) (.cons (.v (.int .i64)) (.cons (.v (.sl (.int .i64))) (.cons (.v (.int .i64)) (.cons (.v .str) (.cons (.v .bool) (.cons (.v (.int .i64)) (.cons (.v (.int .i64)) (.cons (.v (.int .i64)) (.cons (.v (.int .i64)) .nilL)))))))))))) (.cons (.obox (.cons (.v (.int .i64)) (.cons (.v (.int .i64)) (.cons (.v (.int .i64)) (.cons (.v .str) (.cons (.rowr 2) .nilL)))))) (.cons (.orow 42 .node) (.cons (.orow 42 .node) (.cons (.orow 42 .node) .nilL))))), [1, 2, 5, 6, 9], (.cons (.boxr 0 0) (.cons (.boxr 1 0) (.cons (.rowr 3) (.cons (.rowr 4) (.cons (.v (.int .i64)) .nilL)))))⟩
abbrev resume_Encode.j7854.R0 : Sig := ⟨82, [.slot 1, .slot 2, .cell 1 4, .slot 5, .slot 6], (.cons (.obox (.cons (.v (.int .i64)) (.cons (.v (.int .i64)) (.cons (.v (.int .i64)) (.cons (.v (.sl (.int .i64))) (.cons (.v (.int .i64)) (.cons (.v .str) (.cons (.v .bool) (.cons (.v (.int .i64)) (.cons (.v (.int .i64)) (.cons (.v (.int .i64)) (.cons (.v (.int .i64)) .nilL)))))))))))) (.cons (.obox (.cons (.v (.int .i64)) (.cons (.v (.int .i64)) (.cons (.v (.int .i64)) (.cons (.v .str) (.cons (.rowr 2) .nilL)))))) (.cons (.orow 42 .node) (.cons (.orow 42 .node) (.cons (.orow 42 .node) .nilL))))), [1, 2, 5, 6, 9], (.cons (.boxr 0 0) (.cons (.boxr 1 0) (.cons (.rowr 3) (.cons (.rowr 4) (.cons (.v (.int .i64)) .nilL)))))⟩
abbrev resume_Encode.j7854.outs : List Out := [⟨.normal, resume_Encode.j7854.R0, Int × Int × Int × List Int × Int × ByteArray × Bool × Int × Int × Int × Int × Int × Int × Int × ByteArray × List Nd × List Nd × List Nd × Int, fun y => (((y.1, y.2.1, y.2.2.1, y.2.2.2.1, y.2.2.2.2.1, y.2.2.2.2.2.1, y.2.2.2.2.2.2.1, y.2.2.2.2.2.2.2.1, y.2.2.2.2.2.2.2.2.1, y.2.2.2.2.2.2.2.2.2.1, y.2.2.2.2.2.2.2.2.2.2.1, ()), (y.2.2.2.2.2.2.2.2.2.2.2.1, y.2.2.2.2.2.2.2.2.2.2.2.2.1, y.2.2.2.2.2.2.2.2.2.2.2.2.2.1, y.2.2.2.2.2.2.2.2.2.2.2.2.2.2.1, (), ()), y.2.2.2.2.2.2.2.2.2.2.2.2.2.2.2.1, y.2.2.2.2.2.2.2.2.2.2.2.2.2.2.2.2.1, y.2.2.2.2.2.2.2.2.2.2.2.2.2.2.2.2.2.1, ()), ((), (), (), (), y.2.2.2.2.2.2.2.2.2.2.2.2.2.2.2.2.2.2, ())), fun x => (x.1.1.1, x.1.1.2.1, x.1.1.2.2.1, x.1.1.2.2.2.1, x.1.1.2.2.2.2.1, x.1.1.2.2.2.2.2.1, x.1.1.2.2.2.2.2.2.1, x.1.1.2.2.2.2.2.2.2.1, x.1.1.2.2.2.2.2.2.2.2.1, x.1.1.2.2.2.2.2.2.2.2.2.1, x.1.1.2.2.2.2.2.2.2.2.2.2.1, x.1.2.1.1, x.1.2.1.2.1, x.1.2.1.2.2.1, x.1.2.1.2.2.2.1, x.1.2.2.1, x.1.2.2.2.1, x.1.2.2.2.2.1, x.2.2.2.2.2.1)⟩]
def resume_Encode.j7854 (k : Nat) (x0 : Int) (x1 : Int) (x2 : Int) (x3 : List Int) (x4 : Int) (x5 : ByteArray) (x6 : Bool) (x7 : Int) (x8 : Int) (x9 : Int) (x10 : Int) (x11 : Int) (x12 : Int) (x13 : Int) (x14 : ByteArray) (x15 : List Nd) (x16 : List Nd) (x17 : List Nd) (x18 : Int) : Option (Int × Int × Int × List Int × Int × ByteArray × Bool × Int × Int × Int × Int × Int × Int × Int × ByteArray × List Nd × List Nd × List Nd × Int) :=
  cond x6
  (some (x0, x1, x2, x3, x4, x5, x6, x7, x8, x9, x10, x11, x12, x13, x14, x15, x16, x17, 1))
  (some (x0, x1, x2, x3, x4, x5, x6, x7, x8, x9, x10, x11, x12, x13, x14, x15, x16, x17, x18))
abbrev resume_Encode.j7854.pc (k : Nat) : Pc := ⟨resume_Encode.j7854.A, resume_Encode.j7854.outs, fun x => resume_Encode.j7854 k x.1.1.1 x.1.1.2.1 x.1.1.2.2.1 x.1.1.2.2.2.1 x.1.1.2.2.2.2.1 x.1.1.2.2.2.2.2.1 x.1.1.2.2.2.2.2.2.1 x.1.1.2.2.2.2.2.2.2.1 x.1.1.2.2.2.2.2.2.2.2.1 x.1.1.2.2.2.2.2.2.2.2.2.1 x.1.1.2.2.2.2.2.2.2.2.2.2.1 x.1.2.1.1 x.1.2.1.2.1 x.1.2.1.2.2.1 x.1.2.1.2.2.2.1 x.1.2.2.1 x.1.2.2.2.1 x.1.2.2.2.2.1 x.2.2.2.2.2.1⟩
def resume_Encode.f (k : Nat) (a0 : Int) (a1 : Int) (a2 : Int) (a3 : List Int) (a4 : Int) (a5 : ByteArray) (a6 : Bool) (a7 : Int) (a8 : Int) (a9 : Int) (a10 : Int) : Option (Int × Int × Int × ByteArray × List Nd × Int) :=
  (resume_valid.f k a0 a1 a2 a3 a4 a5 a6 a7 a8 a9 a10).bind fun y1 =>
  cond (y1 != 0)
  (some (0, 0, 0, (⟨#[]⟩ : ByteArray), ([] : List Nd), y1))
  ((resume_number.f k 1 a0).bind fun y2 =>
    (resume_number.f k 2 a1).bind fun y3 =>
    cond (a0 == 2)
    ((resume_Encode.l7850 k k a0 a1 a2 a3 a4 a5 a6 a7 a8 a9 a10 0 0 0 (⟨#[]⟩ : ByteArray) ([] : List Nd) [(⟨y2.1, y2.2.1, y2.2.2.1, y2.2.2.2.1, y2.2.2.2.2⟩ : Nd), (⟨y3.1, y3.2.1, y3.2.2.1, y3.2.2.2.1, y3.2.2.2.2⟩ : Nd)] ([] : List Nd) a3 (a3.length : Int) 0).bind fun y7 =>
      (resume_Encode.j7854 k y7.1 y7.2.1 y7.2.2.1 y7.2.2.2.1 y7.2.2.2.2.1 y7.2.2.2.2.2.1 y7.2.2.2.2.2.2.1 y7.2.2.2.2.2.2.2.1 y7.2.2.2.2.2.2.2.2.1 y7.2.2.2.2.2.2.2.2.2.1 y7.2.2.2.2.2.2.2.2.2.2.1 y7.2.2.2.2.2.2.2.2.2.2.2.1 y7.2.2.2.2.2.2.2.2.2.2.2.2.1 y7.2.2.2.2.2.2.2.2.2.2.2.2.2.1 y7.2.2.2.2.2.2.2.2.2.2.2.2.2.2.1 y7.2.2.2.2.2.2.2.2.2.2.2.2.2.2.2.1 y7.2.2.2.2.2.2.2.2.2.2.2.2.2.2.2.2.1 y7.2.2.2.2.2.2.2.2.2.2.2.2.2.2.2.2.2 0).bind fun y8 =>
      (resume_number.f k 3 y8.2.2.1).bind fun y9 =>
      (codec_List.f k 4 y8.2.2.2.2.2.2.2.2.2.2.2.2.2.2.2.2.2.1).bind fun y10 =>
      (resume_number.f k 5 y8.2.2.2.2.1).bind fun y11 =>
      (codec_String.f k 6 y8.2.2.2.2.2.1).bind fun y12 =>
      (resume_number.f k 7 y8.2.2.2.2.2.2.2.2.2.2.2.2.2.2.2.2.2.2).bind fun y13 =>
      cond (fits (y8.2.2.2.2.2.2.2.2.2.2.2.2.2.2.2.2.1.length + 5) 64)
      ((codec_List.f k 50 (y8.2.2.2.2.2.2.2.2.2.2.2.2.2.2.2.2.1 ++ [(⟨y9.1, y9.2.1, y9.2.2.1, y9.2.2.2.1, y9.2.2.2.2⟩ : Nd), (⟨y10.1, y10.2.1, y10.2.2.1, y10.2.2.2.1, y10.2.2.2.2⟩ : Nd), (⟨y11.1, y11.2.1, y11.2.2.1, y11.2.2.2.1, y11.2.2.2.2⟩ : Nd), (⟨y12.1, y12.2.1, y12.2.2.1, y12.2.2.2.1, y12.2.2.2.2⟩ : Nd), (⟨y13.1, y13.2.1, y13.2.2.1, y13.2.2.2.1, y13.2.2.2.2⟩ : Nd)])).bind fun y14 =>
        some (y14.1, y14.2.1, y14.2.2.1, y14.2.2.2.1, y14.2.2.2.2, 0))
      (none))
    (cond (a0 == 5)
      ((resume_number.f k 8 a7).bind fun y15 =>
        (resume_number.f k 9 a9).bind fun y16 =>
        (resume_number.f k 10 a10).bind fun y17 =>
        cond (fits (2 + 3) 64)
        ((codec_List.f k 50 ([(⟨y2.1, y2.2.1, y2.2.2.1, y2.2.2.2.1, y2.2.2.2.2⟩ : Nd), (⟨y3.1, y3.2.1, y3.2.2.1, y3.2.2.2.1, y3.2.2.2.2⟩ : Nd)] ++ [(⟨y15.1, y15.2.1, y15.2.2.1, y15.2.2.2.1, y15.2.2.2.2⟩ : Nd), (⟨y16.1, y16.2.1, y16.2.2.1, y16.2.2.2.1, y16.2.2.2.2⟩ : Nd), (⟨y17.1, y17.2.1, y17.2.2.1, y17.2.2.2.1, y17.2.2.2.2⟩ : Nd)])).bind fun y18 =>
          some (y18.1, y18.2.1, y18.2.2.1, y18.2.2.2.1, y18.2.2.2.2, 0))
        (none))
      ((codec_List.f k 50 [(⟨y2.1, y2.2.1, y2.2.2.1, y2.2.2.2.1, y2.2.2.2.2⟩ : Nd), (⟨y3.1, y3.2.1, y3.2.2.1, y3.2.2.2.1, y3.2.2.2.2⟩ : Nd)]).bind fun y19 =>
        some (y19.1, y19.2.1, y19.2.2.1, y19.2.2.2.1, y19.2.2.2.2, 0))))
abbrev resume_Encode.E (k : Nat) : Ent := ⟨resume_Encode.A, resume_Encode.outs, fun x => resume_Encode.f k x.2.1.1 x.2.1.2.1 x.2.1.2.2.1 x.2.1.2.2.2.1 x.2.1.2.2.2.2.1 x.2.1.2.2.2.2.2.1 x.2.1.2.2.2.2.2.2.1 x.2.1.2.2.2.2.2.2.2.1 x.2.1.2.2.2.2.2.2.2.2.1 x.2.1.2.2.2.2.2.2.2.2.2.1 x.2.1.2.2.2.2.2.2.2.2.2.2.1⟩
noncomputable abbrev resume_Encode.C (k : Nat) : Cfg := ⟨Tryz.prog, shs, look2 [(29, [], codec_List.E k), (30, [], codec_String.E k), (28, [], resume_number.E k), (27, [], resume_valid.E k)], look [(7850, resume_Encode.l7850.pc k), (7854, resume_Encode.j7854.pc k)]⟩
theorem resume_Encode.l7850.ev (k q : Nat) (x : resume_Encode.l7850.A.V) : ((codeAt 60 (bodyOf (Tryz.f12)) 7850).bind fun c => (loopOf c).bind fun c1 => evL (resume_Encode.C k) c1 7850 resume_Encode.l7850.A resume_Encode.l7850.outs (fun x => resume_Encode.l7850 k q x.1.1.1 x.1.1.2.1 x.1.1.2.2.1 x.1.1.2.2.2.1 x.1.1.2.2.2.2.1 x.1.1.2.2.2.2.2.1 x.1.1.2.2.2.2.2.2.1 x.1.1.2.2.2.2.2.2.2.1 x.1.1.2.2.2.2.2.2.2.2.1 x.1.1.2.2.2.2.2.2.2.2.2.1 x.1.1.2.2.2.2.2.2.2.2.2.2.1 x.1.2.1.1 x.1.2.1.2.1 x.1.2.1.2.2.1 x.1.2.1.2.2.2.1 x.1.2.2.1 x.1.2.2.2.1 x.1.2.2.2.2.1 x.2.2.2.2.2.1 x.2.2.2.2.2.2.1 x.2.2.2.2.2.2.2.1) x) = resume_Encode.l7850 k (q + 1) x.1.1.1 x.1.1.2.1 x.1.1.2.2.1 x.1.1.2.2.2.1 x.1.1.2.2.2.2.1 x.1.1.2.2.2.2.2.1 x.1.1.2.2.2.2.2.2.1 x.1.1.2.2.2.2.2.2.2.1 x.1.1.2.2.2.2.2.2.2.2.1 x.1.1.2.2.2.2.2.2.2.2.2.1 x.1.1.2.2.2.2.2.2.2.2.2.2.1 x.1.2.1.1 x.1.2.1.2.1 x.1.2.1.2.2.1 x.1.2.1.2.2.2.1 x.1.2.2.1 x.1.2.2.2.1 x.1.2.2.2.2.1 x.2.2.2.2.2.1 x.2.2.2.2.2.2.1 x.2.2.2.2.2.2.2.1 := by kernel_rfl
theorem resume_Encode.j7854.ev (k : Nat) (x : resume_Encode.j7854.A.V) : ((codeAt 60 (bodyOf (Tryz.f12)) 7854).bind fun c => evP (resume_Encode.C k) c 7854 resume_Encode.j7854.A resume_Encode.j7854.outs x) = resume_Encode.j7854 k x.1.1.1 x.1.1.2.1 x.1.1.2.2.1 x.1.1.2.2.2.1 x.1.1.2.2.2.2.1 x.1.1.2.2.2.2.2.1 x.1.1.2.2.2.2.2.2.1 x.1.1.2.2.2.2.2.2.2.1 x.1.1.2.2.2.2.2.2.2.2.1 x.1.1.2.2.2.2.2.2.2.2.2.1 x.1.1.2.2.2.2.2.2.2.2.2.2.1 x.1.2.1.1 x.1.2.1.2.1 x.1.2.1.2.2.1 x.1.2.1.2.2.2.1 x.1.2.2.1 x.1.2.2.2.1 x.1.2.2.2.2.1 x.2.2.2.2.2.1 := by kernel_rfl
theorem resume_Encode.ev (k : Nat) (x : resume_Encode.A.V) : evF (resume_Encode.C k) Tryz.f12 resume_Encode.A resume_Encode.outs x = resume_Encode.f k x.2.1.1 x.2.1.2.1 x.2.1.2.2.1 x.2.1.2.2.2.1 x.2.1.2.2.2.2.1 x.2.1.2.2.2.2.2.1 x.2.1.2.2.2.2.2.2.1 x.2.1.2.2.2.2.2.2.2.1 x.2.1.2.2.2.2.2.2.2.2.1 x.2.1.2.2.2.2.2.2.2.2.2.1 x.2.1.2.2.2.2.2.2.2.2.2.2.1 := by kernel_rfl
theorem resume_Encode.at : Tryz.prog.funcs[12]? = some Tryz.f12 := by kernel_rfl
theorem resume_Encode.bo : Tryz.f12.body = some (bodyOf (Tryz.f12)) := by kernel_rfl
theorem resume_Encode.nm : (Tryz.f12.name == "runtime.NumGoroutine") = false := by kernel_rfl
theorem resume_Encode.sat (k : Nat) : Sat Tryz.prog 12 (resume_Encode.E k) :=
  have hC : ∀ g l N, (resume_Encode.C k).orc g l = some N → Sat Tryz.prog g N := satAll (satCons (codec_List.sat k) (satCons (codec_String.sat k) (satCons (resume_number.sat k) (satCons (resume_valid.sat k) satNil))))
  sat_of (C := resume_Encode.C k) hC mixed resume_Encode.at resume_Encode.nm resume_Encode.bo (all_pieces rfl (locCons (loc_loop (A := resume_Encode.l7850.A) (outs := resume_Encode.l7850.outs) hC mixed (dstOk_zero _) (fun (q : Nat) (x : resume_Encode.l7850.A.V) => resume_Encode.l7850 k q x.1.1.1 x.1.1.2.1 x.1.1.2.2.1 x.1.1.2.2.2.1 x.1.1.2.2.2.2.1 x.1.1.2.2.2.2.2.1 x.1.1.2.2.2.2.2.2.1 x.1.1.2.2.2.2.2.2.2.1 x.1.1.2.2.2.2.2.2.2.2.1 x.1.1.2.2.2.2.2.2.2.2.2.1 x.1.1.2.2.2.2.2.2.2.2.2.2.1 x.1.2.1.1 x.1.2.1.2.1 x.1.2.1.2.2.1 x.1.2.1.2.2.2.1 x.1.2.2.1 x.1.2.2.2.1 x.1.2.2.2.2.1 x.2.2.2.2.2.1 x.2.2.2.2.2.2.1 x.2.2.2.2.2.2.2.1) (fun _ => rfl) (resume_Encode.l7850.ev k) (ooC (fun _ => rfl) ooN) rfl rfl k) (locCons (loc_code (A := resume_Encode.j7854.A) (outs := resume_Encode.j7854.outs) hC mixed (dstOk_zero _) (fun (x : resume_Encode.j7854.A.V) => resume_Encode.j7854 k x.1.1.1 x.1.1.2.1 x.1.1.2.2.1 x.1.1.2.2.2.1 x.1.1.2.2.2.2.1 x.1.1.2.2.2.2.2.1 x.1.1.2.2.2.2.2.2.1 x.1.1.2.2.2.2.2.2.2.1 x.1.1.2.2.2.2.2.2.2.2.1 x.1.1.2.2.2.2.2.2.2.2.2.1 x.1.1.2.2.2.2.2.2.2.2.2.2.1 x.1.2.1.1 x.1.2.1.2.1 x.1.2.1.2.2.1 x.1.2.1.2.2.2.1 x.1.2.2.1 x.1.2.2.2.1 x.1.2.2.2.2.1 x.2.2.2.2.2.1) (resume_Encode.j7854.ev k) (ooC (fun _ => rfl) ooN) rfl) locNil))) (resume_Encode.ev k) (ooC (fun _ => rfl) ooN) (dstOk_zero _) (by decide) rfl

/-! ### digest_Add: function 59 (examboard/digest.Add) -/
abbrev digest_Add.A : Sig := ⟨2, [], (.nilL), [0, 1], (.cons (.v (.int .u64)) (.cons (.v (.sl (.int .u8))) .nilL))⟩
abbrev digest_Add.R0 : Sig := ⟨1, [], (.nilL), [0], (.cons (.v (.int .u64)) .nilL)⟩
abbrev digest_Add.outs : List Out := [⟨.ret, digest_Add.R0, Int, fun y => ((), (y, ())), fun x => x.2.1⟩]
abbrev digest_Add.l26.A : Sig := ⟨20, [], (.nilL), [0, 7, 8, 9], (.cons (.v (.int .u64)) (.cons (.v (.sl (.int .u8))) (.cons (.v (.int .i64)) (.cons (.v (.int .i64)) .nilL))))⟩
abbrev digest_Add.l26.R0 : Sig := ⟨20, [], (.nilL), [0], (.cons (.v (.int .u64)) .nilL)⟩
abbrev digest_Add.l26.outs : List Out := [⟨(.exit 0), digest_Add.l26.R0, Int, fun y => ((), (y, ())), fun x => x.2.1⟩]
def digest_Add.l26 (k : Nat) : Nat → Int → (List Int) → Int → Int → Option (Int)
  | 0, _, _, _, _ => none
  | q + 1, x0, x1, x2, x3 =>
    cond (decide (x3 < x2))
    (cond (inB x3 x1.length)
      (digest_Add.l26 k q (IntKind.wrap .u64 ((IntKind.wrap .u64 (((BitVec.ofInt 64 x0) ^^^ (BitVec.ofInt 64 (IntKind.wrap .u64 (rdL (.int .u8) x1 x3)))).toNat : Int)) * 1099511628211)) x1 x2 (IntKind.wrap .i64 (x3 + 1)))
      (none))
    (some x0)
abbrev digest_Add.l26.pc (k : Nat) : Pc := ⟨digest_Add.l26.A, digest_Add.l26.outs, fun x => digest_Add.l26 k k x.2.1 x.2.2.1 x.2.2.2.1 x.2.2.2.2.1⟩
def digest_Add.f (k : Nat) (a0 : Int) (a1 : List Int) : Option (Int) :=
  (digest_Add.l26 k k a0 a1 (a1.length : Int) 0).bind fun y1 =>
  some y1
abbrev digest_Add.E (k : Nat) : Ent := ⟨digest_Add.A, digest_Add.outs, fun x => digest_Add.f k x.2.1 x.2.2.1⟩
noncomputable abbrev digest_Add.C (k : Nat) : Cfg := ⟨Tryz.prog, shs, look2 [], look [(26, digest_Add.l26.pc k)]⟩
theorem digest_Add.l26.ev (k q : Nat) (x : digest_Add.l26.A.V) : ((codeAt 60 (bodyOf (Tryz.f59)) 26).bind fun c => (loopOf c).bind fun c1 => evL (digest_Add.C k) c1 26 digest_Add.l26.A digest_Add.l26.outs (fun x => digest_Add.l26 k q x.2.1 x.2.2.1 x.2.2.2.1 x.2.2.2.2.1) x) = digest_Add.l26 k (q + 1) x.2.1 x.2.2.1 x.2.2.2.1 x.2.2.2.2.1 := by kernel_rfl
theorem digest_Add.ev (k : Nat) (x : digest_Add.A.V) : evF (digest_Add.C k) Tryz.f59 digest_Add.A digest_Add.outs x = digest_Add.f k x.2.1 x.2.2.1 := by kernel_rfl
theorem digest_Add.at : Tryz.prog.funcs[59]? = some Tryz.f59 := by kernel_rfl
theorem digest_Add.bo : Tryz.f59.body = some (bodyOf (Tryz.f59)) := by kernel_rfl
theorem digest_Add.nm : (Tryz.f59.name == "runtime.NumGoroutine") = false := by kernel_rfl
theorem digest_Add.sat (k : Nat) : Sat Tryz.prog 59 (digest_Add.E k) :=
  have hC : ∀ g l N, (digest_Add.C k).orc g l = some N → Sat Tryz.prog g N := satAll satNil
  sat_of (C := digest_Add.C k) hC mixed digest_Add.at digest_Add.nm digest_Add.bo (all_pieces rfl (locCons (loc_loop (A := digest_Add.l26.A) (outs := digest_Add.l26.outs) hC mixed (dstOk_zero _) (fun (q : Nat) (x : digest_Add.l26.A.V) => digest_Add.l26 k q x.2.1 x.2.2.1 x.2.2.2.1 x.2.2.2.2.1) (fun _ => rfl) (digest_Add.l26.ev k) (ooC (fun _ => rfl) ooN) rfl rfl k) locNil)) (digest_Add.ev k) (ooC (fun _ => rfl) ooN) (dstOk_zero _) (by decide) rfl

/-! ### digest_Of: function 54 (examboard/digest.Of) -/
abbrev digest_Of.A : Sig := ⟨1, [], (.nilL), [0], (.cons (.v (.sl (.int .u8))) .nilL)⟩
abbrev digest_Of.R0 : Sig := ⟨1, [], (.nilL), [0], (.cons (.v (.int .u64)) .nilL)⟩
abbrev digest_Of.outs : List Out := [⟨.ret, digest_Of.R0, Int, fun y => ((), (y, ())), fun x => x.2.1⟩]
def digest_Of.f (k : Nat) (a0 : List Int) : Option (Int) :=
  (digest_Add.f k 14695981039346656037 a0).bind fun y1 =>
  some y1
abbrev digest_Of.E (k : Nat) : Ent := ⟨digest_Of.A, digest_Of.outs, fun x => digest_Of.f k x.2.1⟩
noncomputable abbrev digest_Of.C (k : Nat) : Cfg := ⟨Tryz.prog, shs, look2 [(59, [], digest_Add.E k)], look []⟩
theorem digest_Of.ev (k : Nat) (x : digest_Of.A.V) : evF (digest_Of.C k) Tryz.f54 digest_Of.A digest_Of.outs x = digest_Of.f k x.2.1 := by kernel_rfl
theorem digest_Of.at : Tryz.prog.funcs[54]? = some Tryz.f54 := by kernel_rfl
theorem digest_Of.bo : Tryz.f54.body = some (bodyOf (Tryz.f54)) := by kernel_rfl
theorem digest_Of.nm : (Tryz.f54.name == "runtime.NumGoroutine") = false := by kernel_rfl
theorem digest_Of.sat (k : Nat) : Sat Tryz.prog 54 (digest_Of.E k) :=
  have hC : ∀ g l N, (digest_Of.C k).orc g l = some N → Sat Tryz.prog g N := satAll (satCons (digest_Add.sat k) satNil)
  sat_of (C := digest_Of.C k) hC mixed digest_Of.at digest_Of.nm digest_Of.bo (all_pieces rfl locNil) (digest_Of.ev k) (ooC (fun _ => rfl) ooN) (dstOk_zero _) (by decide) rfl

/-! ### journal_number: function 73 (examboard/journal.number) -/
abbrev journal_number.A : Sig := ⟨1, [], (.nilL), [0], (.cons (.v (.sl (.int .u8))) .nilL)⟩
abbrev journal_number.R0 : Sig := ⟨1, [], (.nilL), [0], (.cons (.v (.int .u64)) .nilL)⟩
abbrev journal_number.outs : List Out := [⟨.ret, journal_number.R0, Int, fun y => ((), (y, ())), fun x => x.2.1⟩]
abbrev journal_number.l58.A : Sig := ⟨19, [], (.nilL), [3, 6, 7, 8], (.cons (.v (.int .u64)) (.cons (.v (.sl (.int .u8))) (.cons (.v (.int .i64)) (.cons (.v (.int .i64)) .nilL))))⟩
abbrev journal_number.l58.R0 : Sig := ⟨19, [], (.nilL), [3], (.cons (.v (.int .u64)) .nilL)⟩
abbrev journal_number.l58.outs : List Out := [⟨(.exit 0), journal_number.l58.R0, Int, fun y => ((), (y, ())), fun x => x.2.1⟩]
def journal_number.l58 (k : Nat) : Nat → Int → (List Int) → Int → Int → Option (Int)
  | 0, _, _, _, _ => none
  | q + 1, x0, x1, x2, x3 =>
    cond (decide (x3 < x2))
    (cond (inB x3 x1.length)
      (journal_number.l58 k q (IntKind.wrap .u64 (((BitVec.ofInt 64 (IntKind.wrap .u64 (x0 * 2 ^ (8)))) ||| (BitVec.ofInt 64 (IntKind.wrap .u64 (rdL (.int .u8) x1 x3)))).toNat : Int)) x1 x2 (IntKind.wrap .i64 (x3 + 1)))
      (none))
    (some x0)
abbrev journal_number.l58.pc (k : Nat) : Pc := ⟨journal_number.l58.A, journal_number.l58.outs, fun x => journal_number.l58 k k x.2.1 x.2.2.1 x.2.2.2.1 x.2.2.2.2.1⟩
def journal_number.f (k : Nat) (a0 : List Int) : Option (Int) :=
  (journal_number.l58 k k 0 a0 (a0.length : Int) 0).bind fun y1 =>
  some y1
abbrev journal_number.E (k : Nat) : Ent := ⟨journal_number.A, journal_number.outs, fun x => journal_number.f k x.2.1⟩
noncomputable abbrev journal_number.C (k : Nat) : Cfg := ⟨Tryz.prog, shs, look2 [], look [(58, journal_number.l58.pc k)]⟩
theorem journal_number.l58.ev (k q : Nat) (x : journal_number.l58.A.V) : ((codeAt 60 (bodyOf (Tryz.f73)) 58).bind fun c => (loopOf c).bind fun c1 => evL (journal_number.C k) c1 58 journal_number.l58.A journal_number.l58.outs (fun x => journal_number.l58 k q x.2.1 x.2.2.1 x.2.2.2.1 x.2.2.2.2.1) x) = journal_number.l58 k (q + 1) x.2.1 x.2.2.1 x.2.2.2.1 x.2.2.2.2.1 := by kernel_rfl
theorem journal_number.ev (k : Nat) (x : journal_number.A.V) : evF (journal_number.C k) Tryz.f73 journal_number.A journal_number.outs x = journal_number.f k x.2.1 := by kernel_rfl
theorem journal_number.at : Tryz.prog.funcs[73]? = some Tryz.f73 := by kernel_rfl
theorem journal_number.bo : Tryz.f73.body = some (bodyOf (Tryz.f73)) := by kernel_rfl
theorem journal_number.nm : (Tryz.f73.name == "runtime.NumGoroutine") = false := by kernel_rfl
theorem journal_number.sat (k : Nat) : Sat Tryz.prog 73 (journal_number.E k) :=
  have hC : ∀ g l N, (journal_number.C k).orc g l = some N → Sat Tryz.prog g N := satAll satNil
  sat_of (C := journal_number.C k) hC mixed journal_number.at journal_number.nm journal_number.bo (all_pieces rfl (locCons (loc_loop (A := journal_number.l58.A) (outs := journal_number.l58.outs) hC mixed (dstOk_zero _) (fun (q : Nat) (x : journal_number.l58.A.V) => journal_number.l58 k q x.2.1 x.2.2.1 x.2.2.2.1 x.2.2.2.2.1) (fun _ => rfl) (journal_number.l58.ev k) (ooC (fun _ => rfl) ooN) rfl rfl k) locNil)) (journal_number.ev k) (ooC (fun _ => rfl) ooN) (dstOk_zero _) (by decide) rfl

/-! ### digest_Number: function 60 (examboard/digest.Number) -/
abbrev digest_Number.A : Sig := ⟨2, [], (.nilL), [0, 1], (.cons (.v (.int .u64)) (.cons (.v (.int .u64)) .nilL))⟩
abbrev digest_Number.R0 : Sig := ⟨1, [], (.nilL), [0], (.cons (.v (.int .u64)) .nilL)⟩
abbrev digest_Number.outs : List Out := [⟨.ret, digest_Number.R0, Int, fun y => ((), (y, ())), fun x => x.2.1⟩]
abbrev digest_Number.l26.A : Sig := ⟨19, [], (.nilL), [0, 1, 5], (.cons (.v (.int .u64)) (.cons (.v (.int .u64)) (.cons (.v (.int .i64)) .nilL)))⟩
abbrev digest_Number.l26.R0 : Sig := ⟨19, [], (.nilL), [0], (.cons (.v (.int .u64)) .nilL)⟩
abbrev digest_Number.l26.outs : List Out := [⟨(.exit 0), digest_Number.l26.R0, Int, fun y => ((), (y, ())), fun x => x.2.1⟩]
def digest_Number.l26 (k : Nat) : Nat → Int → Int → Int → Option (Int)
  | 0, _, _, _ => none
  | q + 1, x0, x1, x2 =>
    cond (decide (x2 ≥ 0))
    (cond (decide ((IntKind.wrap .u64 x2) < 0))
      (none)
      (digest_Number.l26 k q (IntKind.wrap .u64 ((IntKind.wrap .u64 (((BitVec.ofInt 64 x0) ^^^ (BitVec.ofInt 64 (IntKind.wrap .u64 (((BitVec.ofInt 64 (Int.fdiv x1 (2 ^ (min (Int.toNat (IntKind.wrap .u64 x2)) 64)))) &&& (BitVec.ofInt 64 255)).toNat : Int)))).toNat : Int)) * 1099511628211)) x1 (IntKind.wrap .i64 (x2 - 8))))
    (some x0)
abbrev digest_Number.l26.pc (k : Nat) : Pc := ⟨digest_Number.l26.A, digest_Number.l26.outs, fun x => digest_Number.l26 k k x.2.1 x.2.2.1 x.2.2.2.1⟩
def digest_Number.f (k : Nat) (a0 : Int) (a1 : Int) : Option (Int) :=
  (digest_Number.l26 k k a0 a1 56).bind fun y1 =>
  some y1
abbrev digest_Number.E (k : Nat) : Ent := ⟨digest_Number.A, digest_Number.outs, fun x => digest_Number.f k x.2.1 x.2.2.1⟩
noncomputable abbrev digest_Number.C (k : Nat) : Cfg := ⟨Tryz.prog, shs, look2 [], look [(26, digest_Number.l26.pc k)]⟩
theorem digest_Number.l26.ev (k q : Nat) (x : digest_Number.l26.A.V) : ((codeAt 60 (bodyOf (Tryz.f60)) 26).bind fun c => (loopOf c).bind fun c1 => evL (digest_Number.C k) c1 26 digest_Number.l26.A digest_Number.l26.outs (fun x => digest_Number.l26 k q x.2.1 x.2.2.1 x.2.2.2.1) x) = digest_Number.l26 k (q + 1) x.2.1 x.2.2.1 x.2.2.2.1 := by kernel_rfl
theorem digest_Number.ev (k : Nat) (x : digest_Number.A.V) : evF (digest_Number.C k) Tryz.f60 digest_Number.A digest_Number.outs x = digest_Number.f k x.2.1 x.2.2.1 := by kernel_rfl
theorem digest_Number.at : Tryz.prog.funcs[60]? = some Tryz.f60 := by kernel_rfl
theorem digest_Number.bo : Tryz.f60.body = some (bodyOf (Tryz.f60)) := by kernel_rfl
theorem digest_Number.nm : (Tryz.f60.name == "runtime.NumGoroutine") = false := by kernel_rfl
theorem digest_Number.sat (k : Nat) : Sat Tryz.prog 60 (digest_Number.E k) :=
  have hC : ∀ g l N, (digest_Number.C k).orc g l = some N → Sat Tryz.prog g N := satAll satNil
  sat_of (C := digest_Number.C k) hC mixed digest_Number.at digest_Number.nm digest_Number.bo (all_pieces rfl (locCons (loc_loop (A := digest_Number.l26.A) (outs := digest_Number.l26.outs) hC mixed (dstOk_zero _) (fun (q : Nat) (x : digest_Number.l26.A.V) => digest_Number.l26 k q x.2.1 x.2.2.1 x.2.2.2.1) (fun _ => rfl) (digest_Number.l26.ev k) (ooC (fun _ => rfl) ooN) rfl rfl k) locNil)) (digest_Number.ev k) (ooC (fun _ => rfl) ooN) (dstOk_zero _) (by decide) rfl

/-! ### digest_Chain: function 36 (examboard/digest.Chain) -/
abbrev digest_Chain.A : Sig := ⟨2, [], (.nilL), [0, 1], (.cons (.v (.int .u64)) (.cons (.v (.sl (.int .u8))) .nilL))⟩
abbrev digest_Chain.R0 : Sig := ⟨1, [], (.nilL), [0], (.cons (.v (.int .u64)) .nilL)⟩
abbrev digest_Chain.outs : List Out := [⟨.ret, digest_Chain.R0, Int, fun y => ((), (y, ())), fun x => x.2.1⟩]
def digest_Chain.f (k : Nat) (a0 : Int) (a1 : List Int) : Option (Int) :=
  (digest_Number.f k 14695981039346656037 a0).bind fun y1 =>
  (digest_Add.f k y1 a1).bind fun y2 =>
  some y2
abbrev digest_Chain.E (k : Nat) : Ent := ⟨digest_Chain.A, digest_Chain.outs, fun x => digest_Chain.f k x.2.1 x.2.2.1⟩
noncomputable abbrev digest_Chain.C (k : Nat) : Cfg := ⟨Tryz.prog, shs, look2 [(59, [], digest_Add.E k), (60, [], digest_Number.E k)], look []⟩
theorem digest_Chain.ev (k : Nat) (x : digest_Chain.A.V) : evF (digest_Chain.C k) Tryz.f36 digest_Chain.A digest_Chain.outs x = digest_Chain.f k x.2.1 x.2.2.1 := by kernel_rfl
theorem digest_Chain.at : Tryz.prog.funcs[36]? = some Tryz.f36 := by kernel_rfl
theorem digest_Chain.bo : Tryz.f36.body = some (bodyOf (Tryz.f36)) := by kernel_rfl
theorem digest_Chain.nm : (Tryz.f36.name == "runtime.NumGoroutine") = false := by kernel_rfl
theorem digest_Chain.sat (k : Nat) : Sat Tryz.prog 36 (digest_Chain.E k) :=
  have hC : ∀ g l N, (digest_Chain.C k).orc g l = some N → Sat Tryz.prog g N := satAll (satCons (digest_Add.sat k) (satCons (digest_Number.sat k) satNil))
  sat_of (C := digest_Chain.C k) hC mixed digest_Chain.at digest_Chain.nm digest_Chain.bo (all_pieces rfl locNil) (digest_Chain.ev k) (ooC (fun _ => rfl) ooN) (dstOk_zero _) (by decide) rfl

/-! ### journal_entry: function 55 (examboard/journal.entry) -/
abbrev journal_entry.A : Sig := ⟨2, [], (.nilL), [0, 1], (.cons (.v (.sl (.int .u8))) (.cons (.v (.int .u64)) .nilL))⟩
abbrev journal_entry.R0 : Sig := ⟨1, [], (.nilL), [0], (.cons (.tup (.cons (.agg (.cons (.v (.int .i64)) (.cons (.v (.int .i64)) (.cons (.v (.int .i64)) (.cons (.v .str) (.cons (.v (.sl .node)) .nilL)))))) (.cons (.v (.int .i64)) (.cons (.v (.int .u64)) (.cons .nili .nilL))))) .nilL)⟩
abbrev journal_entry.R1 : Sig := ⟨1, [], (.nilL), [0], (.cons (.tup (.cons (.agg (.cons (.v (.int .i64)) (.cons (.v (.int .i64)) (.cons (.v (.int .i64)) (.cons (.v .str) (.cons (.v (.sl .node)) .nilL)))))) (.cons (.v (.int .i64)) (.cons (.v (.int .u64)) (.cons (.ifc 74 (.cp (.cons (.v (.int .i64)) .nilL))) .nilL))))) .nilL)⟩
abbrev journal_entry.outs : List Out := [⟨.ret, journal_entry.R0, Int × Int × Int × ByteArray × List Nd × Int × Int, fun y => ((), (((y.1, y.2.1, y.2.2.1, y.2.2.2.1, y.2.2.2.2.1, ()), y.2.2.2.2.2.1, y.2.2.2.2.2.2, (), ()), ())), fun x => (x.2.1.1.1, x.2.1.1.2.1, x.2.1.1.2.2.1, x.2.1.1.2.2.2.1, x.2.1.1.2.2.2.2.1, x.2.1.2.1, x.2.1.2.2.1)⟩, ⟨.ret, journal_entry.R1, Int × Int × Int × ByteArray × List Nd × Int × Int × Int, fun y => ((), (((y.1, y.2.1, y.2.2.1, y.2.2.2.1, y.2.2.2.2.1, ()), y.2.2.2.2.2.1, y.2.2.2.2.2.2.1, (y.2.2.2.2.2.2.2, ()), ()), ())), fun x => (x.2.1.1.1, x.2.1.1.2.1, x.2.1.1.2.2.1, x.2.1.1.2.2.2.1, x.2.1.1.2.2.2.2.1, x.2.1.2.1, x.2.1.2.2.1, x.2.1.2.2.2.1.1)⟩]
def journal_entry.f (k : Nat) (a0 : List Int) (a1 : Int) : Option ((Int × Int × Int × ByteArray × List Nd × Int × Int) ⊕ (Int × Int × Int × ByteArray × List Nd × Int × Int × Int)) :=
  cond (decide ((a0.length : Int) < 4))
  (some (.inr (0, 0, 0, (⟨#[]⟩ : ByteArray), ([] : List Nd), 0, 0, 4)))
  (cond ((decide ((0 : Int) ≤ 0)) && ((decide ((0 : Int) ≤ 4)) && (decide ((4 : Int) ≤ (a0.length : Int)))))
    ((journal_number.f k (List.drop (Int.toNat 0) (List.take (Int.toNat 4) a0))).bind fun y1 =>
      cond (decide (y1 > 2000))
      (some (.inr (0, 0, 0, (⟨#[]⟩ : ByteArray), ([] : List Nd), 0, 0, 5)))
      (cond (decide ((a0.length : Int) < (IntKind.wrap .i64 ((IntKind.wrap .i64 (4 + (IntKind.wrap .i64 y1))) + 8))))
        (some (.inr (0, 0, 0, (⟨#[]⟩ : ByteArray), ([] : List Nd), 0, 0, 4)))
        (cond ((decide ((0 : Int) ≤ 0)) && ((decide ((0 : Int) ≤ (IntKind.wrap .i64 (4 + (IntKind.wrap .i64 y1))))) && (decide ((IntKind.wrap .i64 (4 + (IntKind.wrap .i64 y1))) ≤ (a0.length : Int)))))
          ((digest_Chain.f k a1 (List.drop (Int.toNat 0) (List.take (Int.toNat (IntKind.wrap .i64 (4 + (IntKind.wrap .i64 y1)))) a0))).bind fun y2 =>
            cond ((decide ((0 : Int) ≤ (IntKind.wrap .i64 (4 + (IntKind.wrap .i64 y1))))) && ((decide ((IntKind.wrap .i64 (4 + (IntKind.wrap .i64 y1))) ≤ (IntKind.wrap .i64 ((IntKind.wrap .i64 (4 + (IntKind.wrap .i64 y1))) + 8)))) && (decide ((IntKind.wrap .i64 ((IntKind.wrap .i64 (4 + (IntKind.wrap .i64 y1))) + 8)) ≤ (a0.length : Int)))))
            ((journal_number.f k (List.drop (Int.toNat (IntKind.wrap .i64 (4 + (IntKind.wrap .i64 y1)))) (List.take (Int.toNat (IntKind.wrap .i64 ((IntKind.wrap .i64 (4 + (IntKind.wrap .i64 y1))) + 8))) a0))).bind fun y3 =>
              cond (y2 != y3)
              (some (.inr (0, 0, 0, (⟨#[]⟩ : ByteArray), ([] : List Nd), 0, 0, 12)))
              (cond ((decide ((0 : Int) ≤ 4)) && ((decide ((4 : Int) ≤ (IntKind.wrap .i64 (4 + (IntKind.wrap .i64 y1))))) && (decide ((IntKind.wrap .i64 (4 + (IntKind.wrap .i64 y1))) ≤ (a0.length : Int)))))
                ((codec_Decode.f k (List.drop (Int.toNat 4) (List.take (Int.toNat (IntKind.wrap .i64 (4 + (IntKind.wrap .i64 y1)))) a0))).bind fun y4 =>
                  Option.bind (cond (y4.2.2.2.2.2.2 != 0)
                    (some true)
                    (some (y4.2.2.2.2.2.1 != (IntKind.wrap .i64 ((IntKind.wrap .i64 (4 + (IntKind.wrap .i64 y1))) - 4))))) fun (c5 : Bool) =>
                  cond c5
                  (some (.inr (0, 0, 0, (⟨#[]⟩ : ByteArray), ([] : List Nd), 0, 0, 2)))
                  (some (.inl (y4.1, y4.2.1, y4.2.2.1, y4.2.2.2.1, y4.2.2.2.2.1, (IntKind.wrap .i64 ((IntKind.wrap .i64 (4 + (IntKind.wrap .i64 y1))) + 8)), y2))))
                (none)))
            (none))
          (none))))
    (none))
abbrev journal_entry.E (k : Nat) : Ent := ⟨journal_entry.A, journal_entry.outs, fun x => journal_entry.f k x.2.1 x.2.2.1⟩
noncomputable abbrev journal_entry.C (k : Nat) : Cfg := ⟨Tryz.prog, shs, look2 [(74, [], codec_Decode.E k), (36, [], digest_Chain.E k), (73, [], journal_number.E k)], look []⟩
theorem journal_entry.ev (k : Nat) (x : journal_entry.A.V) : evF (journal_entry.C k) Tryz.f55 journal_entry.A journal_entry.outs x = journal_entry.f k x.2.1 x.2.2.1 := by kernel_rfl
theorem journal_entry.at : Tryz.prog.funcs[55]? = some Tryz.f55 := by kernel_rfl
theorem journal_entry.bo : Tryz.f55.body = some (bodyOf (Tryz.f55)) := by kernel_rfl
theorem journal_entry.nm : (Tryz.f55.name == "runtime.NumGoroutine") = false := by kernel_rfl
theorem journal_entry.sat (k : Nat) : Sat Tryz.prog 55 (journal_entry.E k) :=
  have hC : ∀ g l N, (journal_entry.C k).orc g l = some N → Sat Tryz.prog g N := satAll (satCons (codec_Decode.sat k) (satCons (digest_Chain.sat k) (satCons (journal_number.sat k) satNil)))
  sat_of (C := journal_entry.C k) hC mixed journal_entry.at journal_entry.nm journal_entry.bo (all_pieces rfl locNil) (journal_entry.ev k) (ooC (fun _ => rfl) (ooC (fun _ => rfl) ooN)) (dstOk_zero _) (by decide) rfl

/-! ### journal_read: function 31 (examboard/journal.read) -/
abbrev journal_read.A : Sig := ⟨1, [], (.nilL), [0], (.cons (.v (.sl (.int .u8))) .nilL)⟩
abbrev journal_read.R0 : Sig := ⟨1, [], (.nilL), [0], (.cons (.tup (.cons (.v (.sl .node)) (.cons (.v (.int .i64)) (.cons (.v (.int .u64)) (.cons .nili .nilL))))) .nilL)⟩
abbrev journal_read.R1 : Sig := ⟨1, [], (.nilL), [0], (.cons (.tup (.cons (.v (.sl .node)) (.cons (.v (.int .i64)) (.cons (.v (.int .u64)) (.cons (.ifc 74 (.cp (.cons (.v (.int .i64)) .nilL))) .nilL))))) .nilL)⟩
abbrev journal_read.outs : List Out := [⟨.ret, journal_read.R0, List Nd × Int × Int, fun y => ((), ((y.1, y.2.1, y.2.2, (), ()), ())), fun x => (x.2.1.1, x.2.1.2.1, x.2.1.2.2.1)⟩, ⟨.ret, journal_read.R1, List Nd × Int × Int × Int, fun y => ((), ((y.1, y.2.1, y.2.2.1, (y.2.2.2, ()), ()), ())), fun x => (x.2.1.1, x.2.1.2.1, x.2.1.2.2.1, x.2.1.2.2.2.1.1)⟩]
abbrev journal_read.l60.A : Sig := ⟨54, [.slot 6], (.cons (.orow 42 .node) .nilL), [0, 6, 7, 8], (.cons (.v (.sl (.int .u8))) (.cons (.rowr 0) (.cons (.v (.int .i64)) (.cons (.v (.int .u64)) .nilL))))⟩
abbrev journal_read.l60.R0 : Sig := ⟨54, [.slot 6], (.cons (.orow 42 .node) .nilL), [6, 7, 8], (.cons (.rowr 0) (.cons (.v (.int .i64)) (.cons (.v (.int .u64)) .nilL)))⟩
abbrev journal_read.l60.R1 : Sig := ⟨54, [.slot 2], (.cons (.orow 42 .node) .nilL), [2, 3, 4, 5], (.cons (.rowr 0) (.cons (.v (.int .i64)) (.cons (.v (.int .u64)) (.cons (.ifc 74 (.cp (.cons (.v (.int .i64)) .nilL))) .nilL))))⟩
abbrev journal_read.l60.outs : List Out := [⟨(.exit 0), journal_read.l60.R0, List Nd × Int × Int, fun y => ((y.1, ()), ((), y.2.1, y.2.2, ())), fun x => (x.1.1, x.2.2.1, x.2.2.2.1)⟩, ⟨.ret, journal_read.l60.R1, List Nd × Int × Int × Int, fun y => ((y.1, ()), ((), y.2.1, y.2.2.1, (y.2.2.2, ()), ())), fun x => (x.1.1, x.2.2.1, x.2.2.2.1, x.2.2.2.2.1.1)⟩]
def journal_read.l60 (k : Nat) : Nat → (List Nd) → (List Int) → Int → Int → Option ((List Nd × Int × Int) ⊕ (List Nd × Int × Int × Int))
  | 0, _, _, _, _ => none
  | q + 1, x0, x1, x2, x3 =>
    cond (decide (x2 < (x1.length : Int)))
    (cond ((x0.length : Int) == 300)
      (some (.inr (x0, x2, x3, 5)))
      (cond ((decide ((0 : Int) ≤ x2)) && ((decide (x2 ≤ (x1.length : Int))) && (decide ((x1.length : Int) ≤ (x1.length : Int)))))
        ((journal_entry.f k (List.drop (Int.toNat x2) (List.take (Int.toNat (x1.length : Int)) x1)) x3).bind fun y5 =>
          Sum.casesOn (motive := fun _ => Option _) y5 (fun u6 =>
          cond (fits (x0.length + 1) 64)
            (journal_read.l60 k q (x0 ++ [(⟨u6.1, u6.2.1, u6.2.2.1, u6.2.2.2.1, u6.2.2.2.2.1⟩ : Nd)]) x1 (IntKind.wrap .i64 (x2 + u6.2.2.2.2.2.1)) u6.2.2.2.2.2.2)
            (none))
          (fun v7 =>
          some (.inr (x0, x2, x3, v7.2.2.2.2.2.2.2))))
        (none)))
    (some (.inl (x0, x2, x3)))
abbrev journal_read.l60.pc (k : Nat) : Pc := ⟨journal_read.l60.A, journal_read.l60.outs, fun x => journal_read.l60 k k x.1.1 x.2.1 x.2.2.2.1 x.2.2.2.2.1⟩
def journal_read.f (k : Nat) (a0 : List Int) : Option ((List Nd × Int × Int) ⊕ (List Nd × Int × Int × Int)) :=
  (digest_Of.f k ([] : List Int)).bind fun y1 =>
  (journal_read.l60 k k ([] : List Nd) a0 0 y1).bind fun y8 =>
  Sum.casesOn (motive := fun _ => Option _) y8 (fun u9 =>
  some (.inl (u9.1, u9.2.1, u9.2.2)))
  (fun v10 =>
  some (.inr (v10.1, v10.2.1, v10.2.2.1, v10.2.2.2)))
abbrev journal_read.E (k : Nat) : Ent := ⟨journal_read.A, journal_read.outs, fun x => journal_read.f k x.2.1⟩
noncomputable abbrev journal_read.C (k : Nat) : Cfg := ⟨Tryz.prog, shs, look2 [(54, [], digest_Of.E k), (55, [], journal_entry.E k)], look [(60, journal_read.l60.pc k)]⟩
theorem journal_read.l60.ev (k q : Nat) (x : journal_read.l60.A.V) : ((codeAt 60 (bodyOf (Tryz.f31)) 60).bind fun c => (loopOf c).bind fun c1 => evL (journal_read.C k) c1 60 journal_read.l60.A journal_read.l60.outs (fun x => journal_read.l60 k q x.1.1 x.2.1 x.2.2.2.1 x.2.2.2.2.1) x) = journal_read.l60 k (q + 1) x.1.1 x.2.1 x.2.2.2.1 x.2.2.2.2.1 := by kernel_rfl
theorem journal_read.ev (k : Nat) (x : journal_read.A.V) : evF (journal_read.C k) Tryz.f31 journal_read.A journal_read.outs x = journal_read.f k x.2.1 := by kernel_rfl
theorem journal_read.at : Tryz.prog.funcs[31]? = some Tryz.f31 := by kernel_rfl
theorem journal_read.bo : Tryz.f31.body = some (bodyOf (Tryz.f31)) := by kernel_rfl
theorem journal_read.nm : (Tryz.f31.name == "runtime.NumGoroutine") = false := by kernel_rfl
theorem journal_read.sat (k : Nat) : Sat Tryz.prog 31 (journal_read.E k) :=
  have hC : ∀ g l N, (journal_read.C k).orc g l = some N → Sat Tryz.prog g N := satAll (satCons (digest_Of.sat k) (satCons (journal_entry.sat k) satNil))
  sat_of (C := journal_read.C k) hC mixed journal_read.at journal_read.nm journal_read.bo (all_pieces rfl (locCons (loc_loop (A := journal_read.l60.A) (outs := journal_read.l60.outs) hC mixed (dstOk_zero _) (fun (q : Nat) (x : journal_read.l60.A.V) => journal_read.l60 k q x.1.1 x.2.1 x.2.2.2.1 x.2.2.2.2.1) (fun _ => rfl) (journal_read.l60.ev k) (ooC (fun _ => rfl) (ooC (fun _ => rfl) ooN)) rfl rfl k) locNil)) (journal_read.ev k) (ooC (fun _ => rfl) (ooC (fun _ => rfl) ooN)) (dstOk_zero _) (by decide) rfl

/-! ### codec_varintSize: function 79 (examboard/codec.varintSize) -/
abbrev codec_varintSize.A : Sig := ⟨1, [], (.nilL), [0], (.cons (.v (.int .u64)) .nilL)⟩
abbrev codec_varintSize.R0 : Sig := ⟨1, [], (.nilL), [0], (.cons (.v (.int .i64)) .nilL)⟩
abbrev codec_varintSize.outs : List Out := [⟨.ret, codec_varintSize.R0, Int, fun y => ((), (y, ())), fun x => x.2.1⟩]
abbrev codec_varintSize.l28.A : Sig := ⟨11, [], (.nilL), [0, 3], (.cons (.v (.int .u64)) (.cons (.v (.int .i64)) .nilL))⟩
abbrev codec_varintSize.l28.R0 : Sig := ⟨11, [], (.nilL), [3], (.cons (.v (.int .i64)) .nilL)⟩
abbrev codec_varintSize.l28.outs : List Out := [⟨(.exit 0), codec_varintSize.l28.R0, Int, fun y => ((), (y, ())), fun x => x.2.1⟩]
def codec_varintSize.l28 (k : Nat) : Nat → Int → Int → Option (Int)
  | 0, _, _ => none
  | q + 1, x0, x1 =>
    cond (decide (x0 > 127))
    (codec_varintSize.l28 k q (Int.fdiv x0 (2 ^ (7))) (IntKind.wrap .i64 (x1 + 1)))
    (some x1)
abbrev codec_varintSize.l28.pc (k : Nat) : Pc := ⟨codec_varintSize.l28.A, codec_varintSize.l28.outs, fun x => codec_varintSize.l28 k k x.2.1 x.2.2.1⟩
def codec_varintSize.f (k : Nat) (a0 : Int) : Option (Int) :=
  (codec_varintSize.l28 k k a0 1).bind fun y1 =>
  some y1
abbrev codec_varintSize.E (k : Nat) : Ent := ⟨codec_varintSize.A, codec_varintSize.outs, fun x => codec_varintSize.f k x.2.1⟩
noncomputable abbrev codec_varintSize.C (k : Nat) : Cfg := ⟨Tryz.prog, shs, look2 [], look [(28, codec_varintSize.l28.pc k)]⟩
theorem codec_varintSize.l28.ev (k q : Nat) (x : codec_varintSize.l28.A.V) : ((codeAt 60 (bodyOf (Tryz.f79)) 28).bind fun c => (loopOf c).bind fun c1 => evL (codec_varintSize.C k) c1 28 codec_varintSize.l28.A codec_varintSize.l28.outs (fun x => codec_varintSize.l28 k q x.2.1 x.2.2.1) x) = codec_varintSize.l28 k (q + 1) x.2.1 x.2.2.1 := by kernel_rfl
theorem codec_varintSize.ev (k : Nat) (x : codec_varintSize.A.V) : evF (codec_varintSize.C k) Tryz.f79 codec_varintSize.A codec_varintSize.outs x = codec_varintSize.f k x.2.1 := by kernel_rfl
theorem codec_varintSize.at : Tryz.prog.funcs[79]? = some Tryz.f79 := by kernel_rfl
theorem codec_varintSize.bo : Tryz.f79.body = some (bodyOf (Tryz.f79)) := by kernel_rfl
theorem codec_varintSize.nm : (Tryz.f79.name == "runtime.NumGoroutine") = false := by kernel_rfl
theorem codec_varintSize.sat (k : Nat) : Sat Tryz.prog 79 (codec_varintSize.E k) :=
  have hC : ∀ g l N, (codec_varintSize.C k).orc g l = some N → Sat Tryz.prog g N := satAll satNil
  sat_of (C := codec_varintSize.C k) hC mixed codec_varintSize.at codec_varintSize.nm codec_varintSize.bo (all_pieces rfl (locCons (loc_loop (A := codec_varintSize.l28.A) (outs := codec_varintSize.l28.outs) hC mixed (dstOk_zero _) (fun (q : Nat) (x : codec_varintSize.l28.A.V) => codec_varintSize.l28 k q x.2.1 x.2.2.1) (fun _ => rfl) (codec_varintSize.l28.ev k) (ooC (fun _ => rfl) ooN) rfl rfl k) locNil)) (codec_varintSize.ev k) (ooC (fun _ => rfl) ooN) (dstOk_zero _) (by decide) rfl

/-! ### codec_zigzag: function 80 (examboard/codec.zigzag) -/
abbrev codec_zigzag.A : Sig := ⟨1, [], (.nilL), [0], (.cons (.v (.int .i64)) .nilL)⟩
abbrev codec_zigzag.R0 : Sig := ⟨1, [], (.nilL), [0], (.cons (.v (.int .u64)) .nilL)⟩
abbrev codec_zigzag.outs : List Out := [⟨.ret, codec_zigzag.R0, Int, fun y => ((), (y, ())), fun x => x.2.1⟩]
def codec_zigzag.f (k : Nat) (a0 : Int) : Option (Int) :=
  cond (decide (a0 < 0))
  (some (IntKind.wrap .u64 (((BitVec.ofInt 64 (IntKind.wrap .u64 ((IntKind.wrap .u64 (IntKind.wrap .i64 (0 - (IntKind.wrap .i64 (a0 + 1))))) * 2 ^ (1)))) ||| (BitVec.ofInt 64 1)).toNat : Int)))
  (some (IntKind.wrap .u64 ((IntKind.wrap .u64 a0) * 2 ^ (1))))
abbrev codec_zigzag.E (k : Nat) : Ent := ⟨codec_zigzag.A, codec_zigzag.outs, fun x => codec_zigzag.f k x.2.1⟩
noncomputable abbrev codec_zigzag.C (k : Nat) : Cfg := ⟨Tryz.prog, shs, look2 [], look []⟩
theorem codec_zigzag.ev (k : Nat) (x : codec_zigzag.A.V) : evF (codec_zigzag.C k) Tryz.f80 codec_zigzag.A codec_zigzag.outs x = codec_zigzag.f k x.2.1 := by kernel_rfl
theorem codec_zigzag.at : Tryz.prog.funcs[80]? = some Tryz.f80 := by kernel_rfl
theorem codec_zigzag.bo : Tryz.f80.body = some (bodyOf (Tryz.f80)) := by kernel_rfl
theorem codec_zigzag.nm : (Tryz.f80.name == "runtime.NumGoroutine") = false := by kernel_rfl
theorem codec_zigzag.sat (k : Nat) : Sat Tryz.prog 80 (codec_zigzag.E k) :=
  have hC : ∀ g l N, (codec_zigzag.C k).orc g l = some N → Sat Tryz.prog g N := satAll satNil
  sat_of (C := codec_zigzag.C k) hC mixed codec_zigzag.at codec_zigzag.nm codec_zigzag.bo (all_pieces rfl locNil) (codec_zigzag.ev k) (ooC (fun _ => rfl) ooN) (dstOk_zero _) (by decide) rfl

/-! ### codec_size: function 57 (examboard/codec.size) -/
abbrev codec_size.A : Sig := ⟨2, [], (.nilL), [0, 1], (.cons (.agg (.cons (.v (.int .i64)) (.cons (.v (.int .i64)) (.cons (.v (.int .i64)) (.cons (.v .str) (.cons (.v (.sl .node)) .nilL)))))) (.cons (.v (.int .i64)) .nilL))⟩
abbrev codec_size.R0 : Sig := ⟨1, [], (.nilL), [0], (.cons (.v (.int .i64)) .nilL)⟩
abbrev codec_size.outs : List Out := [⟨.ret, codec_size.R0, Int, fun y => ((), (y, ())), fun x => x.2.1⟩]
abbrev codec_size.l251866.A : Sig := ⟨117, [], (.nilL), [1, 6, 98, 99, 100], (.cons (.v (.int .i64)) (.cons (.v (.int .i64)) (.cons (.v (.sl .node)) (.cons (.v (.int .i64)) (.cons (.v (.int .i64)) .nilL)))))⟩
abbrev codec_size.l251866.R0 : Sig := ⟨117, [], (.nilL), [6], (.cons (.v (.int .i64)) .nilL)⟩
abbrev codec_size.l251866.R1 : Sig := ⟨117, [], (.nilL), [4], (.cons (.v (.int .i64)) .nilL)⟩
abbrev codec_size.l251866.outs : List Out := [⟨(.exit 1), codec_size.l251866.R0, Int, fun y => ((), (y, ())), fun x => x.2.1⟩, ⟨.ret, codec_size.l251866.R1, Int, fun y => ((), (y, ())), fun x => x.2.1⟩]
def codec_size.l251866 (self : Int → Int → Int → ByteArray → (List Nd) → Int → Option (Int)) (k : Nat) : Nat → Int → Int → (List Nd) → Int → Int → Option ((Int) ⊕ (Int))
  | 0, _, _, _, _, _ => none
  | q + 1, x0, x1, x2, x3, x4 =>
    cond (decide (x4 < x3))
    (cond (inB x4 x2.length)
      ((self ((rdL .node x2 x4).tag) ((rdL .node x2 x4).kind) ((rdL .node x2 x4).n) ((rdL .node x2 x4).s) ((rdL .node x2 x4).kids) (IntKind.wrap .i64 (x0 + 1))).bind fun y14 =>
        cond (decide (y14 < 0))
        (some (.inr (-1)))
        (cond (decide ((IntKind.wrap .i64 (x1 + y14)) > 1048576))
          (some (.inr (-1)))
          (codec_size.l251866 self k q x0 (IntKind.wrap .i64 (x1 + y14)) x2 x3 (IntKind.wrap .i64 (x4 + 1)))))
      (none))
    (some (.inl x1))
abbrev codec_size.l251866.pc (self : Int → Int → Int → ByteArray → (List Nd) → Int → Option (Int)) (k : Nat) : Pc := ⟨codec_size.l251866.A, codec_size.l251866.outs, fun x => codec_size.l251866 self k k x.2.1 x.2.2.1 x.2.2.2.1 x.2.2.2.2.1 x.2.2.2.2.2.1⟩
def codec_size.g (self : Int → Int → Int → ByteArray → (List Nd) → Int → Option (Int)) (k : Nat) (a0 : Int) (a1 : Int) (a2 : Int) (a3 : ByteArray) (a4 : List Nd) (a5 : Int) : Option (Int) :=
  Option.bind (cond (decide (a5 > 8))
    (some true)
    (some (decide (a0 < 0)))) fun (c1 : Bool) =>
  Option.bind (cond c1
    (some true)
    (some (decide (a0 > 9999999)))) fun (c2 : Bool) =>
  cond c2
  (some (-1))
  ((codec_varintSize.f k (IntKind.wrap .u64 a0)).bind fun y3 =>
    cond (a1 == 1)
    (Option.bind (cond (!(a3.toList == (⟨#[]⟩ : ByteArray).toList))
        (some true)
        (some (decide ((a4.length : Int) > 0)))) fun (c4 : Bool) =>
      cond c4
      (some (-1))
      ((codec_zigzag.f k a2).bind fun y5 =>
        (codec_varintSize.f k y5).bind fun y6 =>
        some (IntKind.wrap .i64 ((IntKind.wrap .i64 (y3 + 1)) + y6))))
    (cond (a1 == 2)
      (Option.bind (cond (a2 != 0)
          (some true)
          (some (decide ((a4.length : Int) > 0)))) fun (c7 : Bool) =>
        Option.bind (cond c7
          (some true)
          (some (decide ((a3.size : Int) > 2000)))) fun (c8 : Bool) =>
        cond c8
        (some (-1))
        ((codec_varintSize.f k (IntKind.wrap .u64 (a3.size : Int))).bind fun y9 =>
          some (IntKind.wrap .i64 ((IntKind.wrap .i64 ((IntKind.wrap .i64 (y3 + 1)) + y9)) + (a3.size : Int)))))
      (cond (a1 == 3)
        (Option.bind (cond (a2 != 0)
            (some true)
            (some (!(a3.toList == (⟨#[]⟩ : ByteArray).toList)))) fun (c10 : Bool) =>
          Option.bind (cond c10
            (some true)
            (some (decide ((a4.length : Int) > 1024)))) fun (c11 : Bool) =>
          cond c11
          (some (-1))
          ((codec_varintSize.f k (IntKind.wrap .u64 (a4.length : Int))).bind fun y12 =>
            (codec_size.l251866 self k k a5 (IntKind.wrap .i64 ((IntKind.wrap .i64 (y3 + 1)) + y12)) a4 (a4.length : Int) 0).bind fun y15 =>
            Sum.casesOn (motive := fun _ => Option _) y15 (fun u16 =>
            some u16)
            (fun v17 =>
            some v17)))
        (some (-1)))))
def codec_size.f : Nat → Int → Int → Int → ByteArray → (List Nd) → Int → Option (Int)
  | 0, _, _, _, _, _, _ => none
  | k + 1, a0, a1, a2, a3, a4, a5 => codec_size.g (codec_size.f k) k a0 a1 a2 a3 a4 a5
abbrev codec_size.ES (self : Int → Int → Int → ByteArray → (List Nd) → Int → Option (Int)) : Ent := ⟨codec_size.A, codec_size.outs, fun x => self x.2.1.1 x.2.1.2.1 x.2.1.2.2.1 x.2.1.2.2.2.1 x.2.1.2.2.2.2.1 x.2.2.1⟩
abbrev codec_size.E (k : Nat) : Ent := ⟨codec_size.A, codec_size.outs, fun x => codec_size.f k x.2.1.1 x.2.1.2.1 x.2.1.2.2.1 x.2.1.2.2.2.1 x.2.1.2.2.2.2.1 x.2.2.1⟩
noncomputable abbrev codec_size.C (self : Int → Int → Int → ByteArray → (List Nd) → Int → Option (Int)) (k : Nat) : Cfg := ⟨Tryz.prog, shs, look2 [(57, [], codec_size.ES self), (79, [], codec_varintSize.E k), (80, [], codec_zigzag.E k)], look [(251866, codec_size.l251866.pc self k)]⟩
theorem codec_size.l251866.ev (self : Int → Int → Int → ByteArray → (List Nd) → Int → Option (Int)) (k q : Nat) (x : codec_size.l251866.A.V) : ((codeAt 60 (bodyOf (Tryz.f57)) 251866).bind fun c => (loopOf c).bind fun c1 => evL (codec_size.C self k) c1 251866 codec_size.l251866.A codec_size.l251866.outs (fun x => codec_size.l251866 self k q x.2.1 x.2.2.1 x.2.2.2.1 x.2.2.2.2.1 x.2.2.2.2.2.1) x) = codec_size.l251866 self k (q + 1) x.2.1 x.2.2.1 x.2.2.2.1 x.2.2.2.2.1 x.2.2.2.2.2.1 := by kernel_rfl
theorem codec_size.ev (self : Int → Int → Int → ByteArray → (List Nd) → Int → Option (Int)) (k : Nat) (x : codec_size.A.V) : evF (codec_size.C self k) Tryz.f57 codec_size.A codec_size.outs x = codec_size.g self k x.2.1.1 x.2.1.2.1 x.2.1.2.2.1 x.2.1.2.2.2.1 x.2.1.2.2.2.2.1 x.2.2.1 := by kernel_rfl
theorem codec_size.at : Tryz.prog.funcs[57]? = some Tryz.f57 := by kernel_rfl
theorem codec_size.bo : Tryz.f57.body = some (bodyOf (Tryz.f57)) := by kernel_rfl
theorem codec_size.nm : (Tryz.f57.name == "runtime.NumGoroutine") = false := by kernel_rfl
theorem codec_size.satS (self : Int → Int → Int → ByteArray → (List Nd) → Int → Option (Int)) (k : Nat) (hS : Sat Tryz.prog 57 (codec_size.ES self)) : Sat Tryz.prog 57 ⟨codec_size.A, codec_size.outs, fun x => codec_size.g self k x.2.1.1 x.2.1.2.1 x.2.1.2.2.1 x.2.1.2.2.2.1 x.2.1.2.2.2.2.1 x.2.2.1⟩ :=
  have hC : ∀ g l N, (codec_size.C self k).orc g l = some N → Sat Tryz.prog g N := satAll (satCons hS (satCons (codec_varintSize.sat k) (satCons (codec_zigzag.sat k) satNil)))
  sat_of (C := codec_size.C self k) hC mixed codec_size.at codec_size.nm codec_size.bo (all_pieces rfl (locCons (loc_loop (A := codec_size.l251866.A) (outs := codec_size.l251866.outs) hC mixed (dstOk_zero _) (fun (q : Nat) (x : codec_size.l251866.A.V) => codec_size.l251866 self k q x.2.1 x.2.2.1 x.2.2.2.1 x.2.2.2.2.1 x.2.2.2.2.2.1) (fun _ => rfl) (codec_size.l251866.ev self k) (ooC (fun _ => rfl) (ooC (fun _ => rfl) ooN)) rfl rfl k) locNil)) (codec_size.ev self k) (ooC (fun _ => rfl) ooN) (dstOk_zero _) (by decide) rfl
theorem codec_size.sat : ∀ k, Sat Tryz.prog 57 (codec_size.E k)
  | 0 => sat_none codec_size.at codec_size.nm codec_size.bo (fun _ => rfl)
  | k + 1 => codec_size.satS (codec_size.f k) k (codec_size.sat k)

/-! ### codec_putVarint: function 81 (examboard/codec.putVarint) -/
abbrev codec_putVarint.A : Sig := ⟨2, [.slot 0], (.cons (.orow 5 (.int .u8)) .nilL), [0, 1], (.cons (.rowr 0) (.cons (.v (.int .u64)) .nilL))⟩
abbrev codec_putVarint.R0 : Sig := ⟨1, [.slot 0], (.cons (.orow 5 (.int .u8)) .nilL), [0], (.cons (.rowr 0) .nilL)⟩
abbrev codec_putVarint.outs : List Out := [⟨.ret, codec_putVarint.R0, List Int, fun y => ((y, ()), ((), ())), fun x => x.1.1⟩]
abbrev codec_putVarint.l12.A : Sig := ⟨20, [.slot 0], (.cons (.orow 5 (.int .u8)) .nilL), [0, 1], (.cons (.rowr 0) (.cons (.v (.int .u64)) .nilL))⟩
abbrev codec_putVarint.l12.R0 : Sig := ⟨20, [.slot 0], (.cons (.orow 5 (.int .u8)) .nilL), [0, 1], (.cons (.rowr 0) (.cons (.v (.int .u64)) .nilL))⟩
abbrev codec_putVarint.l12.outs : List Out := [⟨(.exit 0), codec_putVarint.l12.R0, List Int × Int, fun y => ((y.1, ()), ((), y.2, ())), fun x => (x.1.1, x.2.2.1)⟩]
def codec_putVarint.l12 (k : Nat) : Nat → (List Int) → Int → Option (List Int × Int)
  | 0, _, _ => none
  | q + 1, x0, x1 =>
    cond (decide (x1 > 127))
    (cond (fits (x0.length + 1) 1)
      (codec_putVarint.l12 k q (x0 ++ [(IntKind.wrap .u8 (((BitVec.ofInt 8 (IntKind.wrap .u8 x1)) ||| (BitVec.ofInt 8 128)).toNat : Int))]) (Int.fdiv x1 (2 ^ (7))))
      (none))
    (some (x0, x1))
abbrev codec_putVarint.l12.pc (k : Nat) : Pc := ⟨codec_putVarint.l12.A, codec_putVarint.l12.outs, fun x => codec_putVarint.l12 k k x.1.1 x.2.2.1⟩
def codec_putVarint.f (k : Nat) (a0 : List Int) (a1 : Int) : Option (List Int) :=
  (codec_putVarint.l12 k k a0 a1).bind fun y1 =>
  cond (fits (y1.1.length + 1) 1)
  (some (y1.1 ++ [(IntKind.wrap .u8 y1.2)]))
  (none)
abbrev codec_putVarint.E (k : Nat) : Ent := ⟨codec_putVarint.A, codec_putVarint.outs, fun x => codec_putVarint.f k x.1.1 x.2.2.1⟩
noncomputable abbrev codec_putVarint.C (k : Nat) : Cfg := ⟨Tryz.prog, shs, look2 [], look [(12, codec_putVarint.l12.pc k)]⟩
theorem codec_putVarint.l12.ev (k q : Nat) (x : codec_putVarint.l12.A.V) : ((codeAt 60 (bodyOf (Tryz.f81)) 12).bind fun c => (loopOf c).bind fun c1 => evL (codec_putVarint.C k) c1 12 codec_putVarint.l12.A codec_putVarint.l12.outs (fun x => codec_putVarint.l12 k q x.1.1 x.2.2.1) x) = codec_putVarint.l12 k (q + 1) x.1.1 x.2.2.1 := by kernel_rfl
theorem codec_putVarint.ev (k : Nat) (x : codec_putVarint.A.V) : evF (codec_putVarint.C k) Tryz.f81 codec_putVarint.A codec_putVarint.outs x = codec_putVarint.f k x.1.1 x.2.2.1 := by kernel_rfl
theorem codec_putVarint.at : Tryz.prog.funcs[81]? = some Tryz.f81 := by kernel_rfl
theorem codec_putVarint.bo : Tryz.f81.body = some (bodyOf (Tryz.f81)) := by kernel_rfl
theorem codec_putVarint.nm : (Tryz.f81.name == "runtime.NumGoroutine") = false := by kernel_rfl
theorem codec_putVarint.sat (k : Nat) : Sat Tryz.prog 81 (codec_putVarint.E k) :=
  have hC : ∀ g l N, (codec_putVarint.C k).orc g l = some N → Sat Tryz.prog g N := satAll satNil
  sat_of (C := codec_putVarint.C k) hC mixed codec_putVarint.at codec_putVarint.nm codec_putVarint.bo (all_pieces rfl (locCons (loc_loop (A := codec_putVarint.l12.A) (outs := codec_putVarint.l12.outs) hC mixed (dstOk_zero _) (fun (q : Nat) (x : codec_putVarint.l12.A.V) => codec_putVarint.l12 k q x.1.1 x.2.2.1) (fun _ => rfl) (codec_putVarint.l12.ev k) (ooC (fun _ => rfl) ooN) rfl rfl k) locNil)) (codec_putVarint.ev k) (ooC (fun _ => rfl) ooN) (dstOk_zero _) (by decide) rfl

/-! ### codec_put: function 58 (examboard/codec.put) -/
abbrev codec_put.A : Sig := ⟨2, [.slot 0], (.cons (.orow 5 (.int .u8)) .nilL), [0, 1], (.cons (.rowr 0) (.cons (.agg (.cons (.v (.int .i64)) (.cons (.v (.int .i64)) (.cons (.v (.int .i64)) (.cons (.v .str) (.cons (.v (.sl .node)) .nilL)))))) .nilL))⟩
abbrev codec_put.R0 : Sig := ⟨1, [.slot 0], (.cons (.orow 5 (.int .u8)) .nilL), [0], (.cons (.rowr 0) .nilL)⟩
abbrev codec_put.outs : List Out := [⟨.ret, codec_put.R0, List Int, fun y => ((y, ()), ((), ())), fun x => x.1.1⟩]
abbrev codec_put.l250.A : Sig := ⟨55, [.slot 0], (.cons (.orow 5 (.int .u8)) .nilL), [0, 44, 45, 46], (.cons (.rowr 0) (.cons (.v (.sl .node)) (.cons (.v (.int .i64)) (.cons (.v (.int .i64)) .nilL))))⟩
abbrev codec_put.l250.R0 : Sig := ⟨55, [.slot 0], (.cons (.orow 5 (.int .u8)) .nilL), [0], (.cons (.rowr 0) .nilL)⟩
abbrev codec_put.l250.outs : List Out := [⟨(.exit 1), codec_put.l250.R0, List Int, fun y => ((y, ()), ((), ())), fun x => x.1.1⟩]
def codec_put.l250 (self : (List Int) → Int → Int → Int → ByteArray → (List Nd) → Option (List Int)) (k : Nat) : Nat → (List Int) → (List Nd) → Int → Int → Option (List Int)
  | 0, _, _, _, _ => none
  | q + 1, x0, x1, x2, x3 =>
    cond (decide (x3 < x2))
    (cond (inB x3 x1.length)
      ((self x0 ((rdL .node x1 x3).tag) ((rdL .node x1 x3).kind) ((rdL .node x1 x3).n) ((rdL .node x1 x3).s) ((rdL .node x1 x3).kids)).bind fun y7 =>
        codec_put.l250 self k q y7 x1 x2 (IntKind.wrap .i64 (x3 + 1)))
      (none))
    (some x0)
abbrev codec_put.l250.pc (self : (List Int) → Int → Int → Int → ByteArray → (List Nd) → Option (List Int)) (k : Nat) : Pc := ⟨codec_put.l250.A, codec_put.l250.outs, fun x => codec_put.l250 self k k x.1.1 x.2.2.1 x.2.2.2.1 x.2.2.2.2.1⟩
def codec_put.g (self : (List Int) → Int → Int → Int → ByteArray → (List Nd) → Option (List Int)) (k : Nat) (a0 : List Int) (a1 : Int) (a2 : Int) (a3 : Int) (a4 : ByteArray) (a5 : List Nd) : Option (List Int) :=
  (codec_putVarint.f k a0 (IntKind.wrap .u64 a1)).bind fun y1 =>
  cond (fits (y1.length + 1) 1)
  (cond (a2 == 1)
    ((codec_zigzag.f k a3).bind fun y2 =>
      (codec_putVarint.f k (y1 ++ [(IntKind.wrap .u8 a2)]) y2).bind fun y3 =>
      some y3)
    (cond (a2 == 2)
      ((codec_putVarint.f k (y1 ++ [(IntKind.wrap .u8 a2)]) (IntKind.wrap .u64 (a4.size : Int))).bind fun y4 =>
        cond (fits (y4.length + (strList a4).length) 1)
        (some (y4 ++ (strList a4)))
        (none))
      ((codec_putVarint.f k (y1 ++ [(IntKind.wrap .u8 a2)]) (IntKind.wrap .u64 (a5.length : Int))).bind fun y5 =>
        (codec_put.l250 self k k y5 a5 (a5.length : Int) 0).bind fun y8 =>
        some y8)))
  (none)
def codec_put.f : Nat → (List Int) → Int → Int → Int → ByteArray → (List Nd) → Option (List Int)
  | 0, _, _, _, _, _, _ => none
  | k + 1, a0, a1, a2, a3, a4, a5 => codec_put.g (codec_put.f k) k a0 a1 a2 a3 a4 a5
abbrev codec_put.ES (self : (List Int) → Int → Int → Int → ByteArray → (List Nd) → Option (List Int)) : Ent := ⟨codec_put.A, codec_put.outs, fun x => self x.1.1 x.2.2.1.1 x.2.2.1.2.1 x.2.2.1.2.2.1 x.2.2.1.2.2.2.1 x.2.2.1.2.2.2.2.1⟩
abbrev codec_put.E (k : Nat) : Ent := ⟨codec_put.A, codec_put.outs, fun x => codec_put.f k x.1.1 x.2.2.1.1 x.2.2.1.2.1 x.2.2.1.2.2.1 x.2.2.1.2.2.2.1 x.2.2.1.2.2.2.2.1⟩
noncomputable abbrev codec_put.C (self : (List Int) → Int → Int → Int → ByteArray → (List Nd) → Option (List Int)) (k : Nat) : Cfg := ⟨Tryz.prog, shs, look2 [(58, [], codec_put.ES self), (81, [], codec_putVarint.E k), (80, [], codec_zigzag.E k)], look [(250, codec_put.l250.pc self k)]⟩
theorem codec_put.l250.ev (self : (List Int) → Int → Int → Int → ByteArray → (List Nd) → Option (List Int)) (k q : Nat) (x : codec_put.l250.A.V) : ((codeAt 60 (bodyOf (Tryz.f58)) 250).bind fun c => (loopOf c).bind fun c1 => evL (codec_put.C self k) c1 250 codec_put.l250.A codec_put.l250.outs (fun x => codec_put.l250 self k q x.1.1 x.2.2.1 x.2.2.2.1 x.2.2.2.2.1) x) = codec_put.l250 self k (q + 1) x.1.1 x.2.2.1 x.2.2.2.1 x.2.2.2.2.1 := by kernel_rfl
theorem codec_put.ev (self : (List Int) → Int → Int → Int → ByteArray → (List Nd) → Option (List Int)) (k : Nat) (x : codec_put.A.V) : evF (codec_put.C self k) Tryz.f58 codec_put.A codec_put.outs x = codec_put.g self k x.1.1 x.2.2.1.1 x.2.2.1.2.1 x.2.2.1.2.2.1 x.2.2.1.2.2.2.1 x.2.2.1.2.2.2.2.1 := by kernel_rfl
theorem codec_put.at : Tryz.prog.funcs[58]? = some Tryz.f58 := by kernel_rfl
theorem codec_put.bo : Tryz.f58.body = some (bodyOf (Tryz.f58)) := by kernel_rfl
theorem codec_put.nm : (Tryz.f58.name == "runtime.NumGoroutine") = false := by kernel_rfl
theorem codec_put.satS (self : (List Int) → Int → Int → Int → ByteArray → (List Nd) → Option (List Int)) (k : Nat) (hS : Sat Tryz.prog 58 (codec_put.ES self)) : Sat Tryz.prog 58 ⟨codec_put.A, codec_put.outs, fun x => codec_put.g self k x.1.1 x.2.2.1.1 x.2.2.1.2.1 x.2.2.1.2.2.1 x.2.2.1.2.2.2.1 x.2.2.1.2.2.2.2.1⟩ :=
  have hC : ∀ g l N, (codec_put.C self k).orc g l = some N → Sat Tryz.prog g N := satAll (satCons hS (satCons (codec_putVarint.sat k) (satCons (codec_zigzag.sat k) satNil)))
  sat_of (C := codec_put.C self k) hC mixed codec_put.at codec_put.nm codec_put.bo (all_pieces rfl (locCons (loc_loop (A := codec_put.l250.A) (outs := codec_put.l250.outs) hC mixed (dstOk_zero _) (fun (q : Nat) (x : codec_put.l250.A.V) => codec_put.l250 self k q x.1.1 x.2.2.1 x.2.2.2.1 x.2.2.2.2.1) (fun _ => rfl) (codec_put.l250.ev self k) (ooC (fun _ => rfl) ooN) rfl rfl k) locNil)) (codec_put.ev self k) (ooC (fun _ => rfl) ooN) (dstOk_zero _) (by decide) rfl
theorem codec_put.sat : ∀ k, Sat Tryz.prog 58 (codec_put.E k)
  | 0 => sat_none codec_put.at codec_put.nm codec_put.bo (fun _ => rfl)
  | k + 1 => codec_put.satS (codec_put.f k) k (codec_put.sat k)

/-! ### codec_Encode: function 33 (examboard/codec.Encode) -/
abbrev codec_Encode.A : Sig := ⟨1, [], (.nilL), [0], (.cons (.agg (.cons (.v (.int .i64)) (.cons (.v (.int .i64)) (.cons (.v (.int .i64)) (.cons (.v .str) (.cons (.v (.sl .node)) .nilL)))))) .nilL)⟩
abbrev codec_Encode.R0 : Sig := ⟨1, [], (.nilL), [0], (.cons (.tup (.cons (.v (.sl (.int .u8))) (.cons (.v (.int .i64)) .nilL))) .nilL)⟩
abbrev codec_Encode.outs : List Out := [⟨.ret, codec_Encode.R0, List Int × Int, fun y => ((), ((y.1, y.2, ()), ())), fun x => (x.2.1.1, x.2.1.2.1)⟩]
def codec_Encode.f (k : Nat) (a0 : Int) (a1 : Int) (a2 : Int) (a3 : ByteArray) (a4 : List Nd) : Option (List Int × Int) :=
  (codec_size.f k a0 a1 a2 a3 a4 1).bind fun y1 =>
  cond (decide (y1 < 0))
  (some (([] : List Int), 1))
  (cond ((decide ((0 : Int) ≤ 0)) && ((decide ((0 : Int) ≤ y1)) && (fits (Int.toNat y1) 1)))
    ((codec_put.f k ([] : List Int) a0 a1 a2 a3 a4).bind fun y2 =>
      some (y2, 0))
    (none))
abbrev codec_Encode.E (k : Nat) : Ent := ⟨codec_Encode.A, codec_Encode.outs, fun x => codec_Encode.f k x.2.1.1 x.2.1.2.1 x.2.1.2.2.1 x.2.1.2.2.2.1 x.2.1.2.2.2.2.1⟩
noncomputable abbrev codec_Encode.C (k : Nat) : Cfg := ⟨Tryz.prog, shs, look2 [(58, [], codec_put.E k), (57, [], codec_size.E k)], look []⟩
theorem codec_Encode.ev (k : Nat) (x : codec_Encode.A.V) : evF (codec_Encode.C k) Tryz.f33 codec_Encode.A codec_Encode.outs x = codec_Encode.f k x.2.1.1 x.2.1.2.1 x.2.1.2.2.1 x.2.1.2.2.2.1 x.2.1.2.2.2.2.1 := by kernel_rfl
theorem codec_Encode.at : Tryz.prog.funcs[33]? = some Tryz.f33 := by kernel_rfl
theorem codec_Encode.bo : Tryz.f33.body = some (bodyOf (Tryz.f33)) := by kernel_rfl
theorem codec_Encode.nm : (Tryz.f33.name == "runtime.NumGoroutine") = false := by kernel_rfl
theorem codec_Encode.sat (k : Nat) : Sat Tryz.prog 33 (codec_Encode.E k) :=
  have hC : ∀ g l N, (codec_Encode.C k).orc g l = some N → Sat Tryz.prog g N := satAll (satCons (codec_put.sat k) (satCons (codec_size.sat k) satNil))
  sat_of (C := codec_Encode.C k) hC mixed codec_Encode.at codec_Encode.nm codec_Encode.bo (all_pieces rfl locNil) (codec_Encode.ev k) (ooC (fun _ => rfl) ooN) (dstOk_zero _) (by decide) rfl

/-! ### journal_big: function 34 (examboard/journal.big) -/
abbrev journal_big.A : Sig := ⟨2, [], (.nilL), [0, 1], (.cons (.v (.int .u64)) (.cons (.v (.int .i64)) .nilL))⟩
abbrev journal_big.R0 : Sig := ⟨1, [.slot 0], (.cons (.orow 5 (.int .u8)) .nilL), [0], (.cons (.rowr 0) .nilL)⟩
abbrev journal_big.outs : List Out := [⟨.ret, journal_big.R0, List Int, fun y => ((y, ()), ((), ())), fun x => x.1.1⟩]
abbrev journal_big.l58.A : Sig := ⟨27, [.slot 5], (.cons (.orow 5 (.int .u8)) .nilL), [0, 1, 5, 10, 11], (.cons (.v (.int .u64)) (.cons (.v (.int .i64)) (.cons (.rowr 0) (.cons (.v (.int .i64)) (.cons (.v (.int .i64)) .nilL)))))⟩
abbrev journal_big.l58.R0 : Sig := ⟨27, [.slot 5], (.cons (.orow 5 (.int .u8)) .nilL), [5], (.cons (.rowr 0) .nilL)⟩
abbrev journal_big.l58.outs : List Out := [⟨(.exit 0), journal_big.l58.R0, List Int, fun y => ((y, ()), ((), ())), fun x => x.1.1⟩]
def journal_big.l58 (k : Nat) : Nat → (List Int) → Int → Int → Int → Int → Option (List Int)
  | 0, _, _, _, _, _ => none
  | q + 1, x0, x1, x2, x3, x4 =>
    cond (decide (x4 < x3))
    (cond (decide ((IntKind.wrap .i64 (8 * (IntKind.wrap .i64 ((IntKind.wrap .i64 (x2 - 1)) - x4)))) < 0))
      (none)
      (cond (inB x4 x0.length)
        (journal_big.l58 k q (List.set x0 (Int.toNat x4) (IntKind.wrap .u8 (Int.fdiv x1 (2 ^ (min (Int.toNat (IntKind.wrap .i64 (8 * (IntKind.wrap .i64 ((IntKind.wrap .i64 (x2 - 1)) - x4))))) 64))))) x1 x2 x3 (IntKind.wrap .i64 (x4 + 1)))
        (none)))
    (some x0)
abbrev journal_big.l58.pc (k : Nat) : Pc := ⟨journal_big.l58.A, journal_big.l58.outs, fun x => journal_big.l58 k k x.1.1 x.2.1 x.2.2.1 x.2.2.2.2.1 x.2.2.2.2.2.1⟩
def journal_big.f (k : Nat) (a0 : Int) (a1 : Int) : Option (List Int) :=
  cond ((decide ((0 : Int) ≤ a1)) && ((decide (a1 ≤ a1)) && (fits (Int.toNat a1) 1)))
  ((journal_big.l58 k k (List.replicate (Int.toNat a1) (0 : Int)) a0 a1 ((List.replicate (Int.toNat a1) (0 : Int)).length : Int) 0).bind fun y1 =>
    some y1)
  (none)
abbrev journal_big.E (k : Nat) : Ent := ⟨journal_big.A, journal_big.outs, fun x => journal_big.f k x.2.1 x.2.2.1⟩
noncomputable abbrev journal_big.C (k : Nat) : Cfg := ⟨Tryz.prog, shs, look2 [], look [(58, journal_big.l58.pc k)]⟩
theorem journal_big.l58.ev (k q : Nat) (x : journal_big.l58.A.V) : ((codeAt 60 (bodyOf (Tryz.f34)) 58).bind fun c => (loopOf c).bind fun c1 => evL (journal_big.C k) c1 58 journal_big.l58.A journal_big.l58.outs (fun x => journal_big.l58 k q x.1.1 x.2.1 x.2.2.1 x.2.2.2.2.1 x.2.2.2.2.2.1) x) = journal_big.l58 k (q + 1) x.1.1 x.2.1 x.2.2.1 x.2.2.2.2.1 x.2.2.2.2.2.1 := by kernel_rfl
theorem journal_big.ev (k : Nat) (x : journal_big.A.V) : evF (journal_big.C k) Tryz.f34 journal_big.A journal_big.outs x = journal_big.f k x.2.1 x.2.2.1 := by kernel_rfl
theorem journal_big.at : Tryz.prog.funcs[34]? = some Tryz.f34 := by kernel_rfl
theorem journal_big.bo : Tryz.f34.body = some (bodyOf (Tryz.f34)) := by kernel_rfl
theorem journal_big.nm : (Tryz.f34.name == "runtime.NumGoroutine") = false := by kernel_rfl
theorem journal_big.sat (k : Nat) : Sat Tryz.prog 34 (journal_big.E k) :=
  have hC : ∀ g l N, (journal_big.C k).orc g l = some N → Sat Tryz.prog g N := satAll satNil
  sat_of (C := journal_big.C k) hC mixed journal_big.at journal_big.nm journal_big.bo (all_pieces rfl (locCons (loc_loop (A := journal_big.l58.A) (outs := journal_big.l58.outs) hC mixed (dstOk_zero _) (fun (q : Nat) (x : journal_big.l58.A.V) => journal_big.l58 k q x.1.1 x.2.1 x.2.2.1 x.2.2.2.2.1 x.2.2.2.2.2.1) (fun _ => rfl) (journal_big.l58.ev k) (ooC (fun _ => rfl) ooN) rfl rfl k) locNil)) (journal_big.ev k) (ooC (fun _ => rfl) ooN) (dstOk_zero _) (by decide) rfl

/-! ### journal_Append: function 13 (examboard/journal.Append) -/
abbrev journal_Append.A : Sig := ⟨2, [], (.nilL), [0, 1], (.cons (.v (.sl (.int .u8))) (.cons (.agg (.cons (.v (.int .i64)) (.cons (.v (.int .i64)) (.cons (.v (.int .i64)) (.cons (.v .str) (.cons (.v (.sl .node)) .nilL)))))) .nilL))⟩
abbrev journal_Append.R0 : Sig := ⟨1, [], (.nilL), [0], (.cons (.tup (.cons (.v (.sl (.int .u8))) (.cons (.v (.int .i64)) .nilL))) .nilL)⟩
abbrev journal_Append.outs : List Out := [⟨.ret, journal_Append.R0, List Int × Int, fun y => ((), ((y.1, y.2, ()), ())), fun x => (x.2.1.1, x.2.1.2.1)⟩]
def journal_Append.f (k : Nat) (a0 : List Int) (a1 : Int) (a2 : Int) (a3 : Int) (a4 : ByteArray) (a5 : List Nd) : Option (List Int × Int) :=
  (journal_read.f k a0).bind fun y1 =>
  Sum.casesOn (motive := fun _ => Option _) y1 (fun u2 =>
  (journal_codeN.f k).bind fun y4 =>
    cond (y4 != 0)
    (some (([] : List Int), y4))
    ((codec_Encode.f k a1 a2 a3 a4 a5).bind fun y5 =>
      cond (y5.2 != 0)
      (some (([] : List Int), 1))
      (Option.bind (cond (decide ((y5.1.length : Int) > 2000))
          (some true)
          (some (decide ((u2.1.length : Int) ≥ 300)))) fun (c6 : Bool) =>
        cond c6
        (some (([] : List Int), 5))
        ((journal_big.f k (IntKind.wrap .u64 (y5.1.length : Int)) 4).bind fun y7 =>
          cond (fits (y7.length + y5.1.length) 1)
          ((bytes_Clone.f k a0).bind fun y8 =>
            cond (fits (y8.length + (y7 ++ y5.1).length) 1)
            ((digest_Chain.f k u2.2.2 (y7 ++ y5.1)).bind fun y9 =>
              (journal_big.f k y9 8).bind fun y10 =>
              cond (fits ((y8 ++ (y7 ++ y5.1)).length + y10.length) 1)
              (some (((y8 ++ (y7 ++ y5.1)) ++ y10), 0))
              (none))
            (none))
          (none)))))
  (fun v3 =>
  (journal_code.f k v3.2.2.2).bind fun y11 =>
    cond (y11 != 0)
    (some (([] : List Int), y11))
    ((codec_Encode.f k a1 a2 a3 a4 a5).bind fun y12 =>
      cond (y12.2 != 0)
      (some (([] : List Int), 1))
      (Option.bind (cond (decide ((y12.1.length : Int) > 2000))
          (some true)
          (some (decide ((v3.1.length : Int) ≥ 300)))) fun (c13 : Bool) =>
        cond c13
        (some (([] : List Int), 5))
        ((journal_big.f k (IntKind.wrap .u64 (y12.1.length : Int)) 4).bind fun y14 =>
          cond (fits (y14.length + y12.1.length) 1)
          ((bytes_Clone.f k a0).bind fun y15 =>
            cond (fits (y15.length + (y14 ++ y12.1).length) 1)
            ((digest_Chain.f k v3.2.2.1 (y14 ++ y12.1)).bind fun y16 =>
              (journal_big.f k y16 8).bind fun y17 =>
              cond (fits ((y15 ++ (y14 ++ y12.1)).length + y17.length) 1)
              (some (((y15 ++ (y14 ++ y12.1)) ++ y17), 0))
              (none))
            (none))
          (none)))))
abbrev journal_Append.E (k : Nat) : Ent := ⟨journal_Append.A, journal_Append.outs, fun x => journal_Append.f k x.2.1 x.2.2.1.1 x.2.2.1.2.1 x.2.2.1.2.2.1 x.2.2.1.2.2.2.1 x.2.2.1.2.2.2.2.1⟩
noncomputable abbrev journal_Append.C (k : Nat) : Cfg := ⟨Tryz.prog, shs, look2 [(35, [], bytes_Clone.E k), (33, [], codec_Encode.E k), (36, [], digest_Chain.E k), (34, [], journal_big.E k), (32, [], journal_code.E k), (32, [999999], journal_codeN.E k), (31, [], journal_read.E k)], look []⟩
theorem journal_Append.ev (k : Nat) (x : journal_Append.A.V) : evF (journal_Append.C k) Tryz.f13 journal_Append.A journal_Append.outs x = journal_Append.f k x.2.1 x.2.2.1.1 x.2.2.1.2.1 x.2.2.1.2.2.1 x.2.2.1.2.2.2.1 x.2.2.1.2.2.2.2.1 := by kernel_rfl
theorem journal_Append.at : Tryz.prog.funcs[13]? = some Tryz.f13 := by kernel_rfl
theorem journal_Append.bo : Tryz.f13.body = some (bodyOf (Tryz.f13)) := by kernel_rfl
theorem journal_Append.nm : (Tryz.f13.name == "runtime.NumGoroutine") = false := by kernel_rfl
theorem journal_Append.sat (k : Nat) : Sat Tryz.prog 13 (journal_Append.E k) :=
  have hC : ∀ g l N, (journal_Append.C k).orc g l = some N → Sat Tryz.prog g N := satAll (satCons (bytes_Clone.sat k) (satCons (codec_Encode.sat k) (satCons (digest_Chain.sat k) (satCons (journal_big.sat k) (satCons (journal_code.sat k) (satCons (journal_codeN.sat k) (satCons (journal_read.sat k) satNil)))))))
  sat_of (C := journal_Append.C k) hC mixed journal_Append.at journal_Append.nm journal_Append.bo (all_pieces rfl locNil) (journal_Append.ev k) (ooC (fun _ => rfl) ooN) (dstOk_zero _) (by decide) rfl

/-! ### resume_Write: function 4 (examboard/resume.Write) -/
abbrev resume_Write.A : Sig := ⟨2, [], (.nilL), [0, 1], (.cons (.v (.sl (.int .u8))) (.cons (.agg (.cons (.v (.int .i64)) (.cons (.v (.int .i64)) (.cons (.v (.int .i64)) (.cons (.v (.sl (.int .i64))) (.cons (.v (.int .i64)) (.cons (.v .str) (.cons (.v .bool) (.cons (.v (.int .i64)) (.cons (.v (.int .i64)) (.cons (.v (.int .i64)) (.cons (.v (.int .i64)) .nilL)))))))))))) .nilL))⟩
abbrev resume_Write.R0 : Sig := ⟨1, [], (.nilL), [0], (.cons (.tup (.cons (.v (.sl (.int .u8))) (.cons (.v (.int .i64)) .nilL))) .nilL)⟩
abbrev resume_Write.outs : List Out := [⟨.ret, resume_Write.R0, List Int × Int, fun y => ((), ((y.1, y.2, ()), ())), fun x => (x.2.1.1, x.2.1.2.1)⟩]
def resume_Write.f (k : Nat) (a0 : List Int) (a1 : Int) (a2 : Int) (a3 : Int) (a4 : List Int) (a5 : Int) (a6 : ByteArray) (a7 : Bool) (a8 : Int) (a9 : Int) (a10 : Int) (a11 : Int) : Option (List Int × Int) :=
  (resume_Encode.f k a1 a2 a3 a4 a5 a6 a7 a8 a9 a10 a11).bind fun y1 =>
  cond (y1.2.2.2.2.2 != 0)
  (some (([] : List Int), y1.2.2.2.2.2))
  ((journal_Append.f k a0 y1.1 y1.2.1 y1.2.2.1 y1.2.2.2.1 y1.2.2.2.2.1).bind fun y2 =>
    some (y2.1, y2.2))
abbrev resume_Write.E (k : Nat) : Ent := ⟨resume_Write.A, resume_Write.outs, fun x => resume_Write.f k x.2.1 x.2.2.1.1 x.2.2.1.2.1 x.2.2.1.2.2.1 x.2.2.1.2.2.2.1 x.2.2.1.2.2.2.2.1 x.2.2.1.2.2.2.2.2.1 x.2.2.1.2.2.2.2.2.2.1 x.2.2.1.2.2.2.2.2.2.2.1 x.2.2.1.2.2.2.2.2.2.2.2.1 x.2.2.1.2.2.2.2.2.2.2.2.2.1 x.2.2.1.2.2.2.2.2.2.2.2.2.2.1⟩
noncomputable abbrev resume_Write.C (k : Nat) : Cfg := ⟨Tryz.prog, shs, look2 [(13, [], journal_Append.E k), (12, [], resume_Encode.E k)], look []⟩
theorem resume_Write.ev (k : Nat) (x : resume_Write.A.V) : evF (resume_Write.C k) Tryz.f4 resume_Write.A resume_Write.outs x = resume_Write.f k x.2.1 x.2.2.1.1 x.2.2.1.2.1 x.2.2.1.2.2.1 x.2.2.1.2.2.2.1 x.2.2.1.2.2.2.2.1 x.2.2.1.2.2.2.2.2.1 x.2.2.1.2.2.2.2.2.2.1 x.2.2.1.2.2.2.2.2.2.2.1 x.2.2.1.2.2.2.2.2.2.2.2.1 x.2.2.1.2.2.2.2.2.2.2.2.2.1 x.2.2.1.2.2.2.2.2.2.2.2.2.2.1 := by kernel_rfl
theorem resume_Write.at : Tryz.prog.funcs[4]? = some Tryz.f4 := by kernel_rfl
theorem resume_Write.bo : Tryz.f4.body = some (bodyOf (Tryz.f4)) := by kernel_rfl
theorem resume_Write.nm : (Tryz.f4.name == "runtime.NumGoroutine") = false := by kernel_rfl
theorem resume_Write.sat (k : Nat) : Sat Tryz.prog 4 (resume_Write.E k) :=
  have hC : ∀ g l N, (resume_Write.C k).orc g l = some N → Sat Tryz.prog g N := satAll (satCons (journal_Append.sat k) (satCons (resume_Encode.sat k) satNil))
  sat_of (C := resume_Write.C k) hC mixed resume_Write.at resume_Write.nm resume_Write.bo (all_pieces rfl locNil) (resume_Write.ev k) (ooC (fun _ => rfl) ooN) (dstOk_zero _) (by decide) rfl
end
end Gv
