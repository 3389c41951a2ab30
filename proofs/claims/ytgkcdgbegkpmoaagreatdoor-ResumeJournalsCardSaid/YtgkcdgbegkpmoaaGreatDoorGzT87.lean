import Derived.Test.YtgkcdgbegkpmoaaGreatDoorGzH1
namespace Gv
open Go Go.Proofs
set_option linter.unusedVariables false
set_option linter.unusedSectionVars false
set_option maxRecDepth 1000000
def shs : TypeId → Option Sh := lookS [(2, (.int .i64)), (3, (.int .i64)), (4, .bool), (5, (.int .u8)), (6, (.int .u8)), (7, (.pr (.int .i64) (.pr (.int .i64) (.pr .bool (.int .u8))))), (8, (.pr (.int .i64) (.pr (.int .i64) (.pr .bool (.int .u8))))), (9, .str), (10, .str), (11, .str), (12, (.int .u64)), (13, (.pr .str (.int .u64))), (14, (.pr .str (.int .u64))), (21, (.int .i32)), (22, (.sl (.int .u8))), (23, (.sl (.int .i64))), (24, (.pr (.int .i64) (.pr (.sl (.int .i64)) (.pr (.int .i64) (.pr .str .bool))))), (25, (.pr (.int .i64) (.pr (.sl (.int .i64)) (.pr (.int .i64) (.pr .str .bool))))), (26, (.pr (.int .i64) (.pr (.int .i64) (.pr (.int .i64) (.int .i64))))), (27, (.pr (.int .i64) (.pr (.int .i64) (.pr (.int .i64) (.int .i64))))), (28, (.pr (.int .i64) (.pr (.int .i64) (.pr (.pr (.int .i64) (.pr (.sl (.int .i64)) (.pr (.int .i64) (.pr .str .bool)))) (.pr (.int .i64) (.pr (.int .i64) (.pr (.int .i64) (.int .i64)))))))), (29, (.pr (.int .i64) (.pr (.int .i64) (.pr (.pr (.int .i64) (.pr (.sl (.int .i64)) (.pr (.int .i64) (.pr .str .bool)))) (.pr (.int .i64) (.pr (.int .i64) (.pr (.int .i64) (.int .i64)))))))), (30, (.int .i64)), (34, (.sl (.pr (.int .i64) (.pr (.int .i64) (.pr (.pr (.int .i64) (.pr (.sl (.int .i64)) (.pr (.int .i64) (.pr .str .bool)))) (.pr (.int .i64) (.pr (.int .i64) (.pr (.int .i64) (.int .i64))))))))), (40, (.sl .node)), (41, .node), (42, .node), (57, (.int .u64)), (75, (.int .i64)), (76, (.int .i64)), (93, (.int .u64)), (100, (.int .u8)), (108, (.int .u64)), (111, (.int .i64)), (112, (.int .i64)), (115, (.pr (.sl (.int .u8)) (.int .i64))), (116, (.pr (.sl (.int .u8)) (.int .i64))), (148, (.int .u32)), (149, (.int .u8)), (152, (.int .i32)), (153, (.int .i32)), (158, (.pr .str (.int .u8))), (159, (.pr .str (.int .u8))), (162, (.int .u16)), (163, (.pr (.int .i32) (.pr (.int .u16) (.pr (.int .u16) (.pr (.int .u32) (.int .u32)))))), (164, (.pr (.int .i32) (.pr (.int .u16) (.pr (.int .u16) (.pr (.int .u32) (.int .u32)))))), (165, (.sl (.pr (.int .i32) (.pr (.int .i32) (.pr (.int .i32) (.int .i32)))))), (166, (.int .i32)), (167, (.pr (.int .i32) (.pr (.int .i32) (.pr (.int .i32) (.int .i32))))), (168, (.pr (.int .i32) (.pr (.int .i32) (.pr (.int .i32) (.int .i32)))))]

section
variable [GlobI]
/-! ### codec_decoder_next: function 93 ((*examboard/codec.decoder).next) -/
abbrev codec_decoder_next.A : Sig := ⟨1, [.slot 0], (.cons (.obox (.cons (.v (.sl (.int .u8))) (.cons (.v (.int .i64)) .nilL))) .nilL), [0], (.cons (.boxr 0 0) .nilL)⟩
abbrev codec_decoder_next.R0 : Sig := ⟨2, [.slot 1], (.cons (.obox (.cons (.v (.sl (.int .u8))) (.cons (.v (.int .i64)) .nilL))) .nilL), [0, 1], (.cons (.v (.int .u8)) (.cons (.boxr 0 0) .nilL))⟩
abbrev codec_decoder_next.R1 : Sig := ⟨2, [.slot 1], (.cons (.obox (.cons (.v (.sl (.int .u8))) (.cons (.v (.int .i64)) .nilL))) .nilL), [0, 1], (.cons (.ifc 112 (.agg (.cons (.v (.int .i64)) .nilL))) (.cons (.boxr 0 0) .nilL))⟩
abbrev codec_decoder_next.outs : List Out := [⟨.ret, codec_decoder_next.R0, List Int × Int × Int, fun y => (((y.1, y.2.1, ()), ()), (y.2.2, (), ())), fun x => (x.1.1.1, x.1.1.2.1, x.2.1)⟩, ⟨.pan, codec_decoder_next.R1, List Int × Int × Int, fun y => (((y.1, y.2.1, ()), ()), ((y.2.2, ()), (), ())), fun x => (x.1.1.1, x.1.1.2.1, x.2.1.1)⟩]
abbrev codec_decoder_next.j6.A : Sig := ⟨46, [.slot 0], (.cons (.obox (.cons (.v (.sl (.int .u8))) (.cons (.v (.int .i64)) .nilL))) .nilL), [0], (.cons (.boxr 0 0) .nilL)⟩
abbrev codec_decoder_next.j6.R0 : Sig := ⟨46, [.slot 0], (.cons (.obox (.cons (.v (.sl (.int .u8))) (.cons (.v (.int .i64)) .nilL))) .nilL), [0], (.cons (.boxr 0 0) .nilL)⟩
abbrev codec_decoder_next.j6.R1 : Sig := ⟨2, [.slot 1], (.cons (.obox (.cons (.v (.sl (.int .u8))) (.cons (.v (.int .i64)) .nilL))) .nilL), [0, 1], (.cons (.ifc 112 (.agg (.cons (.v (.int .i64)) .nilL))) (.cons (.boxr 0 0) .nilL))⟩
abbrev codec_decoder_next.j6.outs : List Out := [⟨.normal, codec_decoder_next.j6.R0, List Int × Int, fun y => (((y.1, y.2, ()), ()), ((), ())), fun x => (x.1.1.1, x.1.1.2.1)⟩, ⟨.pan, codec_decoder_next.j6.R1, List Int × Int × Int, fun y => (((y.1, y.2.1, ()), ()), ((y.2.2, ()), (), ())), fun x => (x.1.1.1, x.1.1.2.1, x.2.1.1)⟩]
def codec_decoder_next.j6 (k : Nat) (x0 : List Int) (x1 : Int) : Option ((List Int × Int) ⊕ (List Int × Int × Int)) :=
  cond (decide (x1 ≥ 1048576))
  (cond (decide ((x0.length : Int) > 1048576))
    (some (.inr (x0, x1, 5)))
    (some (.inl (x0, x1))))
  (some (.inl (x0, x1)))
abbrev codec_decoder_next.j6.pc (k : Nat) : Pc := ⟨codec_decoder_next.j6.A, codec_decoder_next.j6.outs, fun x => codec_decoder_next.j6 k x.1.1.1 x.1.1.2.1⟩
def codec_decoder_next.f (k : Nat) (a0 : List Int) (a1 : Int) : Option ((List Int × Int × Int) ⊕ (List Int × Int × Int)) :=
  (codec_decoder_next.j6 k a0 a1).bind fun y1 =>
  Sum.casesOn (motive := fun _ => Option _) y1 (fun u2 =>
  cond (decide (u2.2 ≥ (u2.1.length : Int)))
    (some (.inr (u2.1, u2.2, 4)))
    (cond (inB (IntKind.wrap .i64 ((IntKind.wrap .i64 (u2.2 + 1)) - 1)) u2.1.length)
      (some (.inl (u2.1, (IntKind.wrap .i64 (u2.2 + 1)), (rdL (.int .u8) u2.1 (IntKind.wrap .i64 ((IntKind.wrap .i64 (u2.2 + 1)) - 1))))))
      (none)))
  (fun v3 =>
  some (.inr (v3.1, v3.2.1, v3.2.2)))
abbrev codec_decoder_next.E (k : Nat) : Ent := ⟨codec_decoder_next.A, codec_decoder_next.outs, fun x => codec_decoder_next.f k x.1.1.1 x.1.1.2.1⟩
noncomputable abbrev codec_decoder_next.C (k : Nat) : Cfg := ⟨Tryz.prog, shs, look2 [], look [(6, codec_decoder_next.j6.pc k)]⟩
theorem codec_decoder_next.ds : dstOk 1 (bodyOf (Tryz.f93)) = true := by kernel_rfl
theorem codec_decoder_next.j6.ev (k : Nat) (x : codec_decoder_next.j6.A.V) : ((codeAt 60 (bodyOf (Tryz.f93)) 6).bind fun c => evP (codec_decoder_next.C k) c 6 codec_decoder_next.j6.A codec_decoder_next.j6.outs x) = codec_decoder_next.j6 k x.1.1.1 x.1.1.2.1 := by kernel_rfl
theorem codec_decoder_next.ev (k : Nat) (x : codec_decoder_next.A.V) : evF (codec_decoder_next.C k) Tryz.f93 codec_decoder_next.A codec_decoder_next.outs x = codec_decoder_next.f k x.1.1.1 x.1.1.2.1 := by kernel_rfl
theorem codec_decoder_next.at : Tryz.prog.funcs[93]? = some Tryz.f93 := by kernel_rfl
theorem codec_decoder_next.bo : Tryz.f93.body = some (bodyOf (Tryz.f93)) := by kernel_rfl
theorem codec_decoder_next.nm : (Tryz.f93.name == "runtime.NumGoroutine") = false := by kernel_rfl
theorem codec_decoder_next.sat (k : Nat) : Sat Tryz.prog 93 (codec_decoder_next.E k) :=
  have hC : ∀ g l N, (codec_decoder_next.C k).orc g l = some N → Sat Tryz.prog g N := satAll satNil
  sat_of (C := codec_decoder_next.C k) hC mixed codec_decoder_next.at codec_decoder_next.nm codec_decoder_next.bo (all_pieces rfl (locCons (loc_code (A := codec_decoder_next.j6.A) (outs := codec_decoder_next.j6.outs) hC mixed (codec_decoder_next.ds) (fun (x : codec_decoder_next.j6.A.V) => codec_decoder_next.j6 k x.1.1.1 x.1.1.2.1) (codec_decoder_next.j6.ev k) (ooC (fun _ => rfl) (ooC (fun _ => rfl) ooN)) rfl) locNil)) (codec_decoder_next.ev k) (ooC (fun _ => rfl) (ooC (fun _ => rfl) ooN)) (codec_decoder_next.ds) (by decide) rfl

/-! ### codec_decoder_varint: function 94 ((*examboard/codec.decoder).varint) -/
abbrev codec_decoder_varint.A : Sig := ⟨1, [.slot 0], (.cons (.obox (.cons (.v (.sl (.int .u8))) (.cons (.v (.int .i64)) .nilL))) .nilL), [0], (.cons (.boxr 0 0) .nilL)⟩
abbrev codec_decoder_varint.R0 : Sig := ⟨2, [.slot 1], (.cons (.obox (.cons (.v (.sl (.int .u8))) (.cons (.v (.int .i64)) .nilL))) .nilL), [0, 1], (.cons (.v (.int .u64)) (.cons (.boxr 0 0) .nilL))⟩
abbrev codec_decoder_varint.R1 : Sig := ⟨2, [.slot 1], (.cons (.obox (.cons (.v (.sl (.int .u8))) (.cons (.v (.int .i64)) .nilL))) .nilL), [0, 1], (.cons (.ifc 112 (.agg (.cons (.v (.int .i64)) .nilL))) (.cons (.boxr 0 0) .nilL))⟩
abbrev codec_decoder_varint.outs : List Out := [⟨.ret, codec_decoder_varint.R0, List Int × Int × Int, fun y => (((y.1, y.2.1, ()), ()), (y.2.2, (), ())), fun x => (x.1.1.1, x.1.1.2.1, x.2.1)⟩, ⟨.pan, codec_decoder_varint.R1, List Int × Int × Int, fun y => (((y.1, y.2.1, ()), ()), ((y.2.2, ()), (), ())), fun x => (x.1.1.1, x.1.1.2.1, x.2.1.1)⟩]
abbrev codec_decoder_varint.l58.A : Sig := ⟨39, [.slot 0], (.cons (.obox (.cons (.v (.sl (.int .u8))) (.cons (.v (.int .i64)) .nilL))) .nilL), [0, 3, 6], (.cons (.boxr 0 0) (.cons (.v (.int .u64)) (.cons (.v (.int .i64)) .nilL)))⟩
abbrev codec_decoder_varint.l58.R0 : Sig := ⟨39, [.slot 0], (.cons (.obox (.cons (.v (.sl (.int .u8))) (.cons (.v (.int .i64)) .nilL))) .nilL), [0, 3], (.cons (.boxr 0 0) (.cons (.v (.int .u64)) .nilL))⟩
abbrev codec_decoder_varint.l58.R1 : Sig := ⟨2, [.slot 1], (.cons (.obox (.cons (.v (.sl (.int .u8))) (.cons (.v (.int .i64)) .nilL))) .nilL), [0, 1], (.cons (.ifc 112 (.agg (.cons (.v (.int .i64)) .nilL))) (.cons (.boxr 0 0) .nilL))⟩
abbrev codec_decoder_varint.l58.outs : List Out := [⟨(.exit 0), codec_decoder_varint.l58.R0, List Int × Int × Int, fun y => (((y.1, y.2.1, ()), ()), ((), y.2.2, ())), fun x => (x.1.1.1, x.1.1.2.1, x.2.2.1)⟩, ⟨.pan, codec_decoder_varint.l58.R1, List Int × Int × Int, fun y => (((y.1, y.2.1, ()), ()), ((y.2.2, ()), (), ())), fun x => (x.1.1.1, x.1.1.2.1, x.2.1.1)⟩]
def codec_decoder_varint.l58 (k : Nat) : Nat → (List Int) → Int → Int → Int → Option ((List Int × Int × Int) ⊕ (List Int × Int × Int))
  | 0, _, _, _, _ => none
  | q + 1, x0, x1, x2, x3 =>
    cond (decide (x3 < 10))
    ((codec_decoder_next.f k x0 x1).bind fun y28 =>
      Sum.casesOn (motive := fun _ => Option _) y28 (fun u29 =>
      Option.bind (cond (x3 == 9)
          (some (decide (u29.2.2 > 1)))
          (some false)) fun (c34 : Bool) =>
        Option.bind (cond c34
          (some true)
          (Option.bind (cond (u29.2.2 == 0)
              (some (decide (x3 > 0)))
              (some false)) fun (c35 : Bool) =>
            some c35)) fun (c36 : Bool) =>
        cond c36
        (some (.inr (u29.1, u29.2.1, 2)))
        (cond (decide ((IntKind.wrap .i64 (7 * x3)) < 0))
          (none)
          (cond (decide (u29.2.2 < 128))
            (some (.inl (u29.1, u29.2.1, (IntKind.wrap .u64 (((BitVec.ofInt 64 x2) ||| (BitVec.ofInt 64 (IntKind.wrap .u64 ((IntKind.wrap .u64 (IntKind.wrap .u8 (((BitVec.ofInt 8 u29.2.2) &&& (BitVec.ofInt 8 127)).toNat : Int))) * 2 ^ (min (Int.toNat (IntKind.wrap .i64 (7 * x3))) 64))))).toNat : Int)))))
            (codec_decoder_varint.l58 k q u29.1 u29.2.1 (IntKind.wrap .u64 (((BitVec.ofInt 64 x2) ||| (BitVec.ofInt 64 (IntKind.wrap .u64 ((IntKind.wrap .u64 (IntKind.wrap .u8 (((BitVec.ofInt 8 u29.2.2) &&& (BitVec.ofInt 8 127)).toNat : Int))) * 2 ^ (min (Int.toNat (IntKind.wrap .i64 (7 * x3))) 64))))).toNat : Int)) (IntKind.wrap .i64 (x3 + 1))))))
      (fun v30 =>
      some (.inr (v30.1, v30.2.1, v30.2.2))))
    (some (.inl (x0, x1, x2)))
abbrev codec_decoder_varint.l58.pc (k : Nat) : Pc := ⟨codec_decoder_varint.l58.A, codec_decoder_varint.l58.outs, fun x => codec_decoder_varint.l58 k k x.1.1.1 x.1.1.2.1 x.2.2.1 x.2.2.2.1⟩
def codec_decoder_varint.f (k : Nat) (a0 : List Int) (a1 : Int) : Option ((List Int × Int × Int) ⊕ (List Int × Int × Int)) :=
  (codec_decoder_varint.l58 k k a0 a1 0 0).bind fun y37 =>
  Sum.casesOn (motive := fun _ => Option _) y37 (fun u38 =>
  some (.inl (u38.1, u38.2.1, u38.2.2)))
  (fun v39 =>
  some (.inr (v39.1, v39.2.1, v39.2.2)))
abbrev codec_decoder_varint.E (k : Nat) : Ent := ⟨codec_decoder_varint.A, codec_decoder_varint.outs, fun x => codec_decoder_varint.f k x.1.1.1 x.1.1.2.1⟩
noncomputable abbrev codec_decoder_varint.C (k : Nat) : Cfg := ⟨Tryz.prog, shs, look2 [(93, [], codec_decoder_next.E k)], look [(58, codec_decoder_varint.l58.pc k)]⟩
theorem codec_decoder_varint.ds : dstOk 1 (bodyOf (Tryz.f94)) = true := by kernel_rfl
theorem codec_decoder_varint.l58.ev (k q : Nat) (x : codec_decoder_varint.l58.A.V) : ((codeAt 60 (bodyOf (Tryz.f94)) 58).bind fun c => (loopOf c).bind fun c1 => evL (codec_decoder_varint.C k) c1 58 codec_decoder_varint.l58.A codec_decoder_varint.l58.outs (fun x => codec_decoder_varint.l58 k q x.1.1.1 x.1.1.2.1 x.2.2.1 x.2.2.2.1) x) = codec_decoder_varint.l58 k (q + 1) x.1.1.1 x.1.1.2.1 x.2.2.1 x.2.2.2.1 := by kernel_rfl
theorem codec_decoder_varint.ev (k : Nat) (x : codec_decoder_varint.A.V) : evF (codec_decoder_varint.C k) Tryz.f94 codec_decoder_varint.A codec_decoder_varint.outs x = codec_decoder_varint.f k x.1.1.1 x.1.1.2.1 := by kernel_rfl
theorem codec_decoder_varint.at : Tryz.prog.funcs[94]? = some Tryz.f94 := by kernel_rfl
theorem codec_decoder_varint.bo : Tryz.f94.body = some (bodyOf (Tryz.f94)) := by kernel_rfl
theorem codec_decoder_varint.nm : (Tryz.f94.name == "runtime.NumGoroutine") = false := by kernel_rfl
theorem codec_decoder_varint.sat (k : Nat) : Sat Tryz.prog 94 (codec_decoder_varint.E k) :=
  have hC : ∀ g l N, (codec_decoder_varint.C k).orc g l = some N → Sat Tryz.prog g N := satAll (satCons (codec_decoder_next.sat k) satNil)
  sat_of (C := codec_decoder_varint.C k) hC mixed codec_decoder_varint.at codec_decoder_varint.nm codec_decoder_varint.bo (all_pieces rfl (locCons (loc_loop (A := codec_decoder_varint.l58.A) (outs := codec_decoder_varint.l58.outs) hC mixed (codec_decoder_varint.ds) (fun (q : Nat) (x : codec_decoder_varint.l58.A.V) => codec_decoder_varint.l58 k q x.1.1.1 x.1.1.2.1 x.2.2.1 x.2.2.2.1) (fun _ => rfl) (codec_decoder_varint.l58.ev k) (ooC (fun _ => rfl) (ooC (fun _ => rfl) ooN)) rfl rfl k) locNil)) (codec_decoder_varint.ev k) (ooC (fun _ => rfl) (ooC (fun _ => rfl) ooN)) (codec_decoder_varint.ds) (by decide) rfl

/-! ### codec_decoder_limited: function 92 ((*examboard/codec.decoder).limited) -/
abbrev codec_decoder_limited.A : Sig := ⟨3, [.slot 0], (.cons (.obox (.cons (.v (.sl (.int .u8))) (.cons (.v (.int .i64)) .nilL))) .nilL), [0, 1, 2], (.cons (.boxr 0 0) (.cons (.v (.int .u64)) (.cons (.v (.int .i64)) .nilL)))⟩
abbrev codec_decoder_limited.R0 : Sig := ⟨2, [.slot 1], (.cons (.obox (.cons (.v (.sl (.int .u8))) (.cons (.v (.int .i64)) .nilL))) .nilL), [0, 1], (.cons (.v (.int .i64)) (.cons (.boxr 0 0) .nilL))⟩
abbrev codec_decoder_limited.R1 : Sig := ⟨2, [.slot 1], (.cons (.obox (.cons (.v (.sl (.int .u8))) (.cons (.v (.int .i64)) .nilL))) .nilL), [0, 1], (.cons (.ifc 112 (.agg (.cons (.v (.int .i64)) .nilL))) (.cons (.boxr 0 0) .nilL))⟩
abbrev codec_decoder_limited.outs : List Out := [⟨.ret, codec_decoder_limited.R0, List Int × Int × Int, fun y => (((y.1, y.2.1, ()), ()), (y.2.2, (), ())), fun x => (x.1.1.1, x.1.1.2.1, x.2.1)⟩, ⟨.pan, codec_decoder_limited.R1, List Int × Int × Int, fun y => (((y.1, y.2.1, ()), ()), ((y.2.2, ()), (), ())), fun x => (x.1.1.1, x.1.1.2.1, x.2.1.1)⟩]
def codec_decoder_limited.f (k : Nat) (a0 : List Int) (a1 : Int) (a2 : Int) (a3 : Int) : Option ((List Int × Int × Int) ⊕ (List Int × Int × Int)) :=
  (codec_decoder_varint.f k a0 a1).bind fun y1 =>
  Sum.casesOn (motive := fun _ => Option _) y1 (fun u2 =>
  cond (decide (u2.2.2 > a2))
    (some (.inr (u2.1, u2.2.1, a3)))
    (some (.inl (u2.1, u2.2.1, (IntKind.wrap .i64 u2.2.2)))))
  (fun v3 =>
  some (.inr (v3.1, v3.2.1, v3.2.2)))
abbrev codec_decoder_limited.E (k : Nat) : Ent := ⟨codec_decoder_limited.A, codec_decoder_limited.outs, fun x => codec_decoder_limited.f k x.1.1.1 x.1.1.2.1 x.2.2.1 x.2.2.2.1⟩
noncomputable abbrev codec_decoder_limited.C (k : Nat) : Cfg := ⟨Tryz.prog, shs, look2 [(94, [], codec_decoder_varint.E k)], look []⟩
theorem codec_decoder_limited.ds : dstOk 3 (bodyOf (Tryz.f92)) = true := by kernel_rfl
theorem codec_decoder_limited.ev (k : Nat) (x : codec_decoder_limited.A.V) : evF (codec_decoder_limited.C k) Tryz.f92 codec_decoder_limited.A codec_decoder_limited.outs x = codec_decoder_limited.f k x.1.1.1 x.1.1.2.1 x.2.2.1 x.2.2.2.1 := by kernel_rfl
theorem codec_decoder_limited.at : Tryz.prog.funcs[92]? = some Tryz.f92 := by kernel_rfl
theorem codec_decoder_limited.bo : Tryz.f92.body = some (bodyOf (Tryz.f92)) := by kernel_rfl
theorem codec_decoder_limited.nm : (Tryz.f92.name == "runtime.NumGoroutine") = false := by kernel_rfl
theorem codec_decoder_limited.sat (k : Nat) : Sat Tryz.prog 92 (codec_decoder_limited.E k) :=
  have hC : ∀ g l N, (codec_decoder_limited.C k).orc g l = some N → Sat Tryz.prog g N := satAll (satCons (codec_decoder_varint.sat k) satNil)
  sat_of (C := codec_decoder_limited.C k) hC mixed codec_decoder_limited.at codec_decoder_limited.nm codec_decoder_limited.bo (all_pieces rfl locNil) (codec_decoder_limited.ev k) (ooC (fun _ => rfl) (ooC (fun _ => rfl) ooN)) (codec_decoder_limited.ds) (by decide) rfl

/-! ### codec_decoder_node: function 87 ((*examboard/codec.decoder).node) -/
abbrev codec_decoder_node.A : Sig := ⟨2, [.slot 0], (.cons (.obox (.cons (.v (.sl (.int .u8))) (.cons (.v (.int .i64)) .nilL))) .nilL), [0, 1], (.cons (.boxr 0 0) (.cons (.v (.int .i64)) .nilL))⟩
abbrev codec_decoder_node.R0 : Sig := ⟨2, [.slot 1], (.cons (.obox (.cons (.v (.sl (.int .u8))) (.cons (.v (.int .i64)) .nilL))) .nilL), [0, 1], (.cons (.agg (.cons (.v (.int .i64)) (.cons (.v (.int .i64)) (.cons (.v (.int .i64)) (.cons (.v .str) (.cons (.v (.sl .node)) .nilL)))))) (.cons (.boxr 0 0) .nilL))⟩
abbrev codec_decoder_node.R1 : Sig := ⟨2, [.slot 1], (.cons (.obox (.cons (.v (.sl (.int .u8))) (.cons (.v (.int .i64)) .nilL))) .nilL), [0, 1], (.cons (.ifc 112 (.agg (.cons (.v (.int .i64)) .nilL))) (.cons (.boxr 0 0) .nilL))⟩
abbrev codec_decoder_node.outs : List Out := [⟨.ret, codec_decoder_node.R0, List Int × Int × Int × Int × Int × ByteArray × List Nd, fun y => (((y.1, y.2.1, ()), ()), ((y.2.2.1, y.2.2.2.1, y.2.2.2.2.1, y.2.2.2.2.2.1, y.2.2.2.2.2.2, ()), (), ())), fun x => (x.1.1.1, x.1.1.2.1, x.2.1.1, x.2.1.2.1, x.2.1.2.2.1, x.2.1.2.2.2.1, x.2.1.2.2.2.2.1)⟩, ⟨.pan, codec_decoder_node.R1, List Int × Int × Int, fun y => (((y.1, y.2.1, ()), ()), ((y.2.2, ()), (), ())), fun x => (x.1.1.1, x.1.1.2.1, x.2.1.1)⟩]
abbrev codec_decoder_node.l128474.A : Sig := ⟨77, [.slot 0, .slot 4, .cell 1 4, .slot 5, .cell 3 4, .slot 8], (.cons (.obox (.cons (.v (.sl (.int .u8))) (.cons (.v (.int .i64)) .nilL))) (.cons (.obox (.cons (.v (.int .i64)) (.cons (.v (.int .i64)) (.cons (.v (.int .i64)) (.cons (.v .str) (.cons (.rowr 2) .nilL)))))) (.cons (.orow 42 .node) (.cons (.obox (.cons (.v (.int .i64)) (.cons (.v (.int .i64)) (.cons (.v (.int .i64)) (.cons (.v .str) (.cons (.rowr 4) .nilL)))))) (.cons (.orow 42 .node) (.cons (.orow 5 (.int .u8)) .nilL)))))), [0, 4, 5, 8, 47, 48], (.cons (.boxr 0 0) (.cons (.boxr 1 0) (.cons (.boxr 3 0) (.cons (.rowr 5) (.cons (.v (.int .i64)) (.cons (.v (.int .i64)) .nilL))))))⟩
abbrev codec_decoder_node.l128474.R0 : Sig := ⟨77, [.slot 0, .slot 4, .cell 1 4, .slot 5, .cell 3 4, .slot 8], (.cons (.obox (.cons (.v (.sl (.int .u8))) (.cons (.v (.int .i64)) .nilL))) (.cons (.obox (.cons (.v (.int .i64)) (.cons (.v (.int .i64)) (.cons (.v (.int .i64)) (.cons (.v .str) (.cons (.rowr 2) .nilL)))))) (.cons (.orow 42 .node) (.cons (.obox (.cons (.v (.int .i64)) (.cons (.v (.int .i64)) (.cons (.v (.int .i64)) (.cons (.v .str) (.cons (.rowr 4) .nilL)))))) (.cons (.orow 42 .node) (.cons (.orow 5 (.int .u8)) .nilL)))))), [0, 4, 5, 8], (.cons (.boxr 0 0) (.cons (.boxr 1 0) (.cons (.boxr 3 0) (.cons (.rowr 5) .nilL))))⟩
abbrev codec_decoder_node.l128474.R1 : Sig := ⟨2, [.slot 1], (.cons (.obox (.cons (.v (.sl (.int .u8))) (.cons (.v (.int .i64)) .nilL))) .nilL), [0, 1], (.cons (.ifc 112 (.agg (.cons (.v (.int .i64)) .nilL))) (.cons (.boxr 0 0) .nilL))⟩
abbrev codec_decoder_node.l128474.outs : List Out := [⟨(.exit 1), codec_decoder_node.l128474.R0, List Int × Int × Int × Int × Int × ByteArray × List Nd × Int × Int × Int × ByteArray × List Nd × List Int, fun y => (((y.1, y.2.1, ()), (y.2.2.1, y.2.2.2.1, y.2.2.2.2.1, y.2.2.2.2.2.1, (), ()), y.2.2.2.2.2.2.1, (y.2.2.2.2.2.2.2.1, y.2.2.2.2.2.2.2.2.1, y.2.2.2.2.2.2.2.2.2.1, y.2.2.2.2.2.2.2.2.2.2.1, (), ()), y.2.2.2.2.2.2.2.2.2.2.2.1, y.2.2.2.2.2.2.2.2.2.2.2.2, ()), ((), (), (), (), ())), fun x => (x.1.1.1, x.1.1.2.1, x.1.2.1.1, x.1.2.1.2.1, x.1.2.1.2.2.1, x.1.2.1.2.2.2.1, x.1.2.2.1, x.1.2.2.2.1.1, x.1.2.2.2.1.2.1, x.1.2.2.2.1.2.2.1, x.1.2.2.2.1.2.2.2.1, x.1.2.2.2.2.1, x.1.2.2.2.2.2.1)⟩, ⟨.pan, codec_decoder_node.l128474.R1, List Int × Int × Int, fun y => (((y.1, y.2.1, ()), ()), ((y.2.2, ()), (), ())), fun x => (x.1.1.1, x.1.1.2.1, x.2.1.1)⟩]
def codec_decoder_node.l128474 (self : (List Int) → Int → Int → Option ((List Int × Int × Int × Int × Int × ByteArray × List Nd) ⊕ (List Int × Int × Int))) (k : Nat) : Nat → (List Int) → Int → Int → Int → Int → ByteArray → (List Nd) → Int → Int → Int → ByteArray → (List Nd) → (List Int) → Int → Int → Option ((List Int × Int × Int × Int × Int × ByteArray × List Nd × Int × Int × Int × ByteArray × List Nd × List Int) ⊕ (List Int × Int × Int))
  | 0, _, _, _, _, _, _, _, _, _, _, _, _, _, _, _ => none
  | q + 1, x0, x1, x2, x3, x4, x5, x6, x7, x8, x9, x10, x11, x12, x13, x14 =>
    cond (decide (x14 < x13))
    ((codec_decoder_next.f k x0 x1).bind fun y16 =>
      Sum.casesOn (motive := fun _ => Option _) y16 (fun u17 =>
      cond (fits (x12.length + 1) 1)
        (codec_decoder_node.l128474 self k q u17.1 u17.2.1 x2 x3 x4 x5 x6 x7 x8 x9 x10 x11 (x12 ++ [u17.2.2]) x13 (IntKind.wrap .i64 (x14 + 1)))
        (none))
      (fun v18 =>
      some (.inr (v18.1, v18.2.1, v18.2.2))))
    (some (.inl (x0, x1, x2, x3, x4, x5, x6, x7, x8, x9, x10, x11, x12)))
abbrev codec_decoder_node.l128474.pc (self : (List Int) → Int → Int → Option ((List Int × Int × Int × Int × Int × ByteArray × List Nd) ⊕ (List Int × Int × Int))) (k : Nat) : Pc := ⟨codec_decoder_node.l128474.A, codec_decoder_node.l128474.outs, fun x => codec_decoder_node.l128474 self k k x.1.1.1 x.1.1.2.1 x.1.2.1.1 x.1.2.1.2.1 x.1.2.1.2.2.1 x.1.2.1.2.2.2.1 x.1.2.2.1 x.1.2.2.2.1.1 x.1.2.2.2.1.2.1 x.1.2.2.2.1.2.2.1 x.1.2.2.2.1.2.2.2.1 x.1.2.2.2.2.1 x.1.2.2.2.2.2.1 x.2.2.2.2.2.1 x.2.2.2.2.2.2.1⟩
abbrev codec_decoder_node.l128502.A : Sig := ⟨77, [.slot 0, .slot 4, .cell 1 4, .slot 5, .cell 3 4], (.cons (.obox (.cons (.v (.sl (.int .u8))) (.cons (.v (.int .i64)) .nilL))) (.cons (.obox (.cons (.v (.int .i64)) (.cons (.v (.int .i64)) (.cons (.v (.int .i64)) (.cons (.v .str) (.cons (.rowr 2) .nilL)))))) (.cons (.orow 42 .node) (.cons (.obox (.cons (.v (.int .i64)) (.cons (.v (.int .i64)) (.cons (.v (.int .i64)) (.cons (.v .str) (.cons (.rowr 4) .nilL)))))) (.cons (.orow 42 .node) .nilL))))), [0, 4, 5, 1, 63, 64], (.cons (.boxr 0 0) (.cons (.boxr 1 0) (.cons (.boxr 3 0) (.cons (.v (.int .i64)) (.cons (.v (.int .i64)) (.cons (.v (.int .i64)) .nilL))))))⟩
abbrev codec_decoder_node.l128502.R0 : Sig := ⟨77, [.slot 0, .slot 4, .cell 1 4, .slot 5, .cell 3 4], (.cons (.obox (.cons (.v (.sl (.int .u8))) (.cons (.v (.int .i64)) .nilL))) (.cons (.obox (.cons (.v (.int .i64)) (.cons (.v (.int .i64)) (.cons (.v (.int .i64)) (.cons (.v .str) (.cons (.rowr 2) .nilL)))))) (.cons (.orow 42 .node) (.cons (.obox (.cons (.v (.int .i64)) (.cons (.v (.int .i64)) (.cons (.v (.int .i64)) (.cons (.v .str) (.cons (.rowr 4) .nilL)))))) (.cons (.orow 42 .node) .nilL))))), [0, 4, 5], (.cons (.boxr 0 0) (.cons (.boxr 1 0) (.cons (.boxr 3 0) .nilL)))⟩
abbrev codec_decoder_node.l128502.R1 : Sig := ⟨2, [.slot 1], (.cons (.obox (.cons (.v (.sl (.int .u8))) (.cons (.v (.int .i64)) .nilL))) .nilL), [0, 1], (.cons (.ifc 112 (.agg (.cons (.v (.int .i64)) .nilL))) (.cons (.boxr 0 0) .nilL))⟩
abbrev codec_decoder_node.l128502.outs : List Out := [⟨(.exit 3), codec_decoder_node.l128502.R0, List Int × Int × Int × Int × Int × ByteArray × List Nd × Int × Int × Int × ByteArray × List Nd, fun y => (((y.1, y.2.1, ()), (y.2.2.1, y.2.2.2.1, y.2.2.2.2.1, y.2.2.2.2.2.1, (), ()), y.2.2.2.2.2.2.1, (y.2.2.2.2.2.2.2.1, y.2.2.2.2.2.2.2.2.1, y.2.2.2.2.2.2.2.2.2.1, y.2.2.2.2.2.2.2.2.2.2.1, (), ()), y.2.2.2.2.2.2.2.2.2.2.2, ()), ((), (), (), ())), fun x => (x.1.1.1, x.1.1.2.1, x.1.2.1.1, x.1.2.1.2.1, x.1.2.1.2.2.1, x.1.2.1.2.2.2.1, x.1.2.2.1, x.1.2.2.2.1.1, x.1.2.2.2.1.2.1, x.1.2.2.2.1.2.2.1, x.1.2.2.2.1.2.2.2.1, x.1.2.2.2.2.1)⟩, ⟨.pan, codec_decoder_node.l128502.R1, List Int × Int × Int, fun y => (((y.1, y.2.1, ()), ()), ((y.2.2, ()), (), ())), fun x => (x.1.1.1, x.1.1.2.1, x.2.1.1)⟩]
def codec_decoder_node.l128502 (self : (List Int) → Int → Int → Option ((List Int × Int × Int × Int × Int × ByteArray × List Nd) ⊕ (List Int × Int × Int))) (k : Nat) : Nat → (List Int) → Int → Int → Int → Int → ByteArray → (List Nd) → Int → Int → Int → ByteArray → (List Nd) → Int → Int → Int → Option ((List Int × Int × Int × Int × Int × ByteArray × List Nd × Int × Int × Int × ByteArray × List Nd) ⊕ (List Int × Int × Int))
  | 0, _, _, _, _, _, _, _, _, _, _, _, _, _, _, _ => none
  | q + 1, x0, x1, x2, x3, x4, x5, x6, x7, x8, x9, x10, x11, x12, x13, x14 =>
    cond (decide (x14 < x13))
    ((self x0 x1 (IntKind.wrap .i64 (x12 + 1))).bind fun y28 =>
      Sum.casesOn (motive := fun _ => Option _) y28 (fun u29 =>
      cond (fits (x11.length + 1) 64)
        (codec_decoder_node.l128502 self k q u29.1 u29.2.1 x2 x3 x4 x5 x6 x7 x8 x9 x10 (x11 ++ [(⟨u29.2.2.1, u29.2.2.2.1, u29.2.2.2.2.1, u29.2.2.2.2.2.1, u29.2.2.2.2.2.2⟩ : Nd)]) x12 x13 (IntKind.wrap .i64 (x14 + 1)))
        (none))
      (fun v30 =>
      some (.inr (v30.1, v30.2.1, v30.2.2))))
    (some (.inl (x0, x1, x2, x3, x4, x5, x6, x7, x8, x9, x10, x11)))
abbrev codec_decoder_node.l128502.pc (self : (List Int) → Int → Int → Option ((List Int × Int × Int × Int × Int × ByteArray × List Nd) ⊕ (List Int × Int × Int))) (k : Nat) : Pc := ⟨codec_decoder_node.l128502.A, codec_decoder_node.l128502.outs, fun x => codec_decoder_node.l128502 self k k x.1.1.1 x.1.1.2.1 x.1.2.1.1 x.1.2.1.2.1 x.1.2.1.2.2.1 x.1.2.1.2.2.2.1 x.1.2.2.1 x.1.2.2.2.1.1 x.1.2.2.2.1.2.1 x.1.2.2.2.1.2.2.1 x.1.2.2.2.1.2.2.2.1 x.1.2.2.2.2.1 x.2.2.2.2.1 x.2.2.2.2.2.1 x.2.2.2.2.2.2.1⟩
def codec_decoder_node.g (self : (List Int) → Int → Int → Option ((List Int × Int × Int × Int × Int × ByteArray × List Nd) ⊕ (List Int × Int × Int))) (k : Nat) (a0 : List Int) (a1 : Int) (a2 : Int) : Option ((List Int × Int × Int × Int × Int × ByteArray × List Nd) ⊕ (List Int × Int × Int)) :=
  cond (decide (a2 > 8))
  (some (.inr (a0, a1, 5)))
  ((codec_decoder_limited.f k a0 a1 9999999 3).bind fun y1 =>
    Sum.casesOn (motive := fun _ => Option _) y1 (fun u2 =>
    (codec_decoder_next.f k u2.1 u2.2.1).bind fun y4 =>
      Sum.casesOn (motive := fun _ => Option _) y4 (fun u5 =>
      cond ((IntKind.wrap .i64 u5.2.2) == 1)
        ((codec_decoder_varint.f k u5.1 u5.2.1).bind fun y7 =>
          Sum.casesOn (motive := fun _ => Option _) y7 (fun u8 =>
          cond ((IntKind.wrap .u64 (((BitVec.ofInt 64 u8.2.2) &&& (BitVec.ofInt 64 1)).toNat : Int)) == 1)
            (some (.inl (u8.1, u8.2.1, u2.2.2, (IntKind.wrap .i64 u5.2.2), (IntKind.wrap .i64 ((IntKind.wrap .i64 (0 - (IntKind.wrap .i64 (Int.fdiv u8.2.2 (2 ^ (1)))))) - 1)), (⟨#[]⟩ : ByteArray), ([] : List Nd))))
            (some (.inl (u8.1, u8.2.1, u2.2.2, (IntKind.wrap .i64 u5.2.2), (IntKind.wrap .i64 (Int.fdiv u8.2.2 (2 ^ (1)))), (⟨#[]⟩ : ByteArray), ([] : List Nd)))))
          (fun v9 =>
          some (.inr (v9.1, v9.2.1, v9.2.2))))
        (cond ((IntKind.wrap .i64 u5.2.2) == 2)
          ((codec_decoder_limited.f k u5.1 u5.2.1 2000 5).bind fun y10 =>
            Sum.casesOn (motive := fun _ => Option _) y10 (fun u11 =>
            cond ((decide ((0 : Int) ≤ 0)) && ((decide ((0 : Int) ≤ u11.2.2)) && (fits (Int.toNat u11.2.2) 1)))
              ((codec_decoder_node.l128474 self k k u11.1 u11.2.1 0 0 0 (⟨#[]⟩ : ByteArray) ([] : List Nd) u2.2.2 (IntKind.wrap .i64 u5.2.2) 0 (⟨#[]⟩ : ByteArray) ([] : List Nd) ([] : List Int) u11.2.2 0).bind fun y19 =>
                Sum.casesOn (motive := fun _ => Option _) y19 (fun u20 =>
                some (.inl (u20.1, u20.2.1, u20.2.2.2.2.2.2.2.1, u20.2.2.2.2.2.2.2.2.1, u20.2.2.2.2.2.2.2.2.2.1, (bytesOf u20.2.2.2.2.2.2.2.2.2.2.2.2), u20.2.2.2.2.2.2.2.2.2.2.2.1)))
                (fun v21 =>
                some (.inr (v21.1, v21.2.1, v21.2.2))))
              (none))
            (fun v12 =>
            some (.inr (v12.1, v12.2.1, v12.2.2))))
          (cond ((IntKind.wrap .i64 u5.2.2) == 3)
            ((codec_decoder_limited.f k u5.1 u5.2.1 1024 5).bind fun y22 =>
              Sum.casesOn (motive := fun _ => Option _) y22 (fun u23 =>
              (codec_decoder_node.l128502 self k k u23.1 u23.2.1 0 0 0 (⟨#[]⟩ : ByteArray) ([] : List Nd) u2.2.2 (IntKind.wrap .i64 u5.2.2) 0 (⟨#[]⟩ : ByteArray) ([] : List Nd) a2 u23.2.2 0).bind fun y31 =>
                Sum.casesOn (motive := fun _ => Option _) y31 (fun u32 =>
                some (.inl (u32.1, u32.2.1, u32.2.2.2.2.2.2.2.1, u32.2.2.2.2.2.2.2.2.1, u32.2.2.2.2.2.2.2.2.2.1, u32.2.2.2.2.2.2.2.2.2.2.1, u32.2.2.2.2.2.2.2.2.2.2.2)))
                (fun v33 =>
                some (.inr (v33.1, v33.2.1, v33.2.2))))
              (fun v24 =>
              some (.inr (v24.1, v24.2.1, v24.2.2))))
            (some (.inr (u5.1, u5.2.1, 2))))))
      (fun v6 =>
      some (.inr (v6.1, v6.2.1, v6.2.2))))
    (fun v3 =>
    some (.inr (v3.1, v3.2.1, v3.2.2))))
def codec_decoder_node.f : Nat → (List Int) → Int → Int → Option ((List Int × Int × Int × Int × Int × ByteArray × List Nd) ⊕ (List Int × Int × Int))
  | 0, _, _, _ => none
  | k + 1, a0, a1, a2 => codec_decoder_node.g (codec_decoder_node.f k) k a0 a1 a2
abbrev codec_decoder_node.ES (self : (List Int) → Int → Int → Option ((List Int × Int × Int × Int × Int × ByteArray × List Nd) ⊕ (List Int × Int × Int))) : Ent := ⟨codec_decoder_node.A, codec_decoder_node.outs, fun x => self x.1.1.1 x.1.1.2.1 x.2.2.1⟩
abbrev codec_decoder_node.E (k : Nat) : Ent := ⟨codec_decoder_node.A, codec_decoder_node.outs, fun x => codec_decoder_node.f k x.1.1.1 x.1.1.2.1 x.2.2.1⟩
noncomputable abbrev codec_decoder_node.C (self : (List Int) → Int → Int → Option ((List Int × Int × Int × Int × Int × ByteArray × List Nd) ⊕ (List Int × Int × Int))) (k : Nat) : Cfg := ⟨Tryz.prog, shs, look2 [(92, [], codec_decoder_limited.E k), (93, [], codec_decoder_next.E k), (87, [], codec_decoder_node.ES self), (94, [], codec_decoder_varint.E k)], look [(128474, codec_decoder_node.l128474.pc self k), (128502, codec_decoder_node.l128502.pc self k)]⟩
theorem codec_decoder_node.ds : dstOk 2 (bodyOf (Tryz.f87)) = true := by kernel_rfl
theorem codec_decoder_node.l128474.ev (self : (List Int) → Int → Int → Option ((List Int × Int × Int × Int × Int × ByteArray × List Nd) ⊕ (List Int × Int × Int))) (k q : Nat) (x : codec_decoder_node.l128474.A.V) : ((codeAt 60 (bodyOf (Tryz.f87)) 128474).bind fun c => (loopOf c).bind fun c1 => evL (codec_decoder_node.C self k) c1 128474 codec_decoder_node.l128474.A codec_decoder_node.l128474.outs (fun x => codec_decoder_node.l128474 self k q x.1.1.1 x.1.1.2.1 x.1.2.1.1 x.1.2.1.2.1 x.1.2.1.2.2.1 x.1.2.1.2.2.2.1 x.1.2.2.1 x.1.2.2.2.1.1 x.1.2.2.2.1.2.1 x.1.2.2.2.1.2.2.1 x.1.2.2.2.1.2.2.2.1 x.1.2.2.2.2.1 x.1.2.2.2.2.2.1 x.2.2.2.2.2.1 x.2.2.2.2.2.2.1) x) = codec_decoder_node.l128474 self k (q + 1) x.1.1.1 x.1.1.2.1 x.1.2.1.1 x.1.2.1.2.1 x.1.2.1.2.2.1 x.1.2.1.2.2.2.1 x.1.2.2.1 x.1.2.2.2.1.1 x.1.2.2.2.1.2.1 x.1.2.2.2.1.2.2.1 x.1.2.2.2.1.2.2.2.1 x.1.2.2.2.2.1 x.1.2.2.2.2.2.1 x.2.2.2.2.2.1 x.2.2.2.2.2.2.1 := by kernel_rfl
theorem codec_decoder_node.l128502.ev (self : (List Int) → Int → Int → Option ((List Int × Int × Int × Int × Int × ByteArray × List Nd) ⊕ (List Int × Int × Int))) (k q : Nat) (x : codec_decoder_node.l128502.A.V) : ((codeAt 60 (bodyOf (Tryz.f87)) 128502).bind fun c => (loopOf c).bind fun c1 => evL (codec_decoder_node.C self k) c1 128502 codec_decoder_node.l128502.A codec_decoder_node.l128502.outs (fun x => codec_decoder_node.l128502 self k q x.1.1.1 x.1.1.2.1 x.1.2.1.1 x.1.2.1.2.1 x.1.2.1.2.2.1 x.1.2.1.2.2.2.1 x.1.2.2.1 x.1.2.2.2.1.1 x.1.2.2.2.1.2.1 x.1.2.2.2.1.2.2.1 x.1.2.2.2.1.2.2.2.1 x.1.2.2.2.2.1 x.2.2.2.2.1 x.2.2.2.2.2.1 x.2.2.2.2.2.2.1) x) = codec_decoder_node.l128502 self k (q + 1) x.1.1.1 x.1.1.2.1 x.1.2.1.1 x.1.2.1.2.1 x.1.2.1.2.2.1 x.1.2.1.2.2.2.1 x.1.2.2.1 x.1.2.2.2.1.1 x.1.2.2.2.1.2.1 x.1.2.2.2.1.2.2.1 x.1.2.2.2.1.2.2.2.1 x.1.2.2.2.2.1 x.2.2.2.2.1 x.2.2.2.2.2.1 x.2.2.2.2.2.2.1 := by kernel_rfl
theorem codec_decoder_node.ev (self : (List Int) → Int → Int → Option ((List Int × Int × Int × Int × Int × ByteArray × List Nd) ⊕ (List Int × Int × Int))) (k : Nat) (x : codec_decoder_node.A.V) : evF (codec_decoder_node.C self k) Tryz.f87 codec_decoder_node.A codec_decoder_node.outs x = codec_decoder_node.g self k x.1.1.1 x.1.1.2.1 x.2.2.1 := by kernel_rfl
theorem codec_decoder_node.at : Tryz.prog.funcs[87]? = some Tryz.f87 := by kernel_rfl
theorem codec_decoder_node.bo : Tryz.f87.body = some (bodyOf (Tryz.f87)) := by kernel_rfl
theorem codec_decoder_node.nm : (Tryz.f87.name == "runtime.NumGoroutine") = false := by kernel_rfl
theorem codec_decoder_node.satS (self : (List Int) → Int → Int → Option ((List Int × Int × Int × Int × Int × ByteArray × List Nd) ⊕ (List Int × Int × Int))) (k : Nat) (hS : Sat Tryz.prog 87 (codec_decoder_node.ES self)) : Sat Tryz.prog 87 ⟨codec_decoder_node.A, codec_decoder_node.outs, fun x => codec_decoder_node.g self k x.1.1.1 x.1.1.2.1 x.2.2.1⟩ :=
  have hC : ∀ g l N, (codec_decoder_node.C self k).orc g l = some N → Sat Tryz.prog g N := satAll (satCons (codec_decoder_limited.sat k) (satCons (codec_decoder_next.sat k) (satCons hS (satCons (codec_decoder_varint.sat k) satNil))))
  sat_of (C := codec_decoder_node.C self k) hC mixed codec_decoder_node.at codec_decoder_node.nm codec_decoder_node.bo (all_pieces rfl (locCons (loc_loop (A := codec_decoder_node.l128474.A) (outs := codec_decoder_node.l128474.outs) hC mixed (codec_decoder_node.ds) (fun (q : Nat) (x : codec_decoder_node.l128474.A.V) => codec_decoder_node.l128474 self k q x.1.1.1 x.1.1.2.1 x.1.2.1.1 x.1.2.1.2.1 x.1.2.1.2.2.1 x.1.2.1.2.2.2.1 x.1.2.2.1 x.1.2.2.2.1.1 x.1.2.2.2.1.2.1 x.1.2.2.2.1.2.2.1 x.1.2.2.2.1.2.2.2.1 x.1.2.2.2.2.1 x.1.2.2.2.2.2.1 x.2.2.2.2.2.1 x.2.2.2.2.2.2.1) (fun _ => rfl) (codec_decoder_node.l128474.ev self k) (ooC (fun _ => rfl) (ooC (fun _ => rfl) ooN)) rfl rfl k) (locCons (loc_loop (A := codec_decoder_node.l128502.A) (outs := codec_decoder_node.l128502.outs) hC mixed (codec_decoder_node.ds) (fun (q : Nat) (x : codec_decoder_node.l128502.A.V) => codec_decoder_node.l128502 self k q x.1.1.1 x.1.1.2.1 x.1.2.1.1 x.1.2.1.2.1 x.1.2.1.2.2.1 x.1.2.1.2.2.2.1 x.1.2.2.1 x.1.2.2.2.1.1 x.1.2.2.2.1.2.1 x.1.2.2.2.1.2.2.1 x.1.2.2.2.1.2.2.2.1 x.1.2.2.2.2.1 x.2.2.2.2.1 x.2.2.2.2.2.1 x.2.2.2.2.2.2.1) (fun _ => rfl) (codec_decoder_node.l128502.ev self k) (ooC (fun _ => rfl) (ooC (fun _ => rfl) ooN)) rfl rfl k) locNil))) (codec_decoder_node.ev self k) (ooC (fun _ => rfl) (ooC (fun _ => rfl) ooN)) (codec_decoder_node.ds) (by decide) rfl
theorem codec_decoder_node.sat : ∀ k, Sat Tryz.prog 87 (codec_decoder_node.E k)
  | 0 => sat_none codec_decoder_node.at codec_decoder_node.nm codec_decoder_node.bo (fun _ => rfl)
  | k + 1 => codec_decoder_node.satS (codec_decoder_node.f k) k (codec_decoder_node.sat k)
end
end Gv
