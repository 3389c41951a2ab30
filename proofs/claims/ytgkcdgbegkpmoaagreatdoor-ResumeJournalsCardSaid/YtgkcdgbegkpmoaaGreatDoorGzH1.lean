/- Decode: a deferred closure that recovers. Written by hand; the parts before and behind are reckoned. -/
import Derived.Test.YtgkcdgbegkpmoaaGreatDoorGwBy
import Derived.Test.YtgkcdgbegkpmoaaGreatDoorGwFn
import Derived.Test.YtgkcdgbegkpmoaaGreatDoorProg
import Derived.KernelRfl
import Derived.Recover
import Derived.Tactics
import Derived.Tactics2
namespace Gv
open Go Go.Proofs
set_option linter.unusedVariables false
set_option linter.unusedSectionVars false
set_option linter.unusedSimpArgs false
set_option maxRecDepth 1000000
theorem mixed : Tryz.prog.follows .mixedOrders = true := by kernel_rfl
section
variable [GlobI] {E : Env} {σ : List Ob} {μ : Nat → Option Value} {w : World}

abbrev dcN : Form := .cons (.v (.int .i64)) (.cons (.v (.int .i64)) (.cons (.v (.int .i64)) (.cons (.v .str) (.cons (.v (.sl .node)) .nilL))))
abbrev dcI : Form := .cons (.v (.int .i64)) .nilL
abbrev dcO : Form := .cons (.obox dcN) (.cons (.obox dcI) (.cons (.obox dcI) .nilL))
abbrev dcB : Form := .cons (.boxr 0 0) (.cons (.boxr 1 0) (.cons (.boxr 2 0) .nilL))
/-- The three named results. -/
abbrev dcS : Sig := ⟨3, [.slot 0, .slot 1, .slot 2], dcO, [0, 1, 2], dcB⟩

noncomputable def dcC : Cfg := ⟨Tryz.prog, fun _ => none, fun _ _ => none, fun _ => none⟩
theorem dcC_orc : ∀ g l N, dcC.orc g l = some N → Sat dcC.P g N := fun _ _ _ h => by cases h

/-- The closure's state behind its first regions. -/
abbrev clA : Sig := ⟨14, [.slot 0, .slot 1, .slot 2, .slot 3], .cons (.obox dcN) (.cons (.obox dcI) (.cons (.obox dcI) (.cons (.obox dcI) .nilL))), [0, 1, 2, 3, 4], .cons (.boxr 0 0) (.cons (.boxr 1 0) (.cons (.boxr 2 0) (.cons (.boxr 3 0) (.cons (.v .bool) .nilL))))⟩
abbrev clOut : List Out := [⟨.normal, dcS, dcS.V, id, id⟩]
def clX (x : dcS.V) (c : Int) (b : Bool) : clA.V := ((x.1.1, x.1.2.1, x.1.2.2.1, (c, ()), ()), ((), (), (), (), b, ()))
def clY (c : Int) : dcS.V := (((0, 0, 0, ⟨#[]⟩, [], ()), (0, ()), (c, ()), ()), ((), (), (), ()))
def opsIn : Code → Array Oper
  | .region _ ops _ => ops
  | _ => #[]
noncomputable def cl14 : Array Oper := opsIn ((codeAt 60 (bodyOf Tryz.f86) 14).getD .skip)
noncomputable def cl6 : Array Oper := opsIn ((codeAt 60 (bodyOf Tryz.f86) 6).getD .skip)
theorem cl14_at : codeAt 60 (bodyOf Tryz.f86) 14 = some (.region 2 cl14 true) := by kernel_rfl
def cl6S (x : dcS.V) (c : Int) (b : Bool) : St := ⟨(clA.put (clX x c b)).slots.set 10 (.dat .bool b), (clA.put (clX x c b)).σ⟩
theorem cl14_ev (x : dcS.V) (c : Int) : evAnyL dcC cl14 (fun st => pickO clOut .normal st.slots st.σ) cl14.size (Array.replicate cl14.size false) (cl6S x c true) = List.replicate 10 (some (clY c)) := by kernel_rfl
theorem cl3_at : codeAt 60 (bodyOf Tryz.f86) 3 = some (.seq (.region 1 cl6 false) (.cond (.tmp 10) (.region 2 cl14 true) .skip)) := by kernel_rfl
theorem cl6_ev (x : dcS.V) (c : Int) (b : Bool) : evOps dcC cl6 (fun _ => (none : Option St)) 4 cl6.toList (clA.put (clX x c b)) some = some (cl6S x c b) := by kernel_rfl
theorem clF_ev (x : dcS.V) (c : Int) : dcS.get (cl6S x c false).slots (cl6S x c false).σ = some x := by kernel_rfl
theorem cl6_ds : (cl6.toList.all fun o => match o.dst with | some d => decide (3 ≤ d) | none => true) = true := by kernel_rfl
theorem cl14_ds : (cl14.toList.all fun o => match o.dst with | some d => decide (3 ≤ d) | none => true) = true := by kernel_rfl
noncomputable abbrev clT : Code := .seq (.region 1 cl6 false) (.cond (.tmp 10) (.region 2 cl14 true) .skip)

theorem cl_tail (x : dcS.V) (c : Int) (b : Bool) {a : Act} (hH : Holds E (clA.put (clX x c b)) a w) :
    clT.wp Tryz.prog (fun e a' w' => e = .normal ∧ SameC 3 a a' ∧ Holds E (dcS.put (if b then clY c else x)) a' w') a w := by
  refine wp_seq (region_sound (C := dcC) dcC_orc (cl6_ev x c b) hH (fun a1 w1 st1 k1 k2 k3 => ?_) (fun a1 w1 st1 pv k1 => by cases k1))
  cases k1
  have hS := k3.toC cl6_ds
  have hv : a1.eval (.tmp 10) = .bool b := by
    obtain ⟨μ, hr⟩ := k2
    exact asB_rv (a := evOp (cl6S x c b) (.tmp 10)) rfl (evOp_rv hr.vals (.tmp 10))
  refine wp_cond hv ?_
  cases b with
  | true =>
    refine any_sound (C := dcC) (n0 := 3) dcC_orc mixed cl14_ds (cl14_ev x c) k2 (fun a2 w2 st2 q1 q2 q3 => ⟨rfl, hS.trans q3, ?_⟩)
    have := pickO_spec (ooC (fun _ => rfl) ooN) q1
    obtain ⟨he, hget⟩ := this
    exact q2.sig hget
  | false =>
    exact wp_skip ⟨rfl, hS, k2.sig (clF_ev x c)⟩

/-- Behind the closure's first region. -/
theorem cl_mid {x : dcS.V} {p0 p1 p2 : Value} (hR : Rel E (dcS.put x).slots (dcS.put x).σ μ [p0, p1, p2] w) (c : Int) (b : Bool) {T : TypeId} {tl : List Value} (hl : tl.length = 9) {a : Act}
    (ha : a.tmps.toList = [p0, p1, p2, .pointer (some ⟨w.heap.size, 0, none⟩), .bool b] ++ tl) :
    Holds E (clA.put (clX x c b)) a (w.alloc (.cells #[.int .i64 c] T (0, 0))) := by
  have hB : RowKit.Below w.heap.size w (w.alloc (.cells #[.int .i64 c] T (0, 0))) := below_alloc w _
  have h2 := hR.alloc hB (.box true [.dat (.int .i64) c]) (.pointer (some ⟨w.heap.size, 0, none⟩)) (fun b hb _ => by
    simp only [blk, Option.some.injEq] at hb
    subst hb
    exact ⟨Nat.le_refl _, by rw [World.size_alloc]; omega⟩)
    ⟨w.heap.size, #[.int .i64 c], T, upd_same _ _ _, heap_new w _, RVL.cons' (by simp [RV, Sh.C]) (RVL.nil_iff.2 rfl), fun h => by cases h⟩
  refine ⟨upd μ (dcS.put x).σ.length (.pointer (some ⟨w.heap.size, 0, none⟩)), ?_⟩
  rw [ha, List.take_of_length_le (by simp [hl]; exact Nat.le_refl 14)]
  refine { h2 with vals := ?_ }
  have h3 := h2.vals
  have h4 := h3.append (RVL.cons' (a := .box 3 0) (v := .pointer (some ⟨w.heap.size, 0, none⟩)) (by simp only [RV]; exact ⟨_, upd_same _ _ _, rfl⟩) (RVL.cons' (a := .dat .bool b) (v := .bool b) (by simp [RV, Sh.C]) (RVL.anys tl)))
  rw [hl] at h4
  exact h4

theorem f42_at : Tryz.prog.funcs[86]? = some Tryz.f86 := by kernel_rfl
theorem f42_nt : Tryz.f86.ntmps = 14 := by kernel_rfl
theorem f42_res : Tryz.f86.results = #[] := by kernel_rfl


noncomputable def cl2 : Array Oper := opsIn ((codeAt 60 (bodyOf Tryz.f86) 2).getD .skip)
theorem f42_body : Tryz.f86.body = some (.seq (.region 0 cl2 false) clT) := by kernel_rfl
theorem ta_hit (v : Value) (w : World) : (Instr.typeAssert (.iface 112 v) 20 112 true).run Tryz.prog w = .ok (.tuple #[v, .bool true]) w := by kernel_rfl
theorem ta_nil (w : World) : (Instr.typeAssert .nilIface 20 112 true).run Tryz.prog w = .ok (.tuple #[.agg #[.int .i64 0], .bool false]) w := by kernel_rfl
theorem cl_start (p0 p1 p2 : Value) : #[p0, p1, p2] ++ Array.replicate (14 - #[p0, p1, p2].size) undef = #[p0, p1, p2, undef, undef, undef, undef, undef, undef, undef, undef, undef, undef, undef] := rfl

theorem cl_end {x : dcS.V} {p0 p1 p2 : Value} {a : Act} {tl : List Value} (ha : a.tmps.toList = p0 :: p1 :: p2 :: tl) (hd : a.defers = []) {c₀ : Frame} {cs : List Frame} {u' : FrameMode} {R : Ending → FrameMode → World → Prop}
    {c : Int} {b : Bool} (hH : Holds E (clA.put (clX x c b)) a w) (hR : ∀ w', (∃ μ', Rel E (dcS.put (if b then clY c else x)).slots (dcS.put (if b then clY c else x)).σ μ' [p0, p1, p2] w') → R (.returned (.tuple #[])) u' w') :
    clT.wpS Tryz.prog (bodyPostS Tryz.prog Tryz.f86 c₀ cs R) a ({ c₀ with mode := u' } :: cs) w := by
  refine wpS_of_wp fun bb k cs' => ?_
  obtain ⟨e, a', w', ⟨rfl, q2, q3⟩, r⟩ := cl_tail x c b hH bb k cs'
  refine ⟨.normal, a', w', (show _ ∧ _ from ⟨q2.de.trans hd, u', rfl, .tuple #[], ?_, hR w' ?_⟩), r⟩
  · simp [results, f42_res]
  · obtain ⟨μ, hr⟩ := q3
    refine ⟨μ, ?_⟩
    have e3 : a'.tmps.toList.take 3 = [p0, p1, p2] := by
      rw [take_same q2 (Nat.le_refl 3), ha]; rfl
    have hl : (dcS.put (if b then clY c else x)).slots.length = 3 := Sig.put_len _ _
    rw [hl, e3] at hr
    exact hr

/-- Under a panic: the named results are set. -/
theorem cl_pan {x : dcS.V} {p0 p1 p2 : Value} (hR : Rel E (dcS.put x).slots (dcS.put x).σ μ [p0, p1, p2] w) (c : Int) :
    CallsD Tryz.prog 86 #[p0, p1, p2] (.panicking [{ v := .iface 112 (.agg #[.int .i64 c]), recovered := false }]) w fun e u' w' =>
      e = .returned (.tuple #[]) ∧ u' = .panicking [{ v := .iface 112 (.agg #[.int .i64 c]), recovered := true }] ∧ ∃ μ', Rel E (dcS.put (clY c)).slots (dcS.put (clY c)).σ μ' [p0, p1, p2] w' := by
  refine callsD_of_wpS f42_at f42_body fun c₀ cs hu => ?_
  rw [f42_nt, cl_start]
  have hc := f42_body
  unfold Tryz.f86 at hc
  injection hc with hc
  injection hc with h1 h2
  injection h1 with h3 hops h4
  apply wpS_seq
  apply wpS_region
  rw [← hops]
  simp [wpOpsS, execOp, go_sem, recoverD, hu, Exit.thenS, ta_hit]
  exact cl_end (x := x) (c := c) (b := true) rfl rfl (cl_mid hR c true (tl := [_, _, _, _, _, _, _, _, _]) rfl rfl) (fun w' h => ⟨rfl, rfl, h⟩)

/-- Without one: they stay. -/
theorem cl_idle {x : dcS.V} {p0 p1 p2 : Value} (hR : Rel E (dcS.put x).slots (dcS.put x).σ μ [p0, p1, p2] w) :
    CallsD Tryz.prog 86 #[p0, p1, p2] .returning w fun e u' w' =>
      e = .returned (.tuple #[]) ∧ u' = .returning ∧ ∃ μ', Rel E (dcS.put x).slots (dcS.put x).σ μ' [p0, p1, p2] w' := by
  refine callsD_of_wpS f42_at f42_body fun c₀ cs hu => ?_
  rw [f42_nt, cl_start]
  have hc := f42_body
  unfold Tryz.f86 at hc
  injection hc with hc
  injection hc with h1 h2
  injection h1 with h3 hops h4
  apply wpS_seq
  apply wpS_region
  rw [← hops]
  simp [wpOpsS, execOp, go_sem, recoverD, hu, Exit.thenS, ta_nil]
  have hcc : c₀ = { c₀ with mode := .returning } := by rw [← hu]
  rw [hcc]
  exact cl_end (x := x) (c := 0) (b := false) rfl rfl (cl_mid hR 0 false (tl := [_, _, _, _, _, _, _, _, _]) rfl rfl) (fun w' h => ⟨rfl, rfl, h⟩)
end
end Gv
