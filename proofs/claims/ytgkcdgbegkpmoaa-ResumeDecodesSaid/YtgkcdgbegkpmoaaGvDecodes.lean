/- The event that a tree of at most 40 nodes is decoded to, or the error, is that of the reference, for every tree; the tree reads afterwards as before. -/
import Derived.Test.YtgkcdgbegkpmoaaGvLaw3
import Derived.Test.YtgkcdgbegkpmoaaGvT3
import Derived.Test.YtgkcdgbegkpmoaaGvPlain
import Derived.Test.YtgkcdgbegkpmoaaRows
import Derived.WalkKit
import Derived.ProofKit
import Derived.OpenShut
import Derived.ShutString
import Derived.ChangeOld
import Derived.Below
import Derived.SizedLaws
namespace Gv
open Go Go.Proofs Go.ChangeShapes Go.WideShapes Go.ChangeAt Go.RowKit Go.Proofs.Ytgkcdgbegkpmoaa
set_option linter.unusedVariables false
theorem own : ownKnob Try.prog.godebug = none := by kernel_rfl
theorem laidOut : laidOutB Try.prog = true := by kernel_rfl
theorem ntok : ntOk Try.prog [23, 24] = true := by kernel_rfl
def law52_ResumeDecodes.Pure : Prop := ∀ (x0 : Sh.node.T), Wf .node x0 → ∃ k, law52_ResumeDecodes.f k x0.tag x0.kind x0.n x0.s x0.kids = some true
set_option maxRecDepth 100000 in
theorem law52_ResumeDecodes.lifted (hp : law52_ResumeDecodes.Pure) (os : Os) (started : os.Started) (H : Type) (enc : TypeId × Value → H) :
    ReturnsInHanded {} Try.checked os 3 .any (Rows.resumeDecodesSpec.pre6 enc Try.prog Try.f3 Rows.resumeDecodesRow.domain false) (Rows.resumeDecodesSpec.post enc Try.prog Try.f3 false true false false) := by
  refine returnsInHanded_of_change_sized (C := Try.checked) own started (by kernel_rfl) Try.func3
    (ChangeSpec.witness6 (enc := enc) (C := Try.checked) false ⟨#[], #[.agg #[.int .i64 0, .int .i64 0, .int .i64 0, .string ByteArray.empty, .slice none 0 0]], []⟩ 8 (by kernel_rfl) (by kernel_rfl) (by kernel_rfl) (by kernel_rfl)) ?_
  intro W base args ds gs before hval0 hW hcnd hsz0 _
  have hsz : (DataW.weightsEach Try.prog (Try.f3.params.toList ++ Rows.resumeDecodesSpec.plain.varTypes Try.prog) (ds ++ gs)).all (· ≤ reachBytes) = true := hsz0
  have hval : ∀ (j : Nat) t v, Try.f3.params[j]? = some t → args[j]? = some v → Value.okWide Try.prog W .any base t v := hval0
  have hW' := hW
  obtain ⟨p, q, hA0, hV, rfl, hfz, hnd⟩ := hW
  have hA : DataW.TrodAll enc Try.prog W 0 (fun _ => true) true Try.f3.params.toList args.toList ds p := hA0
  rw [Try.params3] at hA hval hsz
  obtain ⟨v0, vs0, d0, ds0, p0, q0, hargs, rfl, rfl, h0, r0⟩ := trodAll_cons hA
  obtain ⟨rfl, rfl, rfl⟩ := trodAll_nil r0
  obtain rfl : args = #[v0] := by cases args; simp_all
  obtain ⟨rfl, rfl⟩ := trodVars_none hV
  have hall := List.all_eq_true.1 hsz
  obtain ⟨x0, rv0, wf0⟩ := arg_open (n := 20) (s := .node) ntok (by kernel_rfl) (hval 0 24 v0 rfl rfl) h0 (fun q hq => of_decide_eq_true (hall q (DataW.weights_mem_each (j := 0) rfl rfl q hq)))
  have lt0 : ∀ x ∈ p0, x.block < W.heap.size := by obtain ⟨m, hm⟩ := h0; exact DataW.trod_lt m _ _ _ hm
  obtain ⟨k, hk⟩ := hp x0 wf0
  clear hA0 hval0 hsz0 hsz
  refine (law_calls (law52_ResumeDecodes.sat k) (x := ((), (x0.tag, x0.kind, x0.n, x0.s, x0.kids, ()), ())) hk rfl (args := [v0]) (fun μ => RVL.cons' (rv0 μ) (RVL.nil_iff.2 rfl))).mono fun e W' ⟨he, bel⟩ => ?_
  subst he
  exact ⟨_, rfl, _, _, _, [], _, [], hW', trodAll_mk1 (shut_bool Try.underlying4 _), (trodAll_cons_mk (Below.trod laidOut (by kernel_rfl) (of_decide_eq_true (by kernel_rfl)) h0 bel lt0) trodAll_mk0), rfl, bel.frame _, fun h => by cases h⟩
theorem law52_ResumeDecodes.over (hp : law52_ResumeDecodes.Pure) : Rows.resumeDecodesRow.holds Try.pinned (OpenSpec.ofChange Rows.resumeDecodesSpec) :=
  OpenClaim.holds_of_wide 3 Try.f3 rfl rfl rfl rfl rfl rfl rfl ⟨rfl, rfl, rfl, rfl, rfl⟩ rfl rfl rfl rfl rfl (by kernel_rfl) Try.func3 (by kernel_rfl)
    (of_decide_eq_true (by kernel_rfl)) (by unfold Func.isWrapper; first | (rw [if_pos (by decide +kernel)]; kernel_rfl) | (rw [if_neg (by decide +kernel)]; exact ⟨rfl, rfl⟩))
    (fun os started H enc _ => law52_ResumeDecodes.lifted hp os started H enc)
theorem law52_ResumeDecodes.said (hp : law52_ResumeDecodes.Pure) : Rows.ResumeDecodesSaid := law52_ResumeDecodes.over hp
end Gv
namespace Go.Proofs.Ytgkcdgbegkpmoaa
theorem resumeDecodes_holds : Rows.ResumeDecodesSaid := Gv.law52_ResumeDecodes.said Gv.pure_decodes
#print axioms resumeDecodes_holds
end Go.Proofs.Ytgkcdgbegkpmoaa
