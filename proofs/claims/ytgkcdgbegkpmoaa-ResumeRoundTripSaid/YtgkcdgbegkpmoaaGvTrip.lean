/- The tree of an event is decoded to that event, and another event has another tree; an event that cannot be encoded gives a tree that cannot be decoded. For every two events; both read afterwards as before. -/
import Derived.Test.YtgkcdgbegkpmoaaGvLaw3
import Derived.Test.YtgkcdgbegkpmoaaGvTr
import Derived.Test.YtgkcdgbegkpmoaaGvPlainTr
import Derived.Test.YtgkcdgbegkpmoaaRows
import Derived.WalkKit
import Derived.ProofKit
import Derived.OpenShut
import Derived.ShutString
import Derived.ChangeOld
import Derived.Below
import Derived.SizedLaws
namespace Gv
open Go Go.Proofs Go.ChangeShapes Go.WideShapes Go.ChangeAt Go.RowKit Go.Proofs.Ytgkcdgbegkpmoaa
set_option linter.unusedVariables false
theorem own : ownKnob Try.prog.godebug = none := by kernel_rfl
theorem laidOut : laidOutB Try.prog = true := by kernel_rfl
theorem ntok : ntOk Try.prog [23, 24] = true := by kernel_rfl
abbrev evSh : Sh := .pr (.int .i64) (.pr (.int .i64) (.pr (.pr (.int .i64) (.pr (.sl (.int .i64)) (.pr (.int .i64) (.pr .str .bool)))) (.pr (.int .i64) (.pr (.int .i64) (.pr (.int .i64) (.int .i64))))))
def evOf (x : evSh.T) : Ev := ⟨x.1, x.2.1, x.2.2.1.1, x.2.2.1.2.1, x.2.2.1.2.2.1, x.2.2.1.2.2.2.1, x.2.2.1.2.2.2.2, x.2.2.2.1, x.2.2.2.2.1, x.2.2.2.2.2.1, x.2.2.2.2.2.2⟩
theorem evOf_len {x : evSh.T} (h : Wf evSh x) : (evOf x).sc.length ≤ 140737488351232 := by
  simp only [Wf] at h
  have := h.2.2.1.2.1.1
  simp only [bmin, reach_lt, show IntKind.i64.bits / 8 = 8 from rfl] at this
  show x.2.2.1.2.1.length ≤ _
  omega
def law52_ResumeRoundTrip.Pure : Prop := ∀ (x0 x1 : evSh.T), Wf evSh x0 → Wf evSh x1 → ∃ k, law52_ResumeRoundTrip.f k (evOf x0).kind (evOf x0).at_ (evOf x0).c (evOf x0).sc (evOf x0).d (evOf x0).tx (evOf x0).b (evOf x0).t0 (evOf x0).t1 (evOf x0).t2 (evOf x0).t3 (evOf x1).kind (evOf x1).at_ (evOf x1).c (evOf x1).sc (evOf x1).d (evOf x1).tx (evOf x1).b (evOf x1).t0 (evOf x1).t1 (evOf x1).t2 (evOf x1).t3 = some true
set_option maxRecDepth 100000 in
theorem law52_ResumeRoundTrip.lifted (hp : law52_ResumeRoundTrip.Pure) (os : Os) (started : os.Started) (H : Type) (enc : TypeId × Value → H) :
    ReturnsInHanded {} Try.checked os 4 .any (Rows.resumeRoundTripSpec.pre6 enc Try.prog Try.f4 Rows.resumeRoundTripRow.domain false) (Rows.resumeRoundTripSpec.post enc Try.prog Try.f4 false true false false) := by
  refine returnsInHanded_of_change_sized (C := Try.checked) own started (by kernel_rfl) Try.func4
    (ChangeSpec.witness6 (enc := enc) (C := Try.checked) false ⟨#[], #[.agg #[.int .i64 0, .int .i64 0, .int .i64 0, .slice none 0 0, .int .i64 0, .string ByteArray.empty, .bool false, .int .i64 0, .int .i64 0, .int .i64 0, .int .i64 0], .agg #[.int .i64 0, .int .i64 0, .int .i64 0, .slice none 0 0, .int .i64 0, .string ByteArray.empty, .bool false, .int .i64 0, .int .i64 0, .int .i64 0, .int .i64 0]], []⟩ 8 (by kernel_rfl) (by kernel_rfl) (by kernel_rfl) (by kernel_rfl)) ?_
  intro W base args ds gs before hval0 hW hcnd hsz0 _
  have hsz : (DataW.weightsEach Try.prog (Try.f4.params.toList ++ Rows.resumeRoundTripSpec.plain.varTypes Try.prog) (ds ++ gs)).all (· ≤ reachBytes) = true := hsz0
  have hval : ∀ (j : Nat) t v, Try.f4.params[j]? = some t → args[j]? = some v → Value.okWide Try.prog W .any base t v := hval0
  have hW' := hW
  obtain ⟨p, q, hA0, hV, rfl, hfz, hnd⟩ := hW
  have hA : DataW.TrodAll enc Try.prog W 0 (fun _ => true) true Try.f4.params.toList args.toList ds p := hA0
  rw [Try.params4] at hA hval hsz
  obtain ⟨v0, vs0, d0, ds0, p0, q0, hargs, rfl, rfl, h0, r0⟩ := trodAll_cons hA
  obtain ⟨v1, vs1, d1, ds1, p1, q1, rfl, rfl, rfl, h1, r1⟩ := trodAll_cons r0
  obtain ⟨rfl, rfl, rfl⟩ := trodAll_nil r1
  obtain rfl : args = #[v0, v1] := by cases args; simp_all
  obtain ⟨rfl, rfl⟩ := trodVars_none hV
  have hall := List.all_eq_true.1 hsz
  obtain ⟨x0, rv0, wf0⟩ := arg_open (n := 20) (s := evSh) ntok (by kernel_rfl) (hval 0 32 v0 rfl rfl) h0 (fun q hq => of_decide_eq_true (hall q (DataW.weights_mem_each (j := 0) rfl rfl q hq)))
  obtain ⟨x1, rv1, wf1⟩ := arg_open (n := 20) (s := evSh) ntok (by kernel_rfl) (hval 1 32 v1 rfl rfl) h1 (fun q hq => of_decide_eq_true (hall q (DataW.weights_mem_each (j := 1) rfl rfl q hq)))
  have lt0 : ∀ x ∈ p0, x.block < W.heap.size := by obtain ⟨m, hm⟩ := h0; exact DataW.trod_lt m _ _ _ hm
  have lt1 : ∀ x ∈ p1, x.block < W.heap.size := by obtain ⟨m, hm⟩ := h1; exact DataW.trod_lt m _ _ _ hm
  obtain ⟨k, hk⟩ := hp x0 x1 wf0 wf1
  clear hA0 hval0 hsz0 hsz
  refine (law_calls (law52_ResumeRoundTrip.sat k) (x := ((), (x0.1, x0.2.1, x0.2.2.1.1, x0.2.2.1.2.1, x0.2.2.1.2.2.1, x0.2.2.1.2.2.2.1, x0.2.2.1.2.2.2.2, x0.2.2.2.1, x0.2.2.2.2.1, x0.2.2.2.2.2.1, x0.2.2.2.2.2.2, ()), (x1.1, x1.2.1, x1.2.2.1.1, x1.2.2.1.2.1, x1.2.2.1.2.2.1, x1.2.2.1.2.2.2.1, x1.2.2.1.2.2.2.2, x1.2.2.2.1, x1.2.2.2.2.1, x1.2.2.2.2.2.1, x1.2.2.2.2.2.2, ()), ())) hk rfl (args := [v0, v1]) (fun μ => RVL.cons' (rv0 μ) (RVL.cons' (rv1 μ) (RVL.nil_iff.2 rfl)))).mono fun e W' ⟨he, bel⟩ => ?_
  subst he
  exact ⟨_, rfl, _, _, _, [], _, [], hW', trodAll_mk1 (shut_bool Try.underlying4 _), (trodAll_cons_mk (Below.trod laidOut (by kernel_rfl) (of_decide_eq_true (by kernel_rfl)) h0 bel lt0) (trodAll_cons_mk (Below.trod laidOut (by kernel_rfl) (of_decide_eq_true (by kernel_rfl)) h1 bel lt1) trodAll_mk0)), rfl, bel.frame _, fun h => by cases h⟩
theorem law52_ResumeRoundTrip.over (hp : law52_ResumeRoundTrip.Pure) : Rows.resumeRoundTripRow.holds Try.pinned (OpenSpec.ofChange Rows.resumeRoundTripSpec) :=
  OpenClaim.holds_of_wide 4 Try.f4 rfl rfl rfl rfl rfl rfl rfl ⟨rfl, rfl, rfl, rfl, rfl⟩ rfl rfl rfl rfl rfl (by kernel_rfl) Try.func4 (by kernel_rfl)
    (of_decide_eq_true (by kernel_rfl)) (by unfold Func.isWrapper; first | (rw [if_pos (by decide +kernel)]; kernel_rfl) | (rw [if_neg (by decide +kernel)]; exact ⟨rfl, rfl⟩))
    (fun os started H enc _ => law52_ResumeRoundTrip.lifted hp os started H enc)
theorem law52_ResumeRoundTrip.said : Rows.ResumeRoundTripSaid := law52_ResumeRoundTrip.over (fun x0 x1 h0 h1 => pure_roundtrip (evOf x0) (evOf x1) (evOf_len h0))
end Gv
namespace Go.Proofs.Ytgkcdgbegkpmoaa
theorem resumeRoundTrip_holds : Rows.ResumeRoundTripSaid := Gv.law52_ResumeRoundTrip.said
#print axioms resumeRoundTrip_holds
end Go.Proofs.Ytgkcdgbegkpmoaa
