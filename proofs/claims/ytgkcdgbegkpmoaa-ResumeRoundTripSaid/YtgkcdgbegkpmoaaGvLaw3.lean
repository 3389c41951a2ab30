/- A law's call. -/
import Derived.Test.YtgkcdgbegkpmoaaGvLaw2
import Derived.WideShapes
import Derived.OpenShut
namespace Gv
open Go Go.RowKit Go.WideShapes Go.ChangeShapes
set_option linter.unusedVariables false
set_option linter.unusedSimpArgs false

section
variable {P : Program} {w w' : World} {μ : Nat → Option Value} {H : Type} {enc : TypeId × Value → H} {nt : List TypeId}

/-- An argument, as the interpreter sees it. -/
def argAV (P : Program) (T : TypeId) (s : Sh) (x : s.T) : AV := if aggT P T then .agg (cellsOf s x) else .dat s x

theorem arg_open (hn : ntOk P nt = true) {n : Nat} {T : TypeId} {s : Sh} (hs : shOk P nt n T s = true) {r : Go.Reach} {base : Nat} {v : Value} {d : DataW H} {ps : List MemPlace} (hv : Value.okWide P w r base T v)
    (h : DataW.Trod enc P w 0 (fun _ => true) true T v d ps) (hw : ∀ q ∈ d.weights P T, q ≤ reachBytes) : ∃ x : s.T, (∀ μ, RV (okW w) w μ (argAV P T s x) v) ∧ Wf s x := by
  obtain ⟨fuel, hf⟩ := h
  obtain ⟨x, hC, hW⟩ := trod_sh hn fuel n T s _ d ps hs hf hw
  refine ⟨x, fun μ => ?_, hW⟩
  have one : aggT P T = false → v.cells = #[v] → RV (okW w) w μ (argAV P T s x) v := by
    intro ha hc
    unfold argAV
    rw [ha]
    simp only [Bool.false_eq_true, if_false, RV]
    rw [hc] at hC
    exact hC
  have many : ∀ cs, aggT P T = true → v = .agg cs → RV (okW w) w μ (argAV P T s x) v := by
    intro cs ha hc
    unfold argAV
    rw [ha]
    simp only [if_true, RV]
    subst hc
    exact ⟨cs, rfl, cellsOf_rv hC⟩
  cases n with
  | zero => simp [shOk] at hs
  | succ n =>
    cases s with
    | int k =>
      have hu := isU_int (by simpa only [shOk] using hs)
      obtain ⟨m, rfl⟩ := okWide_int hu hv
      exact one (by simp [aggT, hu]) rfl
    | bool =>
      simp only [shOk] at hs
      split at hs
      · rename_i hu
        obtain ⟨m, rfl⟩ := okWide_bool hu hv
        exact one (by simp [aggT, hu]) rfl
      · cases hs
    | str =>
      have hu := isU_str (by simpa only [shOk] using hs)
      obtain ⟨m, rfl⟩ := okWide_string hu hv
      exact one (by simp [aggT, hu]) rfl
    | sl e =>
      simp only [shOk] at hs
      split at hs
      · rename_i E hu
        obtain ⟨a, l, c, rfl⟩ := okWide_slice hu hv
        exact one (by simp [aggT, hu]) rfl
      · cases hs
    | pr a b =>
      simp only [shOk] at hs
      split at hs
      · rename_i fs hu
        simp only [Value.okWide, hu] at hv
        obtain ⟨cs, hc, _⟩ := hv
        exact many cs (by simp [aggT, hu]) hc
      · cases hs
    | node =>
      simp only [shOk] at hs
      obtain ⟨fs, a, b, c, d, e, E, hu, _⟩ := ntOk_spec hn (by simpa using hs)
      simp only [Value.okWide, hu] at hv
      obtain ⟨cs, hc, _⟩ := hv
      exact many cs (by simp [aggT, hu]) hc

/-- A function that answers one bool, called with data: what it answers, and nothing else turns. -/
theorem law_calls {g : FuncId} {A : Sig} {f : A.V → Option Bool} (hS : Sat P g ⟨A, ⟨1, [], .nilL, [0], .cons (.v .bool) .nilL⟩, Bool, f, fun y => ((), (y, ()))⟩) {x : A.V} {y : Bool} (h : f x = some y) {args : List Value}
    (hσ : (A.put x).σ = []) (hv : ∀ μ, RVL (okW w) w μ (A.put x).slots args) : Calls P g args.toArray w fun e w' => e = .returned (.bool y) ∧ Below w.heap.size w w' := by
  have hrel : Rel ⟨w, fun _ => False, okW w⟩ (A.put x).slots (A.put x).σ (fun _ => none) args w := {
    vals := (hv _).kp ⟨fun b hb => ⟨hb, .inl hb, fun t ht => by obtain ⟨o, v, h1, _⟩ := ht; rw [hσ] at h1; simp at h1⟩, fun _ _ => rfl⟩ (fun _ _ e => e)
    objs := fun t o ho => by rw [hσ] at ho; simp at ho
    dist := fun t t' b hb => by obtain ⟨o, v, h1, _⟩ := hb; rw [hσ] at h1; simp at h1
    own := fun t b hb => by obtain ⟨o, v, h1, _⟩ := hb; rw [hσ] at h1; simp at h1
    dom := fun t v hv => by cases hv
    frm := ⟨rfl, rfl, rfl, Nat.le_refl _, fun _ _ _ => rfl⟩ }
  refine Calls.mono (hS.run x y h w _ _ _ args hrel) ?_
  rintro (v | ch | _) w' hw
  · obtain ⟨μ', hr⟩ := hw
    refine ⟨?_, frm_below hr.frm (fun _ h => h)⟩
    have hvals := hr.vals
    simp only [List.take_succ_cons, List.take_zero] at hvals
    have : RVL (okN ⟨w, fun _ => False, okW w⟩ _ μ' w') w' μ' [.dat .bool y] [v] := hvals
    obtain ⟨v', r', e, g, _⟩ := RVL.cons_iff.1 this
    simp only [List.cons.injEq] at e
    obtain ⟨rfl, _⟩ := e
    simp only [RV, Sh.C, List.cons.injEq, and_true] at g
    rw [g]
  · exact False.elim hw
  · exact False.elim hw

end
end Gv
