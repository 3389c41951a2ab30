/- The value of an operation that changes nothing does not hang on what is done with it. -/
import Derived.Test.YtgkcdgbegkpmoaaGreatDoorGwEval
namespace Gv
open Go
set_option linter.unusedVariables false
set_option linter.unusedSectionVars false
set_option linter.unusedSimpArgs false

section
variable {α : Type} {K : AV → Option α}

theorem bind_nat {β : Type} {X : Option β} {f : β → Option α} {g : β → Option AV} (h : ∀ b, f b = (g b).bind K) : X.bind f = (X.bind g).bind K := by
  cases X with
  | none => rfl
  | some b => exact h b

theorem cond_nat {c : Bool} {f : Option α} {g : Option AV} (h : f = g.bind K) : cond c f none = (cond c g none).bind K := by
  cases c with
  | false => rfl
  | true => exact h

theorem cond_nat' {c : Bool} {f : Option α} {g : Option AV} (h : f = g.bind K) : cond c none f = (cond c none g).bind K := by
  cases c with
  | true => rfl
  | false => exact h

theorem ite_nat {c : Prop} [Decidable c] {f : Option α} {g : Option AV} (h : f = g.bind K) : (if c then f else none) = (if c then g else none).bind K := by
  split
  · exact h
  · rfl

theorem ite_nat' {c : Prop} [Decidable c] {f : Option α} {g : Option AV} (h : f = g.bind K) : (if c then none else f) = (if c then none else g).bind K := by
  split
  · rfl
  · exact h

theorem intOp_nat (op : BinOp) (k : IntKind) (a b : Int) : intOp op k a b K = (intOp op k a b some).bind K := by
  cases op <;> simp only [intOp] <;> first | rfl | exact cond_nat' rfl
theorem shiftOp_nat (op : BinOp) (k : IntKind) (a b : Int) : shiftOp op k a b K = (shiftOp op k a b some).bind K := by
  cases op <;> simp only [shiftOp] <;> first | rfl | exact cond_nat' rfl
theorem strOp_nat (op : BinOp) (a b : ByteArray) : strOp op a b K = (strOp op a b some).bind K := by
  cases op <;> simp only [strOp] <;> first | rfl | exact cond_nat rfl
theorem unK_nat (op : UnOp) (x : AV) : unK op x K = (unK op x some).bind K := by
  unfold unK; split <;> rfl
theorem convK_nat (P : Program) (s d : TypeId) (x : AV) : convK P s d x K = (convK P s d x some).bind K := by
  unfold convK; split <;> rfl
theorem lenK_nat (P : Program) (T : TypeId) (x : AV) (σ : List Ob) : lenK P T x σ K = (lenK P T x σ some).bind K := by
  unfold lenK; split <;> first | rfl | (split <;> rfl)
theorem minF_nat (mx : Bool) (k : IntKind) : ∀ (l : List AV) (a : Int), minF mx k a l K = (minF mx k a l some).bind K
  | [], a => rfl
  | b :: r, a => by
    cases b with
    | dat s x => cases s <;> first | rfl | exact minF_nat mx k r _
    | _ => rfl
theorem minK_nat (mx : Bool) (l : List AV) : minK mx l K = (minK mx l some).bind K := by
  unfold minK; split
  · exact minF_nat ..
  · rfl
theorem binK_nat (P : Program) (T : TypeId) (op : BinOp) (x y : AV) : binK P T op x y K = (binK P T op x y some).bind K := by
  unfold binK
  split
  · split
    · exact shiftOp_nat ..
    · exact ite_nat (intOp_nat ..)
  · split <;> rfl
  · exact strOp_nat ..
  · refine ite_nat (bind_nat fun c => ?_)
    split <;> rfl
  · rfl

theorem cmpK_nat (op : BinOp) (b : Bool) : cmpK op b K = (cmpK op b some).bind K := by cases op <;> rfl
theorem spcK_nat (P : Program) (T : TypeId) (lit : Bool) (op : BinOp) (x y : AV) : spcK P T lit op x y K = (spcK P T lit op x y some).bind K := by
  unfold spcK
  split
  · exact ite_nat (cmpK_nat ..)
  · exact ite_nat (cmpK_nat ..)
  · exact ite_nat (cmpK_nat ..)
  · exact ite_nat (cmpK_nat ..)
  · exact ite_nat (cond_nat (cmpK_nat ..))
  · rfl
theorem ite2_nat {c : Prop} [Decidable c] {f f' : Option α} {g g' : Option AV} (h : f = g.bind K) (h' : f' = g'.bind K) : (if c then f else f') = (if c then g else g').bind K := by
  split
  · exact h
  · exact h'

theorem opN_nat (C : Cfg) (σ : List Ob) (ρ : Operand → AV) (o : Oper) : opN C σ ρ o K = (opN C σ ρ o some).bind K := by
  obtain ⟨dst, op, ty, pos, after, guard⟩ := o
  cases op <;> simp only [opN]
  case binOp => exact ite2_nat (spcK_nat ..) (binK_nat ..)
  case unOp => exact unK_nat ..
  case convert => exact ite2_nat (bind_nat fun _ => bind_nat fun _ => rfl) (convK_nat ..)
  case nilCheck => split <;> rfl
  case makeInterface => split <;> rfl
  case makeFunc fn first cap => cases fn <;> simp only [] <;> first | rfl | exact ite_nat rfl
  case build =>
    split
    · exact bind_nat fun _ => bind_nat fun _ => bind_nat fun _ => bind_nat fun _ => rfl
    · rfl
  case load =>
    split
    · split
      · exact bind_nat fun _ => rfl
      · rfl
    · exact bind_nat fun _ => rfl
    · split
      · exact ite_nat (bind_nat fun _ => rfl)
      · rfl
    · rfl
  case fieldAddr =>
    refine bind_nat fun _ => bind_nat fun _ => ite_nat' ?_
    split <;> rfl
  case field =>
    refine bind_nat fun _ => bind_nat fun _ => ?_
    split
    · exact ite_nat (bind_nat fun _ => rfl)
    · rfl
  case indexAddr =>
    refine bind_nat fun _ => bind_nat fun _ => ?_
    split
    · exact ite_nat (cond_nat rfl)
    · split
      · exact ite_nat (cond_nat rfl)
      · rfl
    · rfl
  case index =>
    split
    · exact cond_nat rfl
    · rfl
  case slice T x lo hi mx =>
    cases mx with
    | some _ => rfl
    | none =>
      simp only []
      split
      · split
        · exact cond_nat rfl
        · rfl
      · refine bind_nat fun _ => ite_nat ?_
        split
        · exact cond_nat rfl
        · rfl
      · split
        · exact bind_nat fun _ => rfl
        · rfl
      · rfl
  case extract =>
    split
    · exact bind_nat fun _ => rfl
    · rfl
  case call c =>
    obtain ⟨cal, args, ats⟩ := c
    cases cal with
    | builtin b =>
      cases b <;> simp only [] <;> first
        | rfl
        | exact minK_nat ..
        | (split
           · exact lenK_nat ..
           · rfl)
    | _ => rfl
  all_goals rfl

end
end Gv
