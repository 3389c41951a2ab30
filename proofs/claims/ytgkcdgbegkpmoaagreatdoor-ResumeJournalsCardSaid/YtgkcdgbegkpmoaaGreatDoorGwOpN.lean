/- The operations that change nothing: what the interpreter says of them is what they give. -/
import Derived.Test.YtgkcdgbegkpmoaaGreatDoorGwStep
import Derived.Laws.StructEq
import Derived.Laws.Cells
import Derived.Tactics
namespace Gv
open Go
set_option linter.unusedVariables false
set_option linter.unusedSectionVars false
set_option linter.unusedSimpArgs false

section
variable [GlobI] {ok : Nat → Prop} {w : World} {μ : Nat → Option Value} {P : Program} {α : Type} {K : AV → Option α} {x : α}

theorem RV.int {k : IntKind} {n : Int} {v : Value} (h : RV ok w μ (.dat (.int k) n) v) : v = .int k n := by simpa [RV, Sh.C] using h
theorem RV.bool {b : Bool} {v : Value} (h : RV ok w μ (.dat .bool b) v) : v = .bool b := by simpa [RV, Sh.C] using h
theorem RV.str {s : ByteArray} {v : Value} (h : RV ok w μ (.dat .str s) v) : v = .string s := by simpa [RV, Sh.C] using h
theorem RV.mkInt (k : IntKind) (n : Int) : RV ok w μ (.dat (.int k) n) (.int k n) := by simp [RV, Sh.C]
theorem RV.mkBool (b : Bool) : RV ok w μ (.dat .bool b) (.bool b) := by simp [RV, Sh.C]
theorem RV.mkStr (s : ByteArray) : RV ok w μ (.dat .str s) (.string s) := by simp [RV, Sh.C]
theorem RV.sl {e : Sh} {l : List e.T} {v : Value} (h : RV ok w μ (.dat (.sl e) l) v) : ∃ a c, v = .slice a l.length c ∧ l.length ≤ c ∧
    (l = [] ∨ ∃ b off, a = some ⟨b, off, none⟩ ∧ ok b ∧ ∀ (i : Nat) x, l[i]? = some x → ∃ cs, cs.length = e.size ∧ CellsAt w b (off + i * e.size) cs ∧ Sh.C ok w e x cs) := by
  simpa [RV, Sh.C] using h

theorem cond_some {b : Bool} {y z : Option α} (h : cond b y z = some x) : (b = true ∧ y = some x) ∨ (b = false ∧ z = some x) := by
  cases b <;> simp_all

/-- A value out of values, in a world that stays. -/
def Gives (P : Program) (ok : Nat → Prop) (w : World) (μ : Nat → Option Value) (K : AV → Option α) (x : α) (s : Sem Value) : Prop :=
  ∃ av v, K av = some x ∧ RV ok w μ av v ∧ s.run P w = .ok v w

theorem intOp_sound {op : BinOp} {k : IntKind} {a b : Int} (h : intOp op k a b K = some x) (T : TypeId) (o1 o2 : Operand) (hs : isShift op = false) :
    Gives P ok w μ K x (do eqGuard op T o1 o2 (.int k a) (.int k b); binOp op T (.int k a) (.int k b)) := by
  cases op <;> simp only [isShift, Bool.true_eq_false] at hs <;> simp only [intOp] at h <;> first
    | (cases h; done)
    | (rcases cond_some h with ⟨_, h⟩ | ⟨hb, h⟩ <;> first | (cases h; done) | exact ⟨_, _, h, RV.mkInt _ _, by simp at hb; simp [eqGuard, binOp, Op.intDiv, hb]⟩)
    | exact ⟨_, _, h, RV.mkInt _ _, by simp [eqGuard, binOp, Op.intArith, Op.intBits]⟩
    | exact ⟨_, _, h, RV.mkBool _, by simp [eqGuard, binOp, Op.intCmp]⟩

theorem shiftOp_sound {op : BinOp} {k k' : IntKind} {a b : Int} (h : shiftOp op k a b K = some x) (T : TypeId) (o1 o2 : Operand) (hs : isShift op = true) :
    Gives P ok w μ K x (do eqGuard op T o1 o2 (.int k a) (.int k' b); binOp op T (.int k a) (.int k' b)) := by
  cases op <;> simp only [isShift, Bool.false_eq_true] at hs <;> simp only [shiftOp] at h <;>
    (rcases cond_some h with ⟨_, h⟩ | ⟨hb, h⟩ <;> first | (cases h; done) | exact ⟨_, _, h, RV.mkInt _ _, by simp at hb; simp [eqGuard, binOp, Op.shift, Int.not_lt.2 hb]⟩)

theorem strOp_sound {op : BinOp} {a b : ByteArray} (h : strOp op a b K = some x) (T : TypeId) (o1 o2 : Operand) :
    Gives P ok w μ K x (do eqGuard op T o1 o2 (.string a) (.string b); binOp op T (.string a) (.string b)) := by
  cases op <;> simp only [strOp] at h <;> first
    | (cases h; done)
    | (rcases cond_some h with ⟨hb, h⟩ | ⟨_, h⟩ <;> first | (cases h; done) | exact ⟨_, _, h, RV.mkStr _, by
        have hb' : ¬ (9223372036854775807 < (a.size + b.size : Int)) := by have := of_decide_eq_true hb; omega
        simp [eqGuard, binOp, Op.stringOp, IntKind.max, IntKind.signed, IntKind.bits, hb']⟩)
    | exact ⟨_, _, h, RV.mkBool _, by simp [eqGuard, binOp, Op.stringOp]⟩

end
end Gv
