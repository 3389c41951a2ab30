/- The operations that change nothing, all of them. -/
import Derived.Test.YtgkcdgbegkpmoaaGvEq
import Derived.Laws.Strings
namespace Gv
open Go
set_option linter.unusedVariables false
set_option linter.unusedSimpArgs false

section
variable {ok : Nat → Prop} {w : World} {μ : Nat → Option Value} {P : Program} {α : Type} {K : AV → Option α} {x : α} {σ : List Ob}

theorem run_eqGuard_bool (op : BinOp) (T : TypeId) (o1 o2 : Operand) (a b : Bool) : (eqGuard op T o1 o2 (.bool a) (.bool b)).run P w = .ok () w := by
  cases op <;> simp [eqGuard]

theorem run_eql_bool {T : TypeId} (hu : P.underlying T = some .bool) (a b : Bool) : (binOp .eql T (.bool a) (.bool b)).run P w = .ok (.bool (a == b)) w := by
  have e : (Op.equalIn 10000 T (.bool a) (.bool b)).run P w = .ok (a == b) w := run_equalIn_bool w 9999 T a b hu
  simp only [binOp]
  simp only [Sem.run_bind, Op.equal, Op.maxDepth, e, Result.andThen_ok, Sem.run_pure]

theorem run_neq_bool {T : TypeId} (hu : P.underlying T = some .bool) (a b : Bool) : (binOp .neq T (.bool a) (.bool b)).run P w = .ok (.bool (!(a == b))) w := by
  have e : (Op.equalIn 10000 T (.bool a) (.bool b)).run P w = .ok (a == b) w := run_equalIn_bool w 9999 T a b hu
  simp only [binOp]
  simp only [Sem.run_bind, Op.equal, Op.maxDepth, e, Result.andThen_ok, Sem.run_pure]

theorem binK_sound {T : TypeId} {op : BinOp} {X Y : AV} {vx vy : Value} (h : binK P T op X Y K = some x) (hx : RV ok w μ X vx) (hy : RV ok w μ Y vy) (o1 o2 : Operand) :
    Gives P ok w μ K x (do eqGuard op T o1 o2 vx vy; binOp op T vx vy) := by
  unfold binK at h
  split at h
  · have := hx.int; subst this
    have := hy.int; subst this
    split at h
    · rename_i hs; exact shiftOp_sound h T o1 o2 hs
    · rename_i hs
      split at h
      · rename_i hk
        have := beq_iff_eq.1 hk; subst this
        exact intOp_sound h T o1 o2 (by simpa using hs)
      · cases h
  · have := hx.bool; subst this
    have := hy.bool; subst this
    split at h
    · rename_i hu; exact ⟨_, _, h, RV.mkBool _, by simp only [Sem.run_bind, run_eqGuard_bool, Result.andThen_ok]; exact run_eql_bool hu _ _⟩
    · rename_i hu; exact ⟨_, _, h, RV.mkBool _, by simp only [Sem.run_bind, run_eqGuard_bool, Result.andThen_ok]; exact run_neq_bool hu _ _⟩
    · cases h
  · have := hx.str; subst this
    have := hy.str; subst this
    exact strOp_sound h T o1 o2
  · split at h
    · rename_i hT
      simp only [Bool.and_eq_true, Bool.not_eq_true'] at hT
      obtain ⟨cs, rfl, hx'⟩ := (by simpa only [RV] using hx : ∃ cs, vx = .agg cs ∧ RVL ok w μ _ cs.toList)
      obtain ⟨ds, rfl, hy'⟩ := (by simpa only [RV] using hy : ∃ cs, vy = .agg cs ∧ RVL ok w μ _ cs.toList)
      obtain ⟨c, hc, h⟩ := Option.bind_eq_some_iff.1 h
      have e := eqV_sound (P := P) 8 hc hx' hy' (D := 10000) (by omega)
      simp only [valOf, hT.1, if_true, Array.toArray_toList] at e
      have hg := fun op => run_eqGuard_agg (P := P) w op T o1 o2 cs ds hT.2
      split at h
      · exact ⟨_, _, h, RV.mkBool _, by simp only [Sem.run_bind, hg, Result.andThen_ok, run_eql_struct, e]⟩
      · exact ⟨_, _, h, RV.mkBool _, by simp only [Sem.run_bind, hg, Result.andThen_ok, run_neq_struct, e]⟩
      · cases h
    · cases h
  · cases h

end
end Gv
