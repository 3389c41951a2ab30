/- The operations that change nothing, all of them. -/
import Derived.Test.YtgkcdgbegkpmoaaGreatDoorGwEq
import Derived.Laws.Strings
namespace Gv
open Go
set_option linter.unusedVariables false
set_option linter.unusedSectionVars false
set_option linter.unusedSimpArgs false

section
variable [GlobI] {ok : Nat → Prop} {w : World} {μ : Nat → Option Value} {P : Program} {α : Type} {K : AV → Option α} {x : α} {σ : List Ob}

theorem run_eqGuard_bool (op : BinOp) (T : TypeId) (o1 o2 : Operand) (a b : Bool) : (eqGuard op T o1 o2 (.bool a) (.bool b)).run P w = .ok () w := by
  cases op <;> simp [eqGuard]

theorem run_eql_bool {T : TypeId} (hu : P.underlying T = some .bool) (a b : Bool) : (binOp .eql T (.bool a) (.bool b)).run P w = .ok (.bool (a == b)) w := by
  have e : (Op.equalIn 10000 T (.bool a) (.bool b)).run P w = .ok (a == b) w := run_equalIn_bool w 9999 T a b hu
  simp only [binOp]
  simp only [Sem.run_bind, Op.equal, Op.maxDepth, e, Result.andThen_ok, Sem.run_pure]

theorem run_neq_bool {T : TypeId} (hu : P.underlying T = some .bool) (a b : Bool) : (binOp .neq T (.bool a) (.bool b)).run P w = .ok (.bool (!(a == b))) w := by
  have e : (Op.equalIn 10000 T (.bool a) (.bool b)).run P w = .ok (a == b) w := run_equalIn_bool w 9999 T a b hu
  simp only [binOp]
  simp only [Sem.run_bind, Op.equal, Op.maxDepth, e, Result.andThen_ok, Sem.run_pure]

theorem binK_sound {T : TypeId} {op : BinOp} {X Y : AV} {vx vy : Value} (h : binK P T op X Y K = some x) (hx : RV ok w μ X vx) (hy : RV ok w μ Y vy) (o1 o2 : Operand) :
    Gives P ok w μ K x (do eqGuard op T o1 o2 vx vy; binOp op T vx vy) := by
  unfold binK at h
  split at h
  · have := hx.int; subst this
    have := hy.int; subst this
    split at h
    · rename_i hs; exact shiftOp_sound h T o1 o2 hs
    · rename_i hs
      split at h
      · rename_i hk
        have := beq_iff_eq.1 hk; subst this
        exact intOp_sound h T o1 o2 (by simpa using hs)
      · cases h
  · have := hx.bool; subst this
    have := hy.bool; subst this
    split at h
    · rename_i hu; exact ⟨_, _, h, RV.mkBool _, by simp only [Sem.run_bind, run_eqGuard_bool, Result.andThen_ok]; exact run_eql_bool hu _ _⟩
    · rename_i hu; exact ⟨_, _, h, RV.mkBool _, by simp only [Sem.run_bind, run_eqGuard_bool, Result.andThen_ok]; exact run_neq_bool hu _ _⟩
    · cases h
  · have := hx.str; subst this
    have := hy.str; subst this
    exact strOp_sound h T o1 o2
  · split at h
    · rename_i hT
      simp only [Bool.and_eq_true, Bool.not_eq_true'] at hT
      obtain ⟨cs, rfl, hx'⟩ := (by simpa only [RV] using hx : ∃ cs, vx = .agg cs ∧ RVL ok w μ _ cs.toList)
      obtain ⟨ds, rfl, hy'⟩ := (by simpa only [RV] using hy : ∃ cs, vy = .agg cs ∧ RVL ok w μ _ cs.toList)
      obtain ⟨c, hc, h⟩ := Option.bind_eq_some_iff.1 h
      have e := eqV_sound (P := P) 8 hc hx' hy' (D := 10000) (by omega)
      simp only [valOf, hT.1, if_true, Array.toArray_toList] at e
      have hg := fun op => run_eqGuard_agg (P := P) w op T o1 o2 cs ds hT.2
      split at h
      · exact ⟨_, _, h, RV.mkBool _, by simp only [Sem.run_bind, hg, Result.andThen_ok, run_eql_struct, e]⟩
      · exact ⟨_, _, h, RV.mkBool _, by simp only [Sem.run_bind, hg, Result.andThen_ok, run_neq_struct, e]⟩
      · cases h
    · cases h
  · cases h


theorem isNilI_spec {v : Value} (h : isNilI v = true) : v = .nilIface := by cases v <;> simp [isNilI] at h <;> rfl
theorem isIfT_spec {T : TypeId} (h : isIfT P T = true) : ∃ ms, P.underlying T = some (.interface ms) := by
  unfold isIfT at h
  split at h
  · rename_i ms hu; exact ⟨ms, hu⟩
  · cases h
theorem isSlT_spec {T : TypeId} (h : isSlT P T = true) : ∃ e, P.underlying T = some (.slice e) := by
  unfold isSlT at h
  split at h
  · rename_i ms hu; exact ⟨ms, hu⟩
  · cases h

theorem eqI1 (d : Nat) {T : TypeId} {ms} (hu : P.underlying T = some (.interface ms)) (t : TypeId) (u : Value) : (Op.equalIn (d + 1) T (.iface t u) .nilIface).run P w = .ok false w := by simp [Op.equalIn, run_underlying hu]
theorem eqI2 (d : Nat) {T : TypeId} {ms} (hu : P.underlying T = some (.interface ms)) (t : TypeId) (u : Value) : (Op.equalIn (d + 1) T .nilIface (.iface t u)).run P w = .ok false w := by simp [Op.equalIn, run_underlying hu]
theorem eqI3 (d : Nat) {T : TypeId} {ms} (hu : P.underlying T = some (.interface ms)) : (Op.equalIn (d + 1) T .nilIface .nilIface).run P w = .ok true w := by simp [Op.equalIn, run_underlying hu]
theorem eqS1 (d : Nat) {T e : TypeId} (hu : P.underlying T = some (.slice e)) (n c n' c' : Nat) : (Op.equalIn (d + 1) T (.slice none n c) (.slice none n' c')).run P w = .ok true w := by simp [Op.equalIn, run_underlying hu]
theorem eqS2 (d : Nat) {T e : TypeId} (hu : P.underlying T = some (.slice e)) (a : Addr) (n c n' c' : Nat) : (Op.equalIn (d + 1) T (.slice (some a) n c) (.slice none n' c')).run P w = .ok false w := by simp [Op.equalIn, run_underlying hu]

theorem run_cmp {T : TypeId} {vx vy : Value} {b : Bool} {op : BinOp} {K : AV → Option α} (h : cmpK op b K = some x) (o1 o2 : Operand) (hg : ∀ op, (eqGuard op T o1 o2 vx vy).run P w = .ok () w)
    (he : (Op.equalIn 10000 T vx vy).run P w = .ok b w) (hb : ∀ op : BinOp, op = .eql ∨ op = .neq → (binOp op T vx vy = match op with | .eql => (do pure (.bool (← Op.equal T vx vy))) | _ => (do pure (.bool (!(← Op.equal T vx vy)))))) :
    Gives P ok w μ K x (do eqGuard op T o1 o2 vx vy; binOp op T vx vy) := by
  cases op <;> simp only [cmpK] at h <;> try (cases h; done)
  · exact ⟨_, _, h, RV.mkBool _, by simp only [Sem.run_bind, hg, Result.andThen_ok]; rw [hb .eql (.inl rfl)]; simp only [Sem.run_bind, Op.equal, Op.maxDepth, he, Result.andThen_ok, Sem.run_pure]⟩
  · exact ⟨_, _, h, RV.mkBool _, by simp only [Sem.run_bind, hg, Result.andThen_ok]; rw [hb .neq (.inr rfl)]; simp only [Sem.run_bind, Op.equal, Op.maxDepth, he, Result.andThen_ok, Sem.run_pure]⟩

theorem spcK_sound {T : TypeId} {op : BinOp} {X Y : AV} {vx vy : Value} (o1 o2 : Operand) (h : spcK P T (isConstO o1 || isConstO o2) op X Y K = some x) (hx : RV ok w μ X vx) (hy : RV ok w μ Y vy) :
    Gives P ok w μ K x (do eqGuard op T o1 o2 vx vy; binOp op T vx vy) := by
  unfold spcK at h
  split at h
  · split at h
    · rename_i hc
      simp only [Bool.and_eq_true] at hc
      obtain ⟨ms, hu⟩ := isIfT_spec hc.2
      simp only [RV] at hx hy
      obtain ⟨u, rfl, _⟩ := hx
      obtain ⟨rfl, _⟩ := hy
      have := isNilI_spec hc.1; subst this
      refine run_cmp h o1 o2 (fun op => by cases op <;> simp [eqGuard]) ?_ (fun op ho => by rcases ho with rfl | rfl <;> rfl)
      exact eqI1 9999 hu _ _
    · cases h
  · split at h
    · rename_i hc
      simp only [Bool.and_eq_true] at hc
      obtain ⟨ms, hu⟩ := isIfT_spec hc.2
      simp only [RV] at hx hy
      obtain ⟨rfl, _⟩ := hx
      obtain ⟨u, rfl, _⟩ := hy
      have := isNilI_spec hc.1; subst this
      refine run_cmp h o1 o2 (fun op => by cases op <;> simp [eqGuard]) ?_ (fun op ho => by rcases ho with rfl | rfl <;> rfl)
      exact eqI2 9999 hu _ _
    · cases h
  · split at h
    · rename_i hc
      simp only [Bool.and_eq_true] at hc
      obtain ⟨h1, h2, h3, h4⟩ := hc
      obtain ⟨ms, hu⟩ := isIfT_spec h3
      simp only [RV] at hx hy
      obtain ⟨rfl, _⟩ := hx
      obtain ⟨rfl, _⟩ := hy
      have := isNilI_spec h1; subst this
      have := isNilI_spec h2; subst this
      refine run_cmp h o1 o2 (fun op => ?_) ?_ (fun op ho => by rcases ho with rfl | rfl <;> rfl)
      · have hl : (o1 matches .const _) = true ∨ (o2 matches .const _) = true := by
          rw [Bool.or_eq_true] at h4
          rcases h4 with h4 | h4
          · left; cases o1 <;> simp [isConstO] at h4 ⊢
          · right; cases o2 <;> simp [isConstO] at h4 ⊢
        cases op <;> simp [eqGuard]
        · cases o1 <;> cases o2 <;> simp at hl ⊢
        · cases o1 <;> cases o2 <;> simp at hl ⊢
      · exact eqI3 9999 hu
    · cases h
  · split at h
    · rename_i hc
      obtain ⟨e, hu⟩ := isSlT_spec hc
      simp only [RV] at hx hy
      subst hx hy
      refine run_cmp h o1 o2 (fun op => by cases op <;> simp [eqGuard]) ?_ (fun op ho => by rcases ho with rfl | rfl <;> rfl)
      exact eqS1 9999 hu _ _ _ _
    · cases h
  · split at h
    · rename_i e l hc
      obtain ⟨e', hu⟩ := isSlT_spec hc
      cases hl : decide (0 < l.length) with
      | false => rw [hl] at h; cases h
      | true =>
        rw [hl] at h
        simp only [cond_true] at h
        simp only [decide_eq_true_eq] at hl
        obtain ⟨a, c, rfl, _, hC⟩ := hx.sl
        simp only [RV] at hy
        subst hy
        rcases hC with hC | ⟨b, off, rfl, _⟩
        · rw [hC] at hl; simp at hl
        · refine run_cmp h o1 o2 (fun op => by cases op <;> simp [eqGuard]) ?_ (fun op ho => by rcases ho with rfl | rfl <;> rfl)
          exact eqS2 9999 hu _ _ _ _ _
    · cases h
  · cases h

end
end Gv
