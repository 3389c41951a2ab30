/- '==' of structs whose cells are all plain. -/
import Derived.Test.YtgkcdgbegkpmoaaGreatDoorGwOpN
namespace Gv
open Go
set_option linter.unusedVariables false
set_option linter.unusedSectionVars false
set_option linter.unusedSimpArgs false

section
variable [GlobI] {ok : Nat → Prop} {w : World} {μ : Nat → Option Value} {P : Program}

theorem run_isAgg {T : TypeId} {d : TypeDesc} (h : P.underlying T = some d) (w : World) : (isAgg T).run P w = .ok (aggT P T) w := by
  simp only [isAgg, Sem.run_bind, run_underlying h, Result.andThen_ok, aggT, h]
  cases d <;> simp

theorem run_sizeOf' {T : TypeId} {n : Nat} (h : szT P T = some n) (w : World) : (Go.sizeOf T).run P w = .ok n w := by
  unfold szT at h
  obtain ⟨i, hi, e⟩ := Option.bind_eq_some_iff.1 h
  simp only [Option.some.injEq] at e
  simp [Go.sizeOf, typeInfo, hi, e]

/-- The value of a type that lies in cells. -/
def valOf (P : Program) (T : TypeId) (cs : List Value) : Value := if aggT P T then .agg cs.toArray else cs.headD undef

theorem run_part {T : TypeId} {d : TypeDesc} {k : Nat} (hu : P.underlying T = some d) (hs : szT P T = some k) (cs : List Value) (off : Nat) (hl : off + k ≤ cs.length) (hk : 0 < k) (w : World) :
    (part T cs.toArray off).run P w = .ok (valOf P T ((cs.drop off).take k)) w := by
  have ht : List.take (off + k - off) (List.drop off cs) = List.take k (List.drop off cs) := by rw [show off + k - off = k by omega]
  have hget : cs[off]? = some (cs[off]'(by omega)) := List.getElem?_eq_getElem (by omega)
  simp only [part, Sem.run_bind, run_isAgg hu, Result.andThen_ok, valOf]
  cases aggT P T with
  | true => simp [run_sizeOf' hs, List.extract_eq_take_drop]
  | false =>
    simp only [Bool.false_eq_true, if_false, List.getElem?_toArray, hget, Sem.run_pure]
    congr 1
    obtain ⟨k, rfl⟩ : ∃ m, k = m + 1 := ⟨k - 1, by omega⟩
    rw [List.drop_eq_getElem_cons (by omega), List.take_succ_cons]
    rfl

theorem eqV_sound : ∀ (d : Nat) {T : TypeId} {A B : List AV} {c : Bool} {xs ys : List Value} {D : Nat}, eqV P d T A B = some c → RVL ok w μ A xs → RVL ok w μ B ys → d ≤ D →
    (Op.equalIn D T (valOf P T xs) (valOf P T ys)).run P w = .ok c w
  | 0, _, _, _, _, _, _, _, h, _, _, _ => by simp [eqV] at h
  | d + 1, T, A, B, c, xs, ys, D, h, hx, hy, hD => by
    obtain ⟨D, rfl⟩ : ∃ m, D = m + 1 := ⟨D - 1, by omega⟩
    simp only [eqV] at h
    split at h
    · rename_i k hu
      split at h
      · rename_i k1 n1 k2 n2
        obtain ⟨v1, _, rfl, g1, r1⟩ := RVL.cons_iff.1 hx
        obtain ⟨v2, _, rfl, g2, r2⟩ := RVL.cons_iff.1 hy
        have := g1.int; subst this
        have := g2.int; subst this
        split at h
        · rename_i hk
          have : k1 = k2 := by simpa using hk
          subst this
          simp only [Option.some.injEq] at h; subst h
          simp [valOf, aggT, hu, Op.equalIn, run_underlying hu]
        · cases h
      · cases h
    · rename_i hu
      split at h
      · obtain ⟨v1, _, rfl, g1, r1⟩ := RVL.cons_iff.1 hx
        obtain ⟨v2, _, rfl, g2, r2⟩ := RVL.cons_iff.1 hy
        have := g1.bool; subst this
        have := g2.bool; subst this
        simp only [Option.some.injEq] at h; subst h
        simp [valOf, aggT, hu, Op.equalIn, run_underlying hu]
      · cases h
    · rename_i hu
      split at h
      · obtain ⟨v1, _, rfl, g1, r1⟩ := RVL.cons_iff.1 hx
        obtain ⟨v2, _, rfl, g2, r2⟩ := RVL.cons_iff.1 hy
        have := g1.str; subst this
        have := g2.str; subst this
        simp only [Option.some.injEq] at h; subst h
        simp [valOf, aggT, hu, Op.equalIn, run_underlying hu, beq_toListBytes]
      · cases h
    · rename_i fs hu
      split at h
      · cases h
      · rename_i hst
        have hst' : P.stoodInHeld T = false := by simpa using hst
        have hf : P.fieldsOf T = fs := by simp [Program.fieldsOf, hu]
        have hv : ∀ cs, valOf P T cs = .agg cs.toArray := fun cs => by simp [valOf, aggT, hu]
        rw [hv, hv, run_equalIn_struct w D T _ _ (by rw [hf]; exact hu) hst', hf]
        have key : ∀ (fs : List Field) (n : Nat) (A B : List AV) (c : Bool), eqFs P (eqV P d) fs n A B = some c → RVL ok w μ A (xs.drop n) → RVL ok w μ B (ys.drop n) →
            (Op.eqFields D xs.toArray ys.toArray fs).run P w = .ok c w := by
          intro fs
          induction fs with
          | nil =>
            intro n A B c h _ _
            simp only [eqFs] at h
            split at h
            · cases h; simp [Op.eqFields]
            · cases h
          | cons f r ih =>
            intro n A B c h hA hB
            simp only [eqFs] at h
            split at h
            · rename_i hn
              simp only [Bool.and_eq_true, bne_iff_ne, ne_eq, beq_iff_eq] at hn
              obtain ⟨hn1, hn2⟩ := hn
              obtain ⟨k, hk, h⟩ := Option.bind_eq_some_iff.1 h
              split at h
              · rename_i hl
                simp only [Bool.and_eq_true, decide_eq_true_eq] at hl
                obtain ⟨c1, h1, h⟩ := Option.bind_eq_some_iff.1 h
                obtain ⟨c2, h2, h⟩ := Option.bind_eq_some_iff.1 h
                simp only [Option.some.injEq] at h; subst h
                obtain ⟨d', hd'⟩ : ∃ d', P.underlying f.type = some d' := by
                  cases d with
                  | zero => simp [eqV] at h1
                  | succ d => cases hq : P.underlying f.type with
                    | none => simp [eqV, hq] at h1
                    | some d' => exact ⟨d', rfl⟩
                have e1 := run_part (P := P) hd' hk xs n (by have := hA.len; simp at this; omega) hl.1.1 w
                have e2 := run_part (P := P) hd' hk ys n (by have := hB.len; simp at this; omega) hl.1.1 w
                have ih1 := eqV_sound d h1 (hA.take k) (hB.take k) (D := D) (by omega)
                have ih2 := ih (n + k) _ _ _ h2 (by simpa [List.drop_drop] using hA.drop k) (by simpa [List.drop_drop] using hB.drop k)
                simp only [Op.eqFields, ne_eq, hn1, not_false_eq_true, if_true, Sem.run_bind, hn2, e1, e2, ih1, Result.andThen_ok, Sem.run_ite, ih2, Sem.run_pure]
                cases c1 <;> simp
              · cases h
            · cases h
        exact key fs.toList 0 A B c h (by simpa using hx) (by simpa using hy)
    · cases h

end
end Gv
