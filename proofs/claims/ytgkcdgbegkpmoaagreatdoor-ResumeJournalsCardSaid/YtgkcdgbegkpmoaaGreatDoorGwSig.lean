/- A state as a signature sees it. -/
import Derived.Test.YtgkcdgbegkpmoaaGreatDoorGwApp2
namespace Gv
open Go Go.RowKit
set_option linter.unusedVariables false
set_option linter.unusedSectionVars false
set_option linter.unusedSimpArgs false

section
variable [GlobI] {E : Env} {slots : List AV} {σ : List Ob} {μ μ' : Nat → Option Value} {vs : List Value} {w w' : World} {ok ok' : Nat → Prop} {P : Program}

theorem RVL.setSame {l : List AV} {vs : List Value} (h : RVL ok w μ l vs) {i : Nat} {a : AV} (ha : ∀ v, vs[i]? = some v → RV ok w μ a v) : RVL ok w μ (l.set i a) vs := by
  induction l generalizing vs i with
  | nil => simpa using h
  | cons b l ih =>
    obtain ⟨v, r, rfl, h1, h2⟩ := RVL.cons_iff.1 h
    cases i with
    | zero => exact RVL.cons' (ha v rfl) h2
    | succ i => exact RVL.cons' h1 (ih h2 (fun u hu => ha u (by simpa using hu)))

theorem RVL.anys : ∀ (vs : List Value), RVL ok w μ (List.replicate vs.length .any) vs
  | [] => by simp [RVL]
  | v :: vs => by rw [List.length_cons, List.replicate_succ]; exact RVL.cons' trivial (RVL.anys vs)

theorem setAll_rvl : ∀ {idx : List Nat} {xs l : List AV} {us vs : List Value}, RVL ok w μ l vs → RVL ok w μ xs us → (∀ (k i : Nat) (u v : Value), idx[k]? = some i → us[k]? = some u → vs[i]? = some v → u = v) → RVL ok w μ (setAll idx xs l) vs
  | [], _, _, _, _, h, _, _ => by simpa [setAll] using h
  | i :: idx, [], _, _, _, h, _, _ => by simpa [setAll] using h
  | i :: idx, x :: xs, l, us, vs, h, h1, h2 => by
    obtain ⟨u, us, rfl, g1, g2⟩ := RVL.cons_iff.1 h1
    simp only [setAll]
    refine setAll_rvl (h.setSame (fun v hv => ?_)) g2 (fun k j u' v' hk hu hv => h2 (k + 1) j u' v' (by simpa using hk) (by simpa using hu) hv)
    have := h2 0 i u v rfl rfl hv
    subst this; exact g1

/-- What the form takes and gives: values in the tokens of the one side, in those of the other. -/
structure Ren (m : List (Option Nat)) (ren : List Nat) (μ μ' : Nat → Option Value) : Prop where
  tok : ∀ (j t : Nat) v, m[j]? = some (some t) → μ t = some v → μ' (ren.getD j 0) = some v
  non : ∀ j : Nat, m[j]? = some none → μ' (ren.getD j 0) = some (.slice none 0 0)

theorem getF_put {m : List (Option Nat)} {ren : List Nat} (hr : Ren m ren μ μ') : ∀ (f : Form) {as : List AV} {x : f.V} {vs : List Value}, getF m f as = some x → RVL ok w μ as vs → RVL ok w μ' (putF ren f x) vs := by
  have one : ∀ {a : AV} {vs : List Value}, RVL ok w μ [a] vs → ∃ v, vs = [v] ∧ RV ok w μ a v := by
    intro a vs h
    obtain ⟨v, r, rfl, h1, h2⟩ := RVL.cons_iff.1 h
    simp only [RVL] at h2; subst h2
    exact ⟨v, rfl, h1⟩
  have mk1 : ∀ {a : AV} {v : Value}, RV ok w μ' a v → RVL ok w μ' [a] [v] := fun h => RVL.cons' h (RVL.nil_iff.2 rfl)
  intro f
  induction f with
  | v s =>
    intro as x vs h hv
    rcases as with _ | ⟨a, _ | ⟨b, r⟩⟩
    · simp [getF] at h
    · simp only [getF] at h
      obtain ⟨v, rfl, hK⟩ := one hv
      refine mk1 ?_
      simp only [RV]
      exact asDat_rv h hK
    · simp [getF] at h
  | agg l ih =>
    intro as x vs h hv
    rcases as with _ | ⟨a, _ | ⟨b, r⟩⟩
    · simp [getF] at h
    · cases a <;> simp only [getF] at h <;> try (cases h; done)
      obtain ⟨v, rfl, hK⟩ := one hv
      refine mk1 ?_
      simp only [RV] at hK ⊢
      obtain ⟨cs, rfl, hQ⟩ := hK
      exact ⟨cs, rfl, ih h hQ⟩
    · cases a <;> simp [getF] at h
  | tup l ih =>
    intro as x vs h hv
    rcases as with _ | ⟨a, _ | ⟨b, r⟩⟩
    · simp [getF] at h
    · cases a <;> simp only [getF] at h <;> try (cases h; done)
      obtain ⟨v, rfl, hK⟩ := one hv
      refine mk1 ?_
      simp only [RV] at hK ⊢
      obtain ⟨cs, rfl, hQ⟩ := hK
      exact ⟨cs, rfl, ih h hQ⟩
    · cases a <;> simp [getF] at h
  | cp l ih =>
    intro as x vs h hv
    rcases as with _ | ⟨a, _ | ⟨b, r⟩⟩
    · simp [getF] at h
    · cases a <;> simp only [getF] at h <;> try (cases h; done)
      obtain ⟨v, rfl, hK⟩ := one hv
      refine mk1 ?_
      simp only [RV] at hK ⊢
      obtain ⟨b, off, cs, rfl, hb, hc, hQ⟩ := hK
      exact ⟨b, off, cs, rfl, hb, hc, ih h hQ⟩
    · cases a <;> simp [getF] at h
  | fn f l ih =>
    intro as x vs h hv
    rcases as with _ | ⟨a, _ | ⟨b, r⟩⟩
    · simp [getF] at h
    · cases a <;> simp only [getF] at h <;> try (cases h; done)
      split at h
      · rename_i hf
        simp only [beq_iff_eq] at hf; subst hf
        obtain ⟨v, rfl, hK⟩ := one hv
        refine mk1 ?_
        simp only [RV] at hK ⊢
        obtain ⟨cs, rfl, hQ⟩ := hK
        exact ⟨cs, rfl, ih h hQ⟩
      · cases h
    · cases a <;> simp [getF] at h
  | ifc T y ih =>
    intro as x vs h hv
    rcases as with _ | ⟨a, _ | ⟨b, r⟩⟩
    · simp [getF] at h
    · cases a <;> simp only [getF] at h <;> try (cases h; done)
      split at h
      · rename_i hf
        simp only [beq_iff_eq] at hf; subst hf
        obtain ⟨v, rfl, hK⟩ := one hv
        refine mk1 ?_
        simp only [RV] at hK ⊢
        obtain ⟨u, rfl, hQ⟩ := hK
        refine ⟨u, rfl, ?_⟩
        have := ih h (RVL.cons' hQ (RVL.nil_iff.2 rfl))
        cases hp : putF ren y x with
        | nil => trivial
        | cons b r =>
          rw [hp] at this
          obtain ⟨u', r', e, g, _⟩ := RVL.cons_iff.1 this
          simp only [List.cons.injEq] at e
          obtain ⟨rfl, _⟩ := e
          exact g
      · cases h
    · cases a <;> simp [getF] at h
  | boxr j off =>
    intro as x vs h hv
    rcases as with _ | ⟨a, _ | ⟨b, r⟩⟩
    · simp [getF] at h
    · cases a <;> simp only [getF] at h <;> try (cases h; done)
      split at h
      · rename_i t o hf
        simp only [Bool.and_eq_true, beq_iff_eq] at hf
        obtain ⟨hf, rfl⟩ := hf
        obtain ⟨v, rfl, hK⟩ := one hv
        refine mk1 ?_
        simp only [RV] at hK ⊢
        obtain ⟨b, hb, rfl⟩ := hK
        refine ⟨b, hr.tok j t _ ?_ hb, rfl⟩
        simp only [List.getD_eq_getElem?_getD] at hf
        cases hm : m[j]? with
        | none => rw [hm] at hf; cases hf
        | some y => rw [hm] at hf; simp at hf; rw [hf]
      · cases h
    · cases a <;> simp [getF] at h
  | rowr j =>
    intro as x vs h hv
    rcases as with _ | ⟨a, _ | ⟨b, r⟩⟩
    · simp [getF] at h
    · cases a <;> simp only [getF] at h <;> try (cases h; done)
      · split at h
        · rename_i hf
          obtain ⟨v, rfl, hK⟩ := one hv
          refine mk1 ?_
          simp only [RV] at hK ⊢
          subst hK
          refine ⟨hr.non j ?_, _, _, _, rfl⟩
          simp only [beq_iff_eq, List.getD_eq_getElem?_getD] at hf
          cases hm : m[j]? with
          | none => rw [hm] at hf; cases hf
          | some y => rw [hm] at hf; simp at hf; rw [hf]
        · cases h
      · split at h
        · rename_i t hf
          obtain ⟨v, rfl, hK⟩ := one hv
          refine mk1 ?_
          simp only [RV] at hK ⊢
          refine ⟨hr.tok j t _ ?_ hK.1, hK.2⟩
          simp only [beq_iff_eq, List.getD_eq_getElem?_getD] at hf
          cases hm : m[j]? with
          | none => rw [hm] at hf; cases hf
          | some y => rw [hm] at hf; simp at hf; rw [hf]
        · cases h
    · cases a <;> simp [getF] at h
  | any =>
    intro as x vs h hv
    rcases as with _ | ⟨a, _ | ⟨b, r⟩⟩
    · simp [getF] at h
    · obtain ⟨v, rfl, hK⟩ := one hv
      exact mk1 trivial
    · cases a <;> simp [getF] at h
  | nili =>
    intro as x vs h hv
    rcases as with _ | ⟨a, _ | ⟨b, r⟩⟩
    · simp [getF] at h
    · cases a <;> simp only [getF] at h <;> try (cases h; done)
      split at h
      · rename_i hn
        obtain ⟨v, rfl, hK⟩ := one hv
        simp only [RV] at hK
        obtain ⟨rfl, _⟩ := hK
        have hvn : v = .nilIface := by cases v <;> simp [isNilI] at hn <;> rfl
        subst hvn
        exact mk1 (by simp [RV])
      · cases h
    · cases a <;> simp [getF] at h
  | obox l ih =>
    intro as x vs h hv
    rcases as with _ | ⟨a, _ | ⟨b, r⟩⟩ <;> simp [getF] at h
  | orow T e =>
    intro as x vs h hv
    rcases as with _ | ⟨a, _ | ⟨b, r⟩⟩ <;> simp [getF] at h
  | nilL =>
    intro as x vs h hv
    rcases as with _ | ⟨a, _ | ⟨b, r⟩⟩
    · simp only [RVL] at hv; subst hv; simp [putF, RVL]
    · cases a <;> simp [getF] at h
    · cases a <;> simp [getF] at h
  | cons f g ih1 ih2 =>
    intro as x vs h hv
    rcases as with _ | ⟨a, r⟩
    · simp [getF] at h
    · simp only [getF] at h
      obtain ⟨y, h1, h⟩ := Option.bind_eq_some_iff.1 h
      obtain ⟨z, h2, h⟩ := Option.bind_eq_some_iff.1 h
      simp only [Option.some.injEq] at h; subst h
      obtain ⟨v, vs, rfl, g1, g2⟩ := RVL.cons_iff.1 hv
      have e1 := ih1 h1 (RVL.cons' g1 (RVL.nil_iff.2 rfl))
      have e2 := ih2 h2 g2
      exact e1.append e2

/-- Rows read as data, where the form says so. -/
theorem prep_sound (hob : ∀ t ob, σ[t]? = some ob → ∀ v, μ t = some v → ObR ok w μ t ob) : ∀ (f : Form) {xs ys : List AV} {vs : List Value}, prep σ f xs = some ys →
    (∀ t ∈ readToks σ f xs, ∀ ob, σ[t]? = some ob → ob ≠ .gone → ∀ v b, μ t = some v → blk v = some b → ok b) → RVL ok w μ xs vs → RVL ok w μ ys vs
  | .nilL, [], ys, vs, h, _, hv => by simp only [prep, Option.some.injEq] at h; subst h; exact hv
  | .nilL, _ :: _, ys, vs, h, _, hv => by simp [prep] at h
  | .cons f g, [], ys, vs, h, _, hv => by cases f <;> simp [prep] at h
  | .cons f g, x :: xs, ys, vs, h, hf, hv => by
    obtain ⟨v, vs, rfl, g1, g2⟩ := RVL.cons_iff.1 hv
    have gen : ((closeRd σ 6 x).bind fun y => (prep σ g xs).bind fun r => some (y :: r)) = some ys → (∀ t ∈ ownToks σ 6 x ++ readToks σ g xs, ∀ ob, σ[t]? = some ob → ob ≠ .gone → ∀ v b, μ t = some v → blk v = some b → ok b) → RVL ok w μ ys (v :: vs) := by
      intro h hf
      obtain ⟨y, h1, h⟩ := Option.bind_eq_some_iff.1 h
      obtain ⟨r, h2, h⟩ := Option.bind_eq_some_iff.1 h
      simp only [Option.some.injEq] at h; subst h
      exact RVL.cons' (closeRd_sound hob 6 h1 (fun t ht => hf t (List.mem_append_left _ ht)) g1) (prep_sound hob g h2 (fun t ht => hf t (List.mem_append_right _ ht)) g2)
    have ref : ((prep σ g xs).bind fun r => some (x :: r)) = some ys → (∀ t ∈ readToks σ g xs, ∀ ob, σ[t]? = some ob → ob ≠ .gone → ∀ v b, μ t = some v → blk v = some b → ok b) → RVL ok w μ ys (v :: vs) := by
      intro h hf
      obtain ⟨r, h2, h⟩ := Option.bind_eq_some_iff.1 h
      simp only [Option.some.injEq] at h; subst h
      exact RVL.cons' g1 (prep_sound hob g h2 hf g2)
    cases f <;> simp only [prep, readToks] at h hf <;> first | exact gen h hf | exact ref h hf
  | .v _, _, _, _, h, _, _ | .agg _, _, _, _, h, _, _ | .tup _, _, _, _, h, _, _ | .cp _, _, _, _, h, _, _ | .fn _ _, _, _, _, h, _, _ | .ifc _ _, _, _, _, h, _, _ | .boxr _ _, _, _, _, h, _, _ | .rowr _, _, _, _, h, _, _
  | .nili, _, _, _, h, _, _ | .any, _, _, _, h, _, _ | .obox _, _, _, _, h, _, _ | .orow _ _, _, _, _, h, _, _ => by simp [prep] at h

end
end Gv
