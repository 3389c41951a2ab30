/- A state as a signature sees it: the objects, the theorem. -/
import Derived.Test.YtgkcdgbegkpmoaaGreatDoorGwSig
namespace Gv
open Go Go.RowKit
set_option linter.unusedVariables false
set_option linter.unusedSectionVars false
set_option linter.unusedSimpArgs false

section
variable [GlobI] {E : Env} {slots : List AV} {σ : List Ob} {μ μ' : Nat → Option Value} {vs : List Value} {w w' : World} {ok ok' : Nat → Prop} {P : Program}

/-- What the objects that a signature names are: their tokens, their values. -/
structure Named (vs : List Value) (srcs : List Src) (μ : Nat → Option Value) (m : List (Option Nat)) (us : List Value) : Prop where
  len : us.length = m.length
  tok : ∀ (j t : Nat), m[j]? = some (some t) → ∃ u, us[j]? = some u ∧ μ t = some u
  non : ∀ j : Nat, m[j]? = some none → us[j]? = some (.slice none 0 0)
  dis : ∀ j j' t : Nat, m[j]? = some (some t) → m[j']? = some (some t) → j = j'
  src : ∀ j i : Nat, j < m.length → srcs[j]? = some (.slot i) → vs[i]? = us[j]?

def TokV (μ : Nat → Option Value) (v : Value) : Option Nat → Prop
  | some t => μ t = some v
  | none => v = .slice none 0 0

theorem tokOf_rv {a : AV} {v : Value} {k : Option Nat} (h : tokOf a = some k) (hv : RV ok w μ a v) : TokV μ v k := by
  cases a <;> simp only [tokOf] at h <;> try (cases h; done)
  case nil => cases h; simpa only [RV, TokV] using hv
  case box t off =>
    cases off with
    | zero => simp only [tokOf, Option.some.injEq] at h; subst h; simp only [RV] at hv; obtain ⟨b, h1, rfl⟩ := hv; exact h1
    | succ n => simp [tokOf] at h
  case row t => cases h; simp only [RV] at hv; exact hv.1

theorem resolve_named (hv : RVL ok w μ slots vs) (hob : ∀ t ob, σ[t]? = some ob → ∀ v, μ t = some v → ObR ok w μ t ob) (all : List Src) :
    ∀ (srcs : List Src) {m m' : List (Option Nat)} {us : List Value}, resolve slots σ srcs m = some m' → all.drop m.length = srcs → Named vs all μ m us → ∃ us', m'.length = m.length + srcs.length ∧ Named vs all μ m' us'
  | [], m, m', us, h, _, hn => by simp only [resolve, Option.some.injEq] at h; subst h; exact ⟨us, by simp, hn⟩
  | s :: srcs, m, m', us, h, hd, hn => by
    simp only [resolve] at h
    obtain ⟨k, h1, h⟩ := Option.bind_eq_some_iff.1 h
    have hs : all[m.length]? = some s := by
      have : (all.drop m.length)[0]? = some s := by rw [hd]; rfl
      simpa using this
    cases hf : fresh m k with
    | false => rw [hf] at h; cases h
    | true =>
      rw [hf] at h
      simp only [cond_true] at h
      have key : ∃ u, TokV μ u k ∧ ∀ i, s = .slot i → vs[i]? = some u := by
        cases s with
        | slot i =>
          simp only [srcTok] at h1
          rcases Nat.lt_or_ge i slots.length with hi | hi
          · obtain ⟨v, g1, g2⟩ := hv.get i _ (getD_of_lt (d := .any) hi)
            exact ⟨v, tokOf_rv h1 g2, fun i' e => by cases e; exact g1⟩
          · rw [List.getD_eq_getElem?_getD, List.getElem?_eq_none hi] at h1; simp [tokOf] at h1
        | cell j c =>
          simp only [srcTok] at h1
          split at h1
          · rename_i t hm
            split at h1
            · rename_i cells ht
              have hmj : m[j]? = some (some t) := by
                simp only [List.getD_eq_getElem?_getD] at hm
                cases hx : m[j]? with
                | none => rw [hx] at hm; cases hm
                | some y => rw [hx] at hm; simp at hm; rw [hm]
              obtain ⟨u, _, hμ⟩ := hn.tok j t hmj
              obtain ⟨b, cs, T, g1, g2, g3, g4⟩ := hob t _ ht _ hμ
              rcases Nat.lt_or_ge c cells.length with hc | hc
              · obtain ⟨v, e1, e2⟩ := g3.get c _ (getD_of_lt (d := .any) hc)
                exact ⟨v, tokOf_rv h1 e2, fun i e => by cases e⟩
              · rw [List.getD_eq_getElem?_getD, List.getElem?_eq_none hc] at h1; simp [tokOf] at h1
            · cases h1
          · cases h1
      obtain ⟨u, hu, hsl⟩ := key
      have hul := hn.len
      have hn' : Named vs all μ (m ++ [k]) (us ++ [u]) := by
        refine ⟨by simp [hul], fun j t hj => ?_, fun j hj => ?_, fun j j' t hj hj' => ?_, fun j i hj hsr => ?_⟩
        · rcases Nat.lt_or_ge j m.length with hlt | hge
          · rw [List.getElem?_append_left hlt] at hj
            rw [List.getElem?_append_left (by omega)]
            exact hn.tok j t hj
          · rw [List.getElem?_append_right hge] at hj
            cases hz : j - m.length with
            | zero => rw [hz] at hj; simp at hj; subst hj; rw [List.getElem?_append_right (by omega), hul, hz]; exact ⟨u, rfl, hu⟩
            | succ n => rw [hz] at hj; simp at hj
        · rcases Nat.lt_or_ge j m.length with hlt | hge
          · rw [List.getElem?_append_left hlt] at hj
            rw [List.getElem?_append_left (by omega)]
            exact hn.non j hj
          · rw [List.getElem?_append_right hge] at hj
            cases hz : j - m.length with
            | zero => rw [hz] at hj; simp at hj; subst hj; rw [List.getElem?_append_right (by omega), hul, hz]; simp only [TokV] at hu; rw [hu]; rfl
            | succ n => rw [hz] at hj; simp at hj
        · have nf : ∀ i : Nat, m[i]? = some (some t) → k = some t → False := by
            intro i hi hk
            subst hk
            simp only [fresh, List.all_eq_true] at hf
            have := hf _ (List.mem_of_getElem? hi)
            simp at this
          have last : ∀ i : Nat, m.length ≤ i → (m ++ [k])[i]? = some (some t) → i = m.length ∧ k = some t := by
            intro i hge hi
            rw [List.getElem?_append_right hge] at hi
            cases hz : i - m.length with
            | zero => rw [hz] at hi; simp at hi; exact ⟨by omega, hi⟩
            | succ n => rw [hz] at hi; simp at hi
          rcases Nat.lt_or_ge j m.length with h1 | h1 <;> rcases Nat.lt_or_ge j' m.length with h2 | h2
          · rw [List.getElem?_append_left h1] at hj; rw [List.getElem?_append_left h2] at hj'; exact hn.dis j j' t hj hj'
          · rw [List.getElem?_append_left h1] at hj; exact (nf j hj (last j' h2 hj').2).elim
          · rw [List.getElem?_append_left h2] at hj'; exact (nf j' hj' (last j h1 hj).2).elim
          · rw [(last j h1 hj).1, (last j' h2 hj').1]
        · simp only [List.length_append, List.length_singleton] at hj
          rcases Nat.lt_or_ge j m.length with hlt | hge
          · rw [List.getElem?_append_left (by omega)]
            exact hn.src j i hlt hsr
          · have : j = m.length := by omega
            subst this
            rw [hs] at hsr; cases hsr
            rw [List.getElem?_append_right (by omega), hul]
            simpa using hsl i rfl
      have hd' : all.drop (m ++ [k]).length = srcs := by
        rw [List.length_append, List.length_singleton, ← List.drop_drop, hd]; rfl
      obtain ⟨us', e1, e2⟩ := resolve_named hv hob all srcs h hd' hn'
      exact ⟨us', by rw [e1]; simp; omega, e2⟩

/-- An object as it is handed on. -/
def OptR (ok : Nat → Prop) (w : World) (μ : Nat → Option Value) (u : Value) : Option Ob → Prop
  | some (.box true cells) => ∃ b vs T, u = .pointer (some ⟨b, 0, none⟩) ∧ w.heap[b]? = some (.cells vs T (0, 0)) ∧ RVL ok w μ cells vs.toList
  | some (.row true T e l) => RowV ok w T e u l
  | none => u = .slice none 0 0
  | _ => True

theorem getO_put {m : List (Option Nat)} {ren : List Nat} (hr : Ren m ren μ μ') : ∀ (f : Form) {xs : List (Option Ob)} {a : f.V} {us : List Value}, getO m f xs = some a → us.length = xs.length →
    (∀ (i : Nat) x u, xs[i]? = some x → us[i]? = some u → OptR ok w μ u x) → (putO ren f a).length = xs.length ∧ ∀ (i : Nat) o u, (putO ren f a)[i]? = some o → us[i]? = some u → isOwn o = true ∧ OptR ok w μ' u (some o) := by
  intro f
  induction f with
  | obox l ih =>
    intro xs a us h hl hx
    rcases xs with _ | ⟨x, _ | ⟨y, r⟩⟩
    · simp [getO] at h
    · match x, h, hx with
      | some (.box true cells), h, hx =>
        simp only [getO] at h
        refine ⟨by simp [putO], fun i o u hi hu => ?_⟩
        cases i with
        | zero =>
          simp only [putO, List.getElem?_cons_zero, Option.some.injEq] at hi
          subst hi
          obtain ⟨b, vs, T, h1, h2, h3⟩ := hx 0 _ u rfl hu
          exact ⟨rfl, b, vs, T, h1, h2, getF_put hr l h h3⟩
        | succ i => simp [putO] at hi
      | some (.box false cells), h, _ => simp [getO] at h
      | some (.row o T e l), h, _ => simp [getO] at h
      | some .gone, h, _ => simp [getO] at h
      | none, h, _ => simp [getO] at h
    · rcases x with _ | ⟨⟨_ | _⟩ | _ | _⟩ <;> simp [getO] at h
  | orow T e =>
    intro xs a us h hl hx
    rcases xs with _ | ⟨x, _ | ⟨y, r⟩⟩
    · simp [getO] at h
    · match x, h, hx with
      | some (.row true U e' l), h, hx =>
        simp only [getO] at h
        split at h
        · rename_i hT
          split at h
          · rename_i he
            simp only [beq_iff_eq] at hT; subst hT; subst he
            simp only [castT, Option.some.injEq] at h
            subst h
            refine ⟨by simp [putO], fun i o u hi hu => ?_⟩
            cases i with
            | zero =>
              simp only [putO, List.getElem?_cons_zero, Option.some.injEq] at hi
              subst hi
              exact ⟨rfl, hx 0 _ u rfl hu⟩
            | succ i => simp [putO] at hi
          · cases h
        · cases h
      | none, h, hx =>
        simp only [getO, Option.some.injEq] at h
        subst h
        refine ⟨by simp [putO], fun i o u hi hu => ?_⟩
        cases i with
        | zero =>
          simp only [putO, List.getElem?_cons_zero, Option.some.injEq] at hi
          subst hi
          have := hx 0 _ u rfl hu
          simp only [OptR] at this
          subst this
          exact ⟨rfl, none, 0, rfl, .inl ⟨rfl, rfl⟩⟩
        | succ i => simp [putO] at hi
      | some (.row false T e l), h, _ => simp [getO] at h
      | some (.box o l), h, _ => simp [getO] at h
      | some .gone, h, _ => simp [getO] at h
    · rcases x with _ | ⟨_ | ⟨_ | _⟩ | _⟩ <;> simp [getO] at h
  | nilL =>
    intro xs a us h hl hx
    rcases xs with _ | ⟨x, r⟩
    · exact ⟨by simp [putO], fun i o u hi => by simp [putO] at hi⟩
    · simp [getO] at h
  | cons f g ih1 ih2 =>
    intro xs a us h hl hx
    rcases xs with _ | ⟨x, r⟩
    · simp [getO] at h
    · simp only [getO] at h
      obtain ⟨y, h1, h⟩ := Option.bind_eq_some_iff.1 h
      obtain ⟨z, h2, h⟩ := Option.bind_eq_some_iff.1 h
      simp only [Option.some.injEq] at h; subst h
      rcases us with _ | ⟨u, us⟩
      · simp at hl
      obtain ⟨l1, k1⟩ := ih1 (us := [u]) h1 rfl (fun i x' u' hi hu => by
        cases i with
        | zero => simp at hi hu; subst hi hu; exact hx 0 _ _ rfl rfl
        | succ i => simp at hi)
      obtain ⟨l2, k2⟩ := ih2 (us := us) h2 (by simpa using hl) (fun i x' u' hi hu => hx (i + 1) x' u' (by simpa using hi) (by simpa using hu))
      simp only [List.length_singleton] at l1
      refine ⟨by simp only [putO, List.length_append, l1, l2, List.length_cons]; omega, fun i o u' hi hu => ?_⟩
      simp only [putO] at hi
      cases i with
      | zero =>
        rw [List.getElem?_append_left (by omega)] at hi
        exact k1 0 o u' hi hu
      | succ i =>
        rw [List.getElem?_append_right (by omega), l1] at hi
        exact k2 i o u' (by simpa using hi) (by simpa using hu)
  | _ =>
    intro xs a us h hl hx
    rcases xs with _ | ⟨x, _ | ⟨y, r⟩⟩ <;> simp [getO] at h

theorem prepO_sound (hob : ∀ t ob, σ[t]? = some ob → ∀ v, μ t = some v → ObR ok w μ t ob) : ∀ (f : Form) {xs ys : List (Option Ob)} {us : List Value}, prepO σ f xs = some ys →
    (∀ t ∈ readToksO σ f xs, ∀ ob, σ[t]? = some ob → ob ≠ .gone → ∀ v b, μ t = some v → blk v = some b → ok b) → (∀ (i : Nat) x u, xs[i]? = some x → us[i]? = some u → OptR ok w μ u x) →
    ys.length = xs.length ∧ ∀ (i : Nat) x u, ys[i]? = some x → us[i]? = some u → OptR ok w μ u x
  | .nilL, [], ys, us, h, _, hx => by simp only [prepO, Option.some.injEq] at h; subst h; exact ⟨rfl, hx⟩
  | .nilL, _ :: _, ys, us, h, _, hv => by simp [prepO] at h
  | .cons f g, [], ys, us, h, _, hv => by cases f <;> simp [prepO] at h
  | .cons f g, x :: xs, ys, us, h, hf, hx => by
    have hx' : ∀ (i : Nat) x' u, xs[i]? = some x' → us.tail[i]? = some u → OptR ok w μ u x' := fun i x' u hi hu => hx (i + 1) x' u (by simpa using hi) (by simpa using hu)
    have gen : ((prepO σ g xs).bind fun r => some (x :: r)) = some ys → (∀ t ∈ readToksO σ g xs, ∀ ob, σ[t]? = some ob → ob ≠ .gone → ∀ v b, μ t = some v → blk v = some b → ok b) →
        ys.length = (x :: xs).length ∧ ∀ (i : Nat) x u, ys[i]? = some x → us[i]? = some u → OptR ok w μ u x := by
      intro h hf
      obtain ⟨r, h2, h⟩ := Option.bind_eq_some_iff.1 h
      simp only [Option.some.injEq] at h; subst h
      obtain ⟨e1, e2⟩ := prepO_sound hob g h2 hf hx'
      refine ⟨by simp [e1], fun i x' u hi hu => ?_⟩
      cases i with
      | zero => simp at hi; subst hi; exact hx 0 _ u rfl hu
      | succ i => exact e2 i x' u (by simpa using hi) (by simpa using hu)
    match f, x, h, hf, gen with
    | .obox l, some (.box true cells), h, hf, _ =>
      simp only [prepO, readToksO] at h hf
      obtain ⟨cs, h1, h⟩ := Option.bind_eq_some_iff.1 h
      obtain ⟨r, h2, h⟩ := Option.bind_eq_some_iff.1 h
      simp only [Option.some.injEq] at h; subst h
      obtain ⟨e1, e2⟩ := prepO_sound hob g h2 (fun t ht => hf t (List.mem_append_right _ ht)) hx'
      refine ⟨by simp [e1], fun i x' u hi hu => ?_⟩
      cases i with
      | zero =>
        simp at hi; subst hi
        obtain ⟨b, vs, T, k1, k2, k3⟩ := hx 0 _ u rfl hu
        exact ⟨b, vs, T, k1, k2, prep_sound hob l h1 (fun t ht => hf t (List.mem_append_left _ ht)) k3⟩
      | succ i => exact e2 i x' u (by simpa using hi) (by simpa using hu)
    | .obox l, some (.box false cells), h, hf, gen => simp only [prepO, readToksO] at h hf; exact gen h hf
    | .obox l, some (.row o T e r), h, hf, gen => simp only [prepO, readToksO] at h hf; exact gen h hf
    | .obox l, some .gone, h, hf, gen => simp only [prepO, readToksO] at h hf; exact gen h hf
    | .obox l, none, h, hf, gen => simp only [prepO, readToksO] at h hf; exact gen h hf
    | .v _, x, h, hf, gen | .agg _, x, h, hf, gen | .tup _, x, h, hf, gen | .cp _, x, h, hf, gen | .fn _ _, x, h, hf, gen | .ifc _ _, x, h, hf, gen | .boxr _ _, x, h, hf, gen | .rowr _, x, h, hf, gen
    | .nili, x, h, hf, gen | .any, x, h, hf, gen | .orow _ _, x, h, hf, gen | .nilL, x, h, hf, gen | .cons _ _, x, h, hf, gen => simp only [prepO, readToksO] at h hf; exact gen h hf
  | .v _, _, _, _, h, _, _ | .agg _, _, _, _, h, _, _ | .tup _, _, _, _, h, _, _ | .cp _, _, _, _, h, _, _ | .fn _ _, _, _, _, h, _, _ | .ifc _ _, _, _, _, h, _, _ | .boxr _ _, _, _, _, h, _, _ | .rowr _, _, _, _, h, _, _
  | .nili, _, _, _, h, _, _ | .any, _, _, _, h, _, _ | .obox _, _, _, _, h, _, _ | .orow _ _, _, _, _, h, _, _ => by simp [prepO] at h

end
end Gv
