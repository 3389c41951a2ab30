/- append: a row of the call's own that grows. -/
import Derived.Test.YtgkcdgbegkpmoaaGreatDoorGwOpM
namespace Gv
open Go Go.RowKit
set_option linter.unusedVariables false
set_option linter.unusedSectionVars false
set_option linter.unusedSimpArgs false

section
variable [GlobI] {E : Env} {avs : List AV} {σ : List Ob} {μ μ' : Nat → Option Value} {vs : List Value} {w w' : World} {ok ok' : Nat → Prop} {α : Type} {x : α} {P : Program}

/-- A value without a token: what it said it says still. -/
theorem invA_rv (k : Kp ok ok' w w') {t : Nat} (m : ∀ s u, s ≠ t → μ s = some u → μ' s = some u) : ∀ (d : Nat) {a : AV} {v : Value}, RV ok w μ a v → RV ok' w' μ' (invA t d a) v
  | 0, _, _, _ => trivial
  | d + 1, a, v, h => by
    have many : ∀ {l : List AV} {vs : List Value}, RVL ok w μ l vs → RVL ok' w' μ' (l.map (invA t d)) vs := by
      intro l
      induction l with
      | nil => intro vs h; exact h
      | cons b l ih =>
        intro vs h
        obtain ⟨v, r, rfl, h1, h2⟩ := RVL.cons_iff.1 h
        exact RVL.cons' (invA_rv k m d h1) (ih h2)
    cases a with
    | any => trivial
    | dat s x => simp only [invA, RV] at h ⊢; exact Sh.C_kp k h
    | nil => simp only [invA, RV] at h ⊢; exact h
    | cst c => simp only [invA, RV] at h ⊢; exact h
    | agg l => simp only [invA, RV] at h ⊢; obtain ⟨cs, e, h⟩ := h; exact ⟨cs, e, many h⟩
    | tup l => simp only [invA, RV] at h ⊢; obtain ⟨cs, e, h⟩ := h; exact ⟨cs, e, many h⟩
    | fn f l => simp only [invA, RV] at h ⊢; obtain ⟨cs, e, h⟩ := h; exact ⟨cs, e, many h⟩
    | ifc T b => simp only [invA, RV] at h ⊢; obtain ⟨y, e, h⟩ := h; exact ⟨y, e, invA_rv k m d h⟩
    | cptr l => simp only [invA, RV] at h ⊢; obtain ⟨b, off, cs, e, hb, hc, h⟩ := h; exact ⟨b, off, cs, e, k.imp b hb, hc.kp (k.same b hb), many h⟩
    | box s off =>
      simp only [invA]
      split
      · trivial
      · rename_i hne
        simp only [RV] at h ⊢
        obtain ⟨b, hm, e⟩ := h
        exact ⟨b, m s _ (by simpa using hne) hm, e⟩
    | row s =>
      simp only [invA]
      split
      · trivial
      · rename_i hne
        simp only [RV] at h ⊢
        exact ⟨m s _ (by simpa using hne) h.1, h.2⟩
    | rptr s i sz off =>
      simp only [invA]
      split
      · trivial
      · rename_i hne
        simp only [RV] at h ⊢
        obtain ⟨b, n, c, hm, e⟩ := h
        exact ⟨b, n, c, m s _ (by simpa using hne) hm, e⟩

theorem invA_rvl (k : Kp ok ok' w w') {t : Nat} (m : ∀ s u, s ≠ t → μ s = some u → μ' s = some u) (d : Nat) : ∀ {l : List AV} {vs : List Value}, RVL ok w μ l vs → RVL ok' w' μ' (l.map (invA t d)) vs
  | [], vs, h => h
  | b :: l, vs, h => by
    obtain ⟨v, r, rfl, h1, h2⟩ := RVL.cons_iff.1 h
    exact RVL.cons' (invA_rv k m d h1) (invA_rvl k m d h2)

theorem invO_own (t : Nat) (o : Ob) : isOwn (invO t o) = isOwn o := by cases o <;> rfl

/-- An object of another token. -/
theorem invO_ob (k : Kp ok ok' w w') {t s : Nat} (hs : s ≠ t) (m : ∀ s u, s ≠ t → μ s = some u → μ' s = some u) {o : Ob} (hb : ∀ v b, μ s = some v → blk v = some b → w'.heap[b]? = w.heap[b]?) (h : ObR ok w μ s o) :
    ObR ok' w' μ' s (invO t o) := by
  cases o with
  | gone => trivial
  | box own cells =>
    obtain ⟨b, vs, T, h1, h2, h3, h4⟩ := h
    exact ⟨b, vs, T, m s _ hs h1, (hb _ b h1 rfl).trans h2, invA_rvl k m 6 h3, fun e => k.imp b (h4 e)⟩
  | row own T e l =>
    obtain ⟨v, h1, h2, h3⟩ := h
    exact ⟨v, m s _ hs h1, h2.kp k (fun b hb' => hb v b h1 hb'), fun e b hb' => k.imp b (h3 e b hb')⟩

/-- What a write of one token's block, or a new block in its place, leaves. -/
structure Redone (w w' : World) (v v' : Value) : Prop where
  os : w'.os = w.os
  tape : w'.tape = w.tape
  output : w'.output = w.output
  size : w.heap.size ≤ w'.heap.size
  block : ∀ k, k < w.heap.size → blk v ≠ some k → w'.heap[k]? = w.heap[k]?
  new : ∀ b, blk v' = some b → blk v = some b ∨ (w.heap.size ≤ b ∧ b < w'.heap.size)

/-- One own token has another value and another content from now on. -/
theorem Rel.redo (h : Rel E avs σ μ vs w) {t : Nat} {o o' : Ob} {v v' : Value} (ht : σ[t]? = some o) (hi : isOwn o = true) (hi' : isOwn o' = true) (hm : μ t = some v) (hw : Redone w w' v v')
    (hob : Kp (okN E σ μ w) (okN E ((σ.map (invO t)).set t o') (upd μ t v') w') w w' → ObR (okN E ((σ.map (invO t)).set t o') (upd μ t v') w') w' (upd μ t v') t o') :
    Rel E (avs.map (invA t 6)) ((σ.map (invO t)).set t o') (upd μ t v') vs w' ∧ Kp (okN E σ μ w) (okN E ((σ.map (invO t)).set t o') (upd μ t v') w') w w' := by
  have hlt : t < σ.length := by
    rcases Nat.lt_or_ge t σ.length with h | h
    · exact h
    · rw [List.getElem?_eq_none h] at ht; cases ht
  have hlt' : t < (σ.map (invO t)).length := by simpa using hlt
  have hv : ∀ b, blk v = some b → ownB σ μ t b := fun b hb => ⟨o, v, ht, hi, hm, hb⟩
  have hsub : ∀ s b, ownB ((σ.map (invO t)).set t o') (upd μ t v') s b → (s ≠ t ∧ ownB σ μ s b) ∨ (s = t ∧ blk v' = some b) := by
    rintro s b ⟨y, u, h1, h2, h3, h4⟩
    by_cases e : s = t
    · subst e; rw [upd_same] at h3; cases h3; exact .inr ⟨rfl, h4⟩
    · rw [List.getElem?_set_ne (Ne.symm e), List.getElem?_map] at h1
      obtain ⟨z, hz, rfl⟩ := Option.map_eq_some_iff.1 h1
      rw [upd_ne _ _ e] at h3
      exact .inl ⟨e, z, u, hz, by rw [← invO_own t]; exact h2, h3, h4⟩
  have k : Kp (okN E σ μ w) (okN E ((σ.map (invO t)).set t o') (upd μ t v') w') w w' := by
    refine ⟨fun b hb => ⟨Nat.lt_of_lt_of_le hb.1 hw.size, hb.2.1, fun s hs => ?_⟩, fun b hb => hw.block b hb.1 (fun e => hb.2.2 t (hv b e))⟩
    rcases hsub s b hs with ⟨_, h1⟩ | ⟨_, h1⟩
    · exact hb.2.2 s h1
    · rcases hw.new b h1 with h2 | h2
      · exact hb.2.2 t (hv b h2)
      · have := hb.1; omega
  have m : ∀ s u, s ≠ t → μ s = some u → upd μ t v' s = some u := fun s u hs hu => by rw [upd_ne _ _ hs]; exact hu
  refine ⟨{
    vals := invA_rvl k m 6 h.vals
    objs := fun s y hy u0 hu0 => by
      by_cases e : s = t
      · subst e; rw [List.getElem?_set_self hlt'] at hy; cases hy; exact hob k
      · rw [List.getElem?_set_ne (Ne.symm e), List.getElem?_map] at hy
        obtain ⟨z, hz, rfl⟩ := Option.map_eq_some_iff.1 hy
        by_cases hg : z = .gone
        · subst hg; trivial
        · rw [upd_ne _ _ e] at hu0
          refine invO_ob k e m (fun u b hu hb => ?_) (h.objs s z hz u0 hu0)
          have hblt := (h.objs s z hz u0 hu0).blk_lt hg hu hb
          refine hw.block b hblt (fun e2 => ?_)
          by_cases hoz : isOwn z = true
          · exact e (h.dist s t b ⟨z, u, hz, hoz, hu, hb⟩ (hv b e2))
          · exact ((h.objs s z hz u0 hu0).frozen_ok (by simpa using hoz) hg hu hb).2.2 t (hv b e2)
    dist := fun s s' b h1 h2 => by
      rcases hsub s b h1 with ⟨n1, g1⟩ | ⟨rfl, g1⟩ <;> rcases hsub s' b h2 with ⟨n2, g2⟩ | ⟨rfl, g2⟩
      · exact h.dist s s' b g1 g2
      · rcases hw.new b g2 with g | g
        · exact h.dist s _ b g1 (hv b g)
        · have := (h.own s b g1).1; omega
      · rcases hw.new b g1 with g | g
        · exact (h.dist s' _ b g2 (hv b g)).symm
        · have := (h.own s' b g2).1; omega
      · rfl
    own := fun s b h1 => by
      rcases hsub s b h1 with ⟨_, g1⟩ | ⟨_, g1⟩
      · exact ⟨Nat.lt_of_lt_of_le (h.own s b g1).1 hw.size, (h.own s b g1).2⟩
      · rcases hw.new b g1 with g | g
        · exact ⟨Nat.lt_of_lt_of_le (h.own t b (hv b g)).1 hw.size, (h.own t b (hv b g)).2⟩
        · have := h.frm.size; exact ⟨g.2, .inl (by omega)⟩
    dom := fun s u hu => by
      rw [List.length_set, List.length_map]
      by_cases e : s = t
      · subst e; exact hlt
      · rw [upd_ne _ _ e] at hu; exact h.dom s u hu
    frm := ⟨hw.os.trans h.frm.os, hw.tape.trans h.frm.tape, hw.output.trans h.frm.output, Nat.le_trans h.frm.size hw.size, fun b h1 h2 => by
      have hb : b < w.heap.size := Nat.lt_of_lt_of_le h1 h.frm.size
      rw [hw.block b hb (fun e => by rcases (h.own t b (hv b e)).2 with g | g; omega; exact h2 g)]
      exact h.frm.block b h1 h2, h.frm.glob⟩ }, k⟩

end
end Gv
