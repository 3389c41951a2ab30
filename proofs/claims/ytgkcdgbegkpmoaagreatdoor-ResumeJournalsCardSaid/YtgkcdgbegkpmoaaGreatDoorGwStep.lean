/- How the relation is carried from step to step. -/
import Derived.Test.YtgkcdgbegkpmoaaGreatDoorGwObj
namespace Gv
open Go Go.RowKit
set_option linter.unusedVariables false
set_option linter.unusedSectionVars false

def upd (μ : Nat → Option Value) (t : Nat) (v : Value) : Nat → Option Value := fun s => if s = t then some v else μ s
theorem upd_same (μ : Nat → Option Value) (t : Nat) (v : Value) : upd μ t v t = some v := by simp [upd]
theorem upd_ne (μ : Nat → Option Value) {t s : Nat} (v : Value) (h : s ≠ t) : upd μ t v s = μ s := by simp [upd, h]

section
variable [GlobI] {E : Env} {avs : List AV} {σ : List Ob} {μ : Nat → Option Value} {vs : List Value} {w w' : World}

theorem Frm.below (h : Frm E w) (hw : Below w.heap.size w w') : Frm E w' :=
  ⟨hw.os.trans h.os, hw.tape.trans h.tape, hw.output.trans h.output, Nat.le_trans h.size hw.size, fun b hb hr => (hw.block b (Nat.lt_of_lt_of_le hb h.size)).trans (h.block b hb hr), h.glob⟩

/-- The laid variable, where a call begins. -/
theorem Frm.globAt (h : Frm E w) {Rb ok0 : Nat → Prop} (hR : ∀ b, Rb b → E.B.heap.size ≤ b ∨ E.Rb b) : ∀ c, GlobI.c = some c → 0 < (Env.mk w Rb ok0).B.heap.size ∧ ¬ (Env.mk w Rb ok0).Rb 0 ∧ (Env.mk w Rb ok0).B.cell? ⟨0, 0, none⟩ = some c := fun c hc => by
  obtain ⟨h1, h2, h3⟩ := h.glob c hc
  refine ⟨Nat.lt_of_lt_of_le h1 h.size, fun hb => ?_, ?_⟩
  · rcases hR 0 hb with q | q
    · omega
    · exact h2 q
  · rw [← h3]
    exact World.cell?_of_block (h.block 0 h1 h2)

theorem kp_below (hw : Below w.heap.size w w') : Kp (okN E σ μ w) (okN E σ μ w') w w' :=
  ⟨fun _ h => ⟨Nat.lt_of_lt_of_le h.1 hw.size, h.2.1, h.2.2⟩, fun b h => hw.block b h.1⟩

theorem ownB_lt (h : Rel E avs σ μ vs w) {t b : Nat} (ho : ownB σ μ t b) : b < w.heap.size := (h.own t b ho).1

theorem Rel.objsame (h : Rel E avs σ μ vs w) (hw : Below w.heap.size w w') {t : Nat} {o : Ob} (ht : σ[t]? = some o) (hg : o ≠ .gone) :
    ∀ v b, μ t = some v → blk v = some b → w'.heap[b]? = w.heap[b]? :=
  fun v b hv hb => hw.block b ((h.objs t o ht v hv).blk_lt hg hv hb)

/-- New blocks change nothing. -/
theorem Rel.below (h : Rel E avs σ μ vs w) (hw : Below w.heap.size w w') : Rel E avs σ μ vs w' where
  vals := h.vals.kp (kp_below hw) (fun _ _ e => e)
  objs t o ht u hu := by
    cases ho : o with
    | gone => trivial
    | box a b => rw [← ho]; exact (h.objs t o ht u hu).kp (kp_below hw) (fun _ _ e => e) (h.objsame hw ht (by simp [ho]))
    | row a b c d => rw [← ho]; exact (h.objs t o ht u hu).kp (kp_below hw) (fun _ _ e => e) (h.objsame hw ht (by simp [ho]))
  dist := h.dist
  own t b ho := ⟨Nat.lt_of_lt_of_le (h.own t b ho).1 hw.size, (h.own t b ho).2⟩
  dom := h.dom
  frm := h.frm.below hw

theorem ownB_append {o : Ob} {v : Value} (hd : ∀ t v, μ t = some v → t < σ.length) {t b : Nat} :
    ownB (σ ++ [o]) (upd μ σ.length v) t b ↔ ownB σ μ t b ∨ (t = σ.length ∧ isOwn o = true ∧ blk v = some b) := by
  constructor
  · rintro ⟨o', v', h1, h2, h3, h4⟩
    by_cases ht : t = σ.length
    · subst ht
      rw [upd_same] at h3; cases h3
      simp at h1; subst h1
      exact .inr ⟨rfl, h2, h4⟩
    · rw [upd_ne _ _ ht] at h3
      have := hd t v' h3
      rw [List.getElem?_append_left this] at h1
      exact .inl ⟨o', v', h1, h2, h3, h4⟩
  · rintro (⟨o', v', h1, h2, h3, h4⟩ | ⟨rfl, h2, h4⟩)
    · have := hd t v' h3
      exact ⟨o', v', by rw [List.getElem?_append_left this]; exact h1, h2, by rw [upd_ne _ _ (by omega)]; exact h3, h4⟩
    · exact ⟨o, v, by simp, h2, upd_same _ _ _, h4⟩

theorem kp_alloc {o : Ob} {v : Value} (hd : ∀ t v, μ t = some v → t < σ.length) (hw : Below w.heap.size w w') (hb : ∀ b, blk v = some b → isOwn o = true → w.heap.size ≤ b) :
    Kp (okN E σ μ w) (okN E (σ ++ [o]) (upd μ σ.length v) w') w w' :=
  ⟨fun b h => ⟨Nat.lt_of_lt_of_le h.1 hw.size, h.2.1, fun t ho => by
    rcases (ownB_append hd).1 ho with ho | ⟨_, h2, h4⟩
    · exact h.2.2 t ho
    · have := hb b h4 h2; have := h.1; omega⟩, fun b h => hw.block b h.1⟩

theorem upd_ext {v : Value} (hd : ∀ t v, μ t = some v → t < σ.length) : ∀ t u, μ t = some u → upd μ σ.length v t = some u := fun t u h => by
  have := hd t u h
  rw [upd_ne _ _ (by omega)]; exact h

/-- A new object, on new blocks. -/
theorem Rel.alloc (h : Rel E avs σ μ vs w) (hw : Below w.heap.size w w') (o : Ob) (v : Value)
    (hb : ∀ b, blk v = some b → isOwn o = true → w.heap.size ≤ b ∧ b < w'.heap.size)
    (ho : ObR (okN E (σ ++ [o]) (upd μ σ.length v) w') w' (upd μ σ.length v) σ.length o) : Rel E avs (σ ++ [o]) (upd μ σ.length v) vs w' := by
  have k := kp_alloc (E := E) (o := o) (v := v) h.dom hw (fun b h1 h2 => (hb b h1 h2).1)
  exact {
    vals := h.vals.kp k (upd_ext h.dom)
    objs := fun t o' ht u hu => by
      rcases Nat.lt_trichotomy t σ.length with hlt | rfl | hgt
      · rw [List.getElem?_append_left hlt] at ht
        rw [upd_ne _ _ (by omega)] at hu
        cases hc : o' with
        | gone => trivial
        | box a b => rw [← hc]; exact (h.objs t o' ht u hu).kp k (upd_ext h.dom) (h.objsame hw ht (by simp [hc]))
        | row a b c d => rw [← hc]; exact (h.objs t o' ht u hu).kp k (upd_ext h.dom) (h.objsame hw ht (by simp [hc]))
      · simp at ht; subst ht; exact ho
      · rw [List.getElem?_eq_none (by simp; omega)] at ht; cases ht
    dist := fun t t' b h1 h2 => by
      rcases (ownB_append h.dom).1 h1 with h1 | ⟨e1, i1, b1⟩ <;> rcases (ownB_append h.dom).1 h2 with h2 | ⟨e2, i2, b2⟩
      · exact h.dist t t' b h1 h2
      · have := (h.own t b h1).1; have := (hb b b2 i2).1; omega
      · have := (h.own t' b h2).1; have := (hb b b1 i1).1; omega
      · omega
    own := fun t b h1 => by
      rcases (ownB_append h.dom).1 h1 with h1 | ⟨_, i1, b1⟩
      · exact ⟨Nat.lt_of_lt_of_le (h.own t b h1).1 hw.size, (h.own t b h1).2⟩
      · have q := hb b b1 i1; have := h.frm.size; exact ⟨q.2, .inl (by omega)⟩
    dom := fun t u hu => by
      simp only [upd] at hu
      split at hu
      · subst t; simp
      · have := h.dom t u hu; simp; omega
    frm := h.frm.below hw }

theorem RVL.set {ok : Nat → Prop} {l : List AV} {vs : List Value} (h : RVL ok w μ l vs) {i : Nat} {a : AV} {v : Value} (hv : RV ok w μ a v) : RVL ok w μ (l.set i a) (vs.set i v) := by
  induction l generalizing vs i with
  | nil => simp only [RVL] at h; subst h; simp [RVL]
  | cons x l ih =>
    obtain ⟨u, r, rfl, h1, h2⟩ := RVL.cons_iff.1 h
    cases i with
    | zero => exact RVL.cons' hv h2
    | succ i => exact RVL.cons' h1 (ih h2)

theorem Rel.set (h : Rel E avs σ μ vs w) {i : Nat} {a : AV} {v : Value} (hv : RV (okN E σ μ w) w μ a v) : Rel E (avs.set i a) σ μ (vs.set i v) w :=
  { h with vals := h.vals.set hv }

/-- One own object is written: its block alone turns. -/
theorem ownB_set {o o' : Ob} {t : Nat} (ht : σ[t]? = some o) (hi : isOwn o' = isOwn o) {s b : Nat} : ownB (σ.set t o') μ s b ↔ ownB σ μ s b := by
  have hlt : t < σ.length := by
    rcases Nat.lt_or_ge t σ.length with h | h
    · exact h
    · rw [List.getElem?_eq_none h] at ht; cases ht
  constructor
  · rintro ⟨x, v, h1, h2, h3, h4⟩
    by_cases e : s = t
    · subst e; rw [List.getElem?_set_self hlt] at h1; cases h1; exact ⟨o, v, ht, hi ▸ h2, h3, h4⟩
    · rw [List.getElem?_set_ne (Ne.symm e)] at h1; exact ⟨x, v, h1, h2, h3, h4⟩
  · rintro ⟨x, v, h1, h2, h3, h4⟩
    by_cases e : s = t
    · subst e; rw [ht] at h1; cases h1; exact ⟨o', v, List.getElem?_set_self hlt, hi.trans h2, h3, h4⟩
    · exact ⟨x, v, by rw [List.getElem?_set_ne (Ne.symm e)]; exact h1, h2, h3, h4⟩

theorem Frm.write (h : Frm E w) {b0 : Nat} (hb : E.B.heap.size ≤ b0 ∨ E.Rb b0) (ho : w'.os = w.os) (ht : w'.tape = w.tape) (hp : w'.output = w.output) (hs : w'.heap.size = w.heap.size)
    (hk : ∀ k, k ≠ b0 → w'.heap[k]? = w.heap[k]?) : Frm E w' :=
  ⟨ho.trans h.os, ht.trans h.tape, hp.trans h.output, by rw [hs]; exact h.size, fun b h1 h2 => by
    rw [hk b (by rintro rfl; rcases hb with hb | hb; omega; exact h2 hb)]
    exact h.block b h1 h2, h.glob⟩

theorem Rel.write (h : Rel E avs σ μ vs w) {t b0 : Nat} {o o' : Ob} (ht : σ[t]? = some o) (hi : isOwn o = true) (hi' : isOwn o' = true) (hown : ownB σ μ t b0)
    (ho : w'.os = w.os) (hta : w'.tape = w.tape) (hp : w'.output = w.output) (hs : w'.heap.size = w.heap.size) (hk : ∀ k, k ≠ b0 → w'.heap[k]? = w.heap[k]?)
    (hob : Kp (okN E σ μ w) (okN E (σ.set t o') μ w') w w' → ObR (okN E (σ.set t o') μ w') w' μ t o') : Rel E avs (σ.set t o') μ vs w' := by
  have hlt : t < σ.length := by
    rcases Nat.lt_or_ge t σ.length with h | h
    · exact h
    · rw [List.getElem?_eq_none h] at ht; cases ht
  have hiff : ∀ s b, ownB (σ.set t o') μ s b ↔ ownB σ μ s b := fun s b => ownB_set ht (hi'.trans hi.symm)
  have k : Kp (okN E σ μ w) (okN E (σ.set t o') μ w') w w' := ⟨fun b hb => ⟨by rw [hs]; exact hb.1, hb.2.1, fun s hs => hb.2.2 s ((hiff s b).1 hs)⟩, fun b hb => hk b (by rintro rfl; exact hb.2.2 t hown)⟩
  exact {
    vals := h.vals.kp k (fun _ _ e => e)
    objs := fun s x hx u hu => by
      by_cases e : s = t
      · subst e; rw [List.getElem?_set_self hlt] at hx; cases hx; exact hob k
      · rw [List.getElem?_set_ne (Ne.symm e)] at hx
        have key : ∀ v b, μ s = some v → blk v = some b → x ≠ .gone → w'.heap[b]? = w.heap[b]? := by
          intro v b hv hb hg
          refine hk b ?_
          rintro rfl
          by_cases hox : isOwn x = true
          · exact e (h.dist s t b ⟨x, v, hx, hox, hv, hb⟩ hown)
          · have hok : okN E σ μ w b := by
              have := h.objs s x hx u hu
              cases x with
              | gone => exact absurd rfl hg
              | box own cells => obtain ⟨b', vs', T, h1, h2, h3, h4⟩ := this; rw [hv] at h1; cases h1; simp [blk] at hb; subst hb; exact h4 (by simpa [isOwn] using hox)
              | row own T e' l => obtain ⟨v', h1, h2, h3⟩ := this; rw [hv] at h1; cases h1; exact h3 (by simpa [isOwn] using hox) b hb
            exact hok.2.2 t hown
        cases hc : x with
        | gone => trivial
        | box a b => rw [← hc]; exact (h.objs s x hx u hu).kp k (fun _ _ e => e) (fun v b hv hb => key v b hv hb (by simp [hc]))
        | row a b c d => rw [← hc]; exact (h.objs s x hx u hu).kp k (fun _ _ e => e) (fun v b hv hb => key v b hv hb (by simp [hc]))
    dist := fun s s' b h1 h2 => h.dist s s' b ((hiff s b).1 h1) ((hiff s' b).1 h2)
    own := fun s b h1 => by rw [hs]; exact h.own s b ((hiff s b).1 h1)
    dom := fun s v hv => by rw [List.length_set]; exact h.dom s v hv
    frm := h.frm.write (h.own t b0 hown).2 ho hta hp hs hk }

theorem freeze_len (σ : List Ob) (l : List Nat) : (freeze σ l).length = σ.length := by
  induction l generalizing σ with
  | nil => rfl
  | cons t r ih => simp [freeze, ih]

theorem frz_own (o : Ob) : isOwn (frz o) = false := by cases o <;> rfl

/-- One token is read alone from now on. -/
theorem Rel.frz1 (h : Rel E avs σ μ vs w) (t : Nat) : Rel E avs (σ.modify t frz) μ vs w := by
  have hsub : ∀ s b, ownB (σ.modify t frz) μ s b → ownB σ μ s b ∧ s ≠ t := by
    rintro s b ⟨x, v, h1, h2, h3, h4⟩
    rw [List.getElem?_modify] at h1
    by_cases e : t = s
    · subst e
      simp only [if_true] at h1
      cases hx : σ[t]? with
      | none => rw [hx] at h1; cases h1
      | some y => rw [hx] at h1; simp at h1; subst h1; rw [frz_own] at h2; cases h2
    · simp only [e, if_false, id_map'] at h1
      exact ⟨⟨x, v, by simpa using h1, h2, h3, h4⟩, Ne.symm e⟩
  have k : Kp (okN E σ μ w) (okN E (σ.modify t frz) μ w) w w := ⟨fun b hb => ⟨hb.1, hb.2.1, fun s hs => hb.2.2 s (hsub s b hs).1⟩, fun _ _ => rfl⟩
  exact {
    vals := h.vals.kp k (fun _ _ e => e)
    objs := fun s x hx u hu => by
      rw [List.getElem?_modify] at hx
      by_cases e : t = s
      · subst e
        simp only [if_true] at hx
        cases hy : σ[t]? with
        | none => rw [hy] at hx; cases hx
        | some y =>
          rw [hy] at hx; simp at hx; subst hx
          have ho := h.objs t y hy u hu
          have hok : ∀ v b, y ≠ .gone → μ t = some v → blk v = some b → okN E (σ.modify t frz) μ w b := by
            intro v b hg hv hb
            by_cases hi : isOwn y = true
            · have hown : ownB σ μ t b := ⟨y, v, hy, hi, hv, hb⟩
              refine ⟨(h.own t b hown).1, .inr (h.own t b hown).2, fun s hs => ?_⟩
              obtain ⟨h1, h2⟩ := hsub s b hs
              exact h2 (h.dist s t b h1 hown)
            · have : okN E σ μ w b := by
                cases y with
                | gone => exact absurd rfl hg
                | box own cells => obtain ⟨b', vs', T, h1, h2, h3, h4⟩ := ho; rw [hv] at h1; cases h1; simp [blk] at hb; subst hb; exact h4 (by simpa [isOwn] using hi)
                | row own T e' l => obtain ⟨v', h1, h2, h3⟩ := ho; rw [hv] at h1; cases h1; exact h3 (by simpa [isOwn] using hi) b hb
              exact k.imp b this
          cases y with
          | gone => trivial
          | box own cells => obtain ⟨b', vs', T, h1, h2, h3, h4⟩ := ho; exact ⟨b', vs', T, h1, h2, h3.kp k (fun _ _ e => e), fun _ => hok _ _ (by simp) h1 rfl⟩
          | row own T e' l => obtain ⟨v', h1, h2, h3⟩ := ho; exact ⟨v', h1, h2.kp k (fun _ _ => rfl), fun _ b hb => hok _ _ (by simp) h1 hb⟩
      · simp only [e, if_false] at hx
        have hx' : σ[s]? = some x := by simpa using hx
        exact (h.objs s x hx' u hu).kp k (fun _ _ e => e) (fun _ _ _ _ => rfl)
    dist := fun s s' b h1 h2 => h.dist s s' b (hsub s b h1).1 (hsub s' b h2).1
    own := fun s b h1 => h.own s b (hsub s b h1).1
    dom := fun s v hv => by rw [List.length_modify]; exact h.dom s v hv
    frm := h.frm }

theorem Rel.freeze (h : Rel E avs σ μ vs w) (l : List Nat) : Rel E avs (Gv.freeze σ l) μ vs w := by
  induction l generalizing σ with
  | nil => exact h
  | cons t r ih => exact ih (h.frz1 t)

end
end Gv
