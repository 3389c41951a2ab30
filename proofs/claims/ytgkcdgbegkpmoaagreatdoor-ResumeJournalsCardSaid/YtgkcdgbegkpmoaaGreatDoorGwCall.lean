/- A call by contract. -/
import Derived.Test.YtgkcdgbegkpmoaaGreatDoorGwOp1
namespace Gv
open Go Go.RowKit
set_option linter.unusedVariables false
set_option linter.unusedSectionVars false
set_option linter.unusedSimpArgs false

section
variable [GlobI] {E : Env} {avs : List AV} {slots : List AV} {σ : List Ob} {μ μ' : Nat → Option Value} {vs : List Value} {w w' : World} {ok ok' : Nat → Prop} {α : Type} {x : α} {P : Program}

theorem Sig.put_n (s : Sig) (x : s.V) : (s.put x).slots.length = s.n := by
  have sl : ∀ (idx : List Nat) (xs l : List AV), (setAll idx xs l).length = l.length := by
    intro idx
    induction idx with
    | nil => intro xs l; simp [setAll]
    | cons i idx ih =>
      intro xs l
      cases xs with
      | nil => simp [setAll]
      | cons x xs => simp only [setAll]; rw [ih]; simp
  simp only [Sig.put]; rw [sl]; simp

theorem lenIs_spec {β : Type} : ∀ {l : List β} {n : Nat}, lenIs l n = true → l.length = n
  | [], 0, _ => rfl
  | _ :: l, n + 1, h => by simp only [lenIs] at h; simp [lenIs_spec h]
  | [], n + 1, h => by simp [lenIs] at h
  | _ :: _, 0, h => by simp [lenIs] at h

/-- The caller's world behind a call: nothing of what was there has turned. -/
theorem frm_below {Rb ok0 : Nat → Prop} (h : Frm ⟨w, Rb, ok0⟩ w') (hR : ∀ b, ¬ Rb b) : Below w.heap.size w w' :=
  ⟨h.os, h.tape, h.output, h.size, fun b hb => h.block b hb (hR b)⟩

theorem plain_hd (ren : List Nat) : ∀ (f : Form) (x : f.V) (a : AV) (r : List AV) (v : Value), plainF f = true → putF ren f x = a :: r → RV ok w μ a v → RV ok w μ' a v := by
  intro f
  induction f with
  | cons f g ih1 ih2 =>
    intro x a r v hp h hv
    simp only [plainF, Bool.and_eq_true] at hp
    simp only [putF] at h
    cases hq : putF ren f x.1 with
    | nil => rw [hq] at h; exact ih2 x.2 a r v hp.2 h hv
    | cons b r' => rw [hq] at h; simp only [List.cons_append, List.cons.injEq] at h; obtain ⟨rfl, _⟩ := h; exact ih1 x.1 b r' v hp.1 hq hv
  | nilL => intro x a r v _ h; simp [putF] at h
  | obox l ih => intro x a r v hp; simp [plainF] at hp
  | orow T e => intro x a r v hp; simp [plainF] at hp
  | _ =>
    intro x a r v hp h hv
    have hr : r = [] := by simp only [putF, List.cons.injEq] at h; exact h.2.symm
    subst hr
    have := plain_rv (ok := ok) (w := w) (μ := μ) (μ' := μ') ren _ x [v] hp (by rw [h]; exact RVL.cons' hv (RVL.nil_iff.2 rfl))
    rw [h] at this
    obtain ⟨v', r', e, g, _⟩ := RVL.cons_iff.1 this
    simp only [List.cons.injEq] at e
    obtain ⟨rfl, _⟩ := e
    exact g

/-- What a call needs, what it gives. -/
structure CallP (N : EntP) (st : St) (avs : List AV) (K : AV → St → Option α) (x : α) (rd : List Nat) (z : N.A.V) (y : N.Y) : Prop where
  get : N.A.getM avs st.σ = some ([], rd, z)
  val : N.f z = some y
  srcs : N.R.srcs = []
  plain : plainF N.R.vals = true
  idx : N.R.idx = [0]
  n : N.R.n = 1
  len : avs.length = N.A.n
  cont : K ((putF [] N.R.vals (N.mkR y).2).headD .any) ⟨st.slots, if scal 6 ((putF [] N.R.vals (N.mkR y).2).headD .any) then st.σ else freeze st.σ rd⟩ = some x

theorem callE1_spec {N : EntP} {st : St} {avs : List AV} {K : AV → St → Option α} (h : callE1 N st avs K = some x) : ∃ rd z y, CallP N st avs K x rd z y := by
  unfold callE1 at h
  split at h
  · rename_i hc
    simp only [Bool.and_eq_true, List.isEmpty_iff, beq_iff_eq] at hc
    obtain ⟨h1, h2, h3, h4, h5, h6⟩ := hc
    obtain ⟨⟨m, rd, z⟩, g1, h⟩ := Option.bind_eq_some_iff.1 h
    obtain ⟨y, g2, h⟩ := Option.bind_eq_some_iff.1 h
    have hm : m = [] := by
      have := g1
      simp only [Sig.getM, h1, resolve, Option.bind_some] at this
      split at this
      · obtain ⟨_, _, this⟩ := Option.bind_eq_some_iff.1 this
        obtain ⟨_, _, this⟩ := Option.bind_eq_some_iff.1 this
        obtain ⟨_, _, this⟩ := Option.bind_eq_some_iff.1 this
        obtain ⟨_, _, this⟩ := Option.bind_eq_some_iff.1 this
        simp only [Option.some.injEq, Prod.mk.injEq] at this
        exact this.1.symm
      · cases this
    subst hm
    refine ⟨rd, z, y, g1, g2, h2, h3, ?_, h5, lenIs_spec h6, h⟩
    unfold isL0 at h4
    split at h4
    · assumption
    · cases h4
  · cases h

theorem toP_spec {M : Ent} {N : EntP} (h : toP M = some N) : M = N.ent := by
  unfold toP at h
  split at h
  · cases h; rfl
  · cases h
theorem callE_spec {M : Ent} {st : St} {avs : List AV} {K : AV → St → Option α} (h : callE M st avs K = some x) : ∃ N rd z y, M = EntP.ent N ∧ CallP N st avs K x rd z y := by
  unfold callE at h
  obtain ⟨N, h1, h2⟩ := Option.bind_eq_some_iff.1 h
  obtain ⟨rd, z, y, c⟩ := callE1_spec h2
  exact ⟨N, rd, z, y, toP_spec h1, c⟩

/-- The callee's run, and what the caller knows behind it: 'rd' is read alone from now on, or the result reads nothing. -/
theorem CallP.run' {N : EntP} {st : St} {K : AV → St → Option α} {rd : List Nat} {z : N.A.V} {y : N.Y} (c : CallP N st avs K x rd z y) {g : FuncId} (hs : Sat P g N.ent)
    {args : List Value} {σ' : List Ob} (hF : Rel E avs σ' μ args w)
    (hob : ∀ t ob, st.σ[t]? = some ob → ∀ v, μ t = some v → ObR (okN E σ' μ w) w μ t ob)
    (hread : ∀ t ∈ rd, ∀ ob, st.σ[t]? = some ob → ob ≠ .gone → ∀ v b, μ t = some v → blk v = some b → okN E σ' μ w b) :
    Calls P g args.toArray w fun
      | .returned v, w' => Below w.heap.size w w' ∧ RV (okN E σ' μ w') w' μ ((putF [] N.R.vals (N.mkR y).2).headD .any) v
      | _, _ => False := by
  obtain ⟨us, k, _⟩ := hF.taken' c.get hob hread (fun j t u h => by simp at h)
  obtain ⟨e1, e2, e3⟩ := k.rel hF
  have hm0 : ∀ j b, ¬ ownB (N.A.put z).σ (fun j => us[j]?) j b := by
    intro j b hb
    obtain ⟨t, ht, _⟩ := e3 j b hb
    simp at ht
  have htake : args.take N.A.n = args := by
    have := hF.vals.len
    rw [c.len] at this
    exact List.take_of_length_le (by omega)
  rw [htake] at e1
  have ent : Rel ⟨w, fun _ => False, okN E σ' μ w⟩ (N.A.put z).slots (N.A.put z).σ (fun j => us[j]?) args w := {
    vals := by
      have hvals := k.vals
      rw [htake] at hvals
      exact hvals.kp ⟨fun b hb => ⟨hb.1, .inl hb, fun j => hm0 j b⟩, fun _ _ => rfl⟩ (fun _ _ e => e)
    objs := fun j o ho v hv => by
      have : j < 0 := by have := (List.getElem?_eq_some_iff.1 ho).1; rw [k.olen] at this; exact this
      omega
    dist := fun j j' b hb => (hm0 j b hb).elim
    own := fun j b hb => (hm0 j b hb).elim
    dom := e1.dom
    frm := ⟨rfl, rfl, rfl, Nat.le_refl _, fun _ _ _ => rfl, hF.frm.globAt (fun _ h => h.elim)⟩ }
  refine Calls.mono (hs.run z y c.val w _ _ _ args ent) ?_
  rintro (v | ch | _) w' hw
  · obtain ⟨μ2, hr⟩ := (hw : Ended _ _ w' (.returned v) .ret (N.R.put (N.mkR y)))
    rw [Sig.put_n] at hr
    refine ⟨frm_below hr.frm (fun _ h => h), ?_⟩
    have hB := frm_below hr.frm (fun _ h => h)
    rw [c.n] at hr
    have hvals := hr.vals
    simp only [Sig.put, c.n, c.idx, List.take_succ_cons, List.take_zero, List.replicate_one, idRen, c.srcs, List.length_nil, List.range_zero] at hvals
    have hok : ∀ b, okN ⟨w, fun _ => False, okN E σ' μ w⟩ (N.R.put (N.mkR y)).σ μ2 w' b → okN E σ' μ w' b := by
      rintro b ⟨b1, b2, b3⟩
      refine ⟨b1, ?_, fun t ht => ?_⟩
      · rcases b2 with b2 | b2 | b2
        · exact b2.2.1
        · simp only at b2; have := hF.frm.size; exact .inr (.inl (by omega))
        · exact b2.elim
      · have hlt := (hF.own t b ht).1
        rcases b2 with b2 | b2 | b2
        · exact b2.2.2 t ht
        · simp only at b2; omega
        · exact b2
    have hσ : (N.R.put (N.mkR y)).σ = putO [] N.R.objs (N.mkR y).1 := by simp [Sig.put, idRen, c.srcs]
    rw [hσ] at hok
    cases hp : putF [] N.R.vals (N.mkR y).2 with
    | nil => trivial
    | cons a r =>
      simp only [hp, setAll, List.set_cons_zero] at hvals
      have hra : RV (okN E σ' μ w') w' μ2 a v := by
        obtain ⟨v', r', e, g, _⟩ := RVL.cons_iff.1 hvals
        simp only [List.cons.injEq] at e
        obtain ⟨rfl, _⟩ := e
        exact g.kp ⟨hok, fun _ _ => rfl⟩ (fun _ _ e => e)
      exact plain_hd [] N.R.vals (N.mkR y).2 a r v c.plain hp hra
  · exact hw
  · exact hw

theorem CallP.run {N : EntP} {st : St} {K : AV → St → Option α} {rd : List Nat} {z : N.A.V} {y : N.Y} (c : CallP N st avs K x rd z y) {g : FuncId} (hs : Sat P g N.ent)
    {args : List Value} (ha : Rel E avs st.σ μ args w) :
    Calls P g args.toArray w fun
      | .returned v, w' => Below w.heap.size w w' ∧ RV (okN E (freeze st.σ rd) μ w') w' μ ((putF [] N.R.vals (N.mkR y).2).headD .any) v
      | _, _ => False := c.run' hs (ha.freeze rd) (ha.freeze rd).weakobs (ha.freeze rd).read_ok

end
end Gv
