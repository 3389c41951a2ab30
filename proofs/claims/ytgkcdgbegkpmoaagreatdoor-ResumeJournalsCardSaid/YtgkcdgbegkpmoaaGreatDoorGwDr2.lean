/- Regions of drawn order: an operation in a block. -/
import Derived.Test.YtgkcdgbegkpmoaaGreatDoorGwDr1
namespace Gv
open Go Go.RowKit
set_option linter.unusedVariables false
set_option linter.unusedSectionVars false
set_option linter.unusedSimpArgs false

section
variable [GlobI] {E : Env} {avs : List AV} {slots : List AV} {σ σ' σ'' : List Ob} {μ μ' : Nat → Option Value} {vs : List Value} {w w' : World} {ok ok' : Nat → Prop} {α : Type} {x : α} {P : Program} {Q : Exit → Act → World → Prop}
variable {ops : Array Oper}

/-- Objects that are read alone, and new ones. -/
def Ext (σ σ' : List Ob) : Prop := ∀ (t : Nat) (ob : Ob), σ[t]? = some ob → σ'[t]? = some ob ∨ σ'[t]? = some (frz ob)

theorem frz_frz (o : Ob) : frz (frz o) = frz o := by cases o <;> rfl

theorem Ext.refl (σ : List Ob) : Ext σ σ := fun t ob h => .inl h
theorem Ext.trans (h : Ext σ σ') (h' : Ext σ' σ'') : Ext σ σ'' := fun t ob ht => by
  rcases h t ob ht with h1 | h1 <;> rcases h' t _ h1 with h2 | h2
  · exact .inl h2
  · exact .inr h2
  · exact .inr h2
  · exact .inr (by rw [h2, frz_frz])
theorem Ext.frz (σ : List Ob) (l : List Nat) : Ext σ (Gv.freeze σ l) := fun t ob ht => by
  rw [freeze_get]
  split
  · right; rw [ht]; rfl
  · left; exact ht
theorem Ext.app (h : Ext σ σ') (l : List Ob) : Ext σ (σ' ++ l) := fun t ob ht => by
  rcases h t ob ht with h1 | h1
  · left; rw [List.getElem?_append_left (List.getElem?_eq_some_iff.1 h1).1]; exact h1
  · right; rw [List.getElem?_append_left (List.getElem?_eq_some_iff.1 h1).1]; exact h1
theorem Ext.frozen {l : List Nat} (h : Ext (Gv.freeze σ l) σ') {t : Nat} (ht : t ∈ l) {ob : Ob} (hσ : σ[t]? = some ob) : σ'[t]? = some (Gv.frz ob) := by
  have hg : (Gv.freeze σ l)[t]? = some (Gv.frz ob) := by rw [freeze_get, if_pos ht, hσ]; rfl
  rcases h t _ hg with h1 | h1
  · exact h1
  · rw [frz_frz] at h1; exact h1

theorem Ext.obs (he : Ext σ σ') (h : Rel E slots σ' μ vs w) : ∀ t ob, σ[t]? = some ob → ∀ v, μ t = some v → ObR (okN E σ' μ w) w μ t ob := by
  intro t ob ht v hv
  rcases he t ob ht with h1 | h1
  · exact h.objs t _ h1 v hv
  · exact frz_weak (h.objs t _ h1 v hv)

theorem Ext.read {l : List Nat} (he : Ext (Gv.freeze σ l) σ') (h : Rel E slots σ' μ vs w) : ∀ t ∈ l, ∀ ob, σ[t]? = some ob → ob ≠ .gone → ∀ v b, μ t = some v → blk v = some b → okN E σ' μ w b := by
  intro t hm ob ht hg v b hv hb
  exact (h.objs t _ (he.frozen hm ht) v hv).frozen_ok (frz_own ob) (by cases ob <;> simp_all [Gv.frz]) hv hb

/-- The same, but for some tokens of which nothing was known. -/
def ExtG (T : List Nat) (σ σ' : List Ob) : Prop := ∀ (t : Nat) (ob : Ob), σ[t]? = some ob → (t ∈ T ∧ ob = .gone) ∨ σ'[t]? = some ob ∨ σ'[t]? = some (frz ob)
theorem Ext.toG (h : Ext σ σ') (T : List Nat) : ExtG T σ σ' := fun t ob ht => .inr (h t ob ht)
theorem frz_gone {o : Ob} (h : frz o = .gone) : o = .gone := by cases o <;> simp [frz] at h ⊢
theorem Ext.transG {T : List Nat} (h : Ext σ σ') (h' : ExtG T σ' σ'') : ExtG T σ σ'' := fun t ob ht => by
  rcases h t ob ht with h1 | h1 <;> rcases h' t _ h1 with ⟨h2, h3⟩ | h2 | h2
  · exact .inl ⟨h2, h3⟩
  · exact .inr (.inl h2)
  · exact .inr (.inr h2)
  · exact .inl ⟨h2, frz_gone h3⟩
  · exact .inr (.inr h2)
  · exact .inr (.inr (by rw [h2, frz_frz]))
theorem ExtG.trans1 {T : List Nat} (h : ExtG T σ σ') (h' : Ext σ' σ'') : ExtG T σ σ'' := fun t ob ht => by
  rcases h t ob ht with h1 | h1 | h1
  · exact .inl h1
  · rcases h' t _ h1 with h2 | h2
    · exact .inr (.inl h2)
    · exact .inr (.inr h2)
  · rcases h' t _ h1 with h2 | h2
    · exact .inr (.inr h2)
    · exact .inr (.inr (by rw [h2, frz_frz]))
theorem ExtG.obs {T : List Nat} (he : ExtG T σ σ') (h : Rel E slots σ' μ vs w) : ∀ t ob, σ[t]? = some ob → ∀ v, μ t = some v → ObR (okN E σ' μ w) w μ t ob := by
  intro t ob ht v hv
  rcases he t ob ht with ⟨_, rfl⟩ | h1 | h1
  · trivial
  · exact h.objs t _ h1 v hv
  · exact frz_weak (h.objs t _ h1 v hv)
theorem ExtG.frozen {T l : List Nat} (h : ExtG T (Gv.freeze σ l) σ') {t : Nat} (ht : t ∈ l) {ob : Ob} (hσ : σ[t]? = some ob) (hg : ob ≠ .gone) : σ'[t]? = some (Gv.frz ob) := by
  have hf : (Gv.freeze σ l)[t]? = some (Gv.frz ob) := by rw [freeze_get, if_pos ht, hσ]; rfl
  rcases h t _ hf with ⟨_, h1⟩ | h1 | h1
  · exact absurd (frz_gone h1) hg
  · exact h1
  · rw [frz_frz] at h1; exact h1
theorem ExtG.read {T l : List Nat} (he : ExtG T (Gv.freeze σ l) σ') (h : Rel E slots σ' μ vs w) : ∀ t ∈ l, ∀ ob, σ[t]? = some ob → ob ≠ .gone → ∀ v b, μ t = some v → blk v = some b → okN E σ' μ w b := by
  intro t hm ob ht hg v b hv hb
  exact (h.objs t _ (he.frozen hm ht hg) v hv).frozen_ok (frz_own ob) (by cases ob <;> simp_all [Gv.frz]) hv hb

/-- An operation in a block: what it does, whatever else has been done. -/
def DoOk (P : Program) (E : Env) (o : Oper) (ρ : Operand → AV) (av : AV) (σ : List Ob) (tok : Option Nat) : Prop :=
  ∀ (μ : Nat → Option Value) (a : Act) (w : World) (Q : Exit → Act → World → Prop), Rel E [] σ μ [] w → (∀ y, RV (okN E σ μ w) w μ (ρ y) (a.eval y)) → (∀ n, tok = some n → μ n = none) →
    o.wp P a w (fun a' w' => ∃ v μ', a' = a.put o.dst v ∧ Rel E [] σ μ' [] w' ∧ Kp (okN E σ μ w) (okN E σ μ' w') w w' ∧ (∀ t u, μ t = some u → μ' t = some u) ∧ (∀ t, tok ≠ some t → μ' t = μ t) ∧ RV (okN E σ μ' w') w' μ' av v) Q

theorem doN {C : Cfg} {ρ : Operand → AV} {o : Oper} {av : AV} (h : opN C σ ρ o some = some av) (he : Ext σ σ') : DoOk C.P E o ρ av σ' none := by
  intro μ a w Q hr hρ _
  obtain ⟨av', v, h1, h2, h3⟩ := opN_sound (K := some) h a.eval hρ (he.obs hr)
  cases h1
  unfold Oper.wp
  rw [h3, Oper.upon_value]
  exact ⟨v, μ, rfl, hr, ⟨fun _ h => h, fun _ _ => rfl⟩, fun _ _ e => e, fun _ _ => rfl, h2⟩

theorem doC {C : Cfg} (hC : ∀ g l N, C.orc g l = some N → Sat C.P g N) {st : St} {ρ : Operand → AV} {o : Oper} {c : Call} (hop : o.op = .call c) {K : AV → St → Option α} {f : Operand} {g : FuncId} {caps : List AV} {N : EntP} {rd : List Nat} {z : N.A.V} {y : N.Y}
    (h1 : c.callee = .value f) (h2 : ρ f = .fn g caps) (h3 : C.orc g (fnsOf (c.args.toList.map ρ ++ caps)) = some N.ent) (h4 : CallP N st (c.args.toList.map ρ ++ caps) K x rd z y)
    (he : Ext (if scal 6 ((putF [] N.R.vals (N.mkR y).2).headD .any) then st.σ else Gv.freeze st.σ rd) σ') : DoOk C.P E o ρ ((putF [] N.R.vals (N.mkR y).2).headD .any) σ' none := by
  intro μ a w Q hr hρ _
  by_cases hs : scal 6 ((putF [] N.R.vals (N.mkR y).2).headD .any) = true
  · rw [if_pos hs] at he
    have hr2 := hr.freeze rd
    have hk : Kp (okN E σ' μ w) (okN E (Gv.freeze σ' rd) μ w) w w := ⟨fun b hb => ⟨hb.1, hb.2.1, fun t ht => by
      obtain ⟨ob, v, k1, k2, k3, k4⟩ := ht
      rw [freeze_get] at k1
      split at k1
      · cases hx : σ'[t]? with
        | none => rw [hx] at k1; cases k1
        | some q => rw [hx] at k1; simp at k1; subst k1; rw [frz_own] at k2; cases k2
      · exact hb.2.2 t ⟨ob, v, k1, k2, k3, k4⟩⟩, fun _ _ => rfl⟩
    refine call_wp hC hop h1 h2 h3 h4 (σ' := Gv.freeze σ' rd) hr2 (fun y => (hρ y).kp hk (fun _ _ e => e)) (fun t ob ht v hv => ?_) (fun t hm ob ht hg v b hv hb => ?_) (fun v w' hB hv => ⟨v, μ, rfl, hr.below hB, kp_below hB, fun _ _ e => e, fun _ _ => rfl, scal_rv 6 hs hv⟩)
    · exact (he.trans (Ext.frz σ' rd)).obs hr2 t ob ht v hv
    · have h5 : (Gv.freeze σ' rd)[t]? = some (Gv.frz ob) := by
        rw [freeze_get, if_pos hm]
        rcases he t ob ht with k | k
        · rw [k]; rfl
        · rw [k]; simp [frz_frz]
      exact (hr2.objs t _ h5 v hv).frozen_ok (frz_own ob) (by cases ob <;> simp_all [Gv.frz]) hv hb
  · rw [if_neg hs] at he
    exact call_wp hC hop h1 h2 h3 h4 (σ' := σ') hr hρ (((Ext.frz st.σ rd).trans he).obs hr) (he.read hr) (fun v w' hB hv => ⟨v, μ, rfl, hr.below hB, kp_below hB, fun _ _ e => e, fun _ _ => rfl, hv⟩)

theorem doNG {T : List Nat} {C : Cfg} {ρ : Operand → AV} {o : Oper} {av : AV} (h : opN C σ ρ o some = some av) (he : ExtG T σ σ') : DoOk C.P E o ρ av σ' none := by
  intro μ a w Q hr hρ _
  obtain ⟨av', v, h1, h2, h3⟩ := opN_sound (K := some) h a.eval hρ (he.obs hr)
  cases h1
  unfold Oper.wp
  rw [h3, Oper.upon_value]
  exact ⟨v, μ, rfl, hr, ⟨fun _ h => h, fun _ _ => rfl⟩, fun _ _ e => e, fun _ _ => rfl, h2⟩

theorem doCG {T : List Nat} {C : Cfg} (hC : ∀ g l N, C.orc g l = some N → Sat C.P g N) {st : St} {ρ : Operand → AV} {o : Oper} {c : Call} (hop : o.op = .call c) {K : AV → St → Option α} {f : Operand} {g : FuncId} {caps : List AV} {N : EntP} {rd : List Nat} {z : N.A.V} {y : N.Y}
    (h1 : c.callee = .value f) (h2 : ρ f = .fn g caps) (h3 : C.orc g (fnsOf (c.args.toList.map ρ ++ caps)) = some N.ent) (h4 : CallP N st (c.args.toList.map ρ ++ caps) K x rd z y)
    (he : ExtG T (if scal 6 ((putF [] N.R.vals (N.mkR y).2).headD .any) then st.σ else Gv.freeze st.σ rd) σ') : DoOk C.P E o ρ ((putF [] N.R.vals (N.mkR y).2).headD .any) σ' none := by
  intro μ a w Q hr hρ _
  by_cases hs : scal 6 ((putF [] N.R.vals (N.mkR y).2).headD .any) = true
  · rw [if_pos hs] at he
    have hr2 := hr.freeze rd
    have hk : Kp (okN E σ' μ w) (okN E (Gv.freeze σ' rd) μ w) w w := ⟨fun b hb => ⟨hb.1, hb.2.1, fun t ht => by
      obtain ⟨ob, v, k1, k2, k3, k4⟩ := ht
      rw [freeze_get] at k1
      split at k1
      · cases hx : σ'[t]? with
        | none => rw [hx] at k1; cases k1
        | some q => rw [hx] at k1; simp at k1; subst k1; rw [frz_own] at k2; cases k2
      · exact hb.2.2 t ⟨ob, v, k1, k2, k3, k4⟩⟩, fun _ _ => rfl⟩
    refine call_wp hC hop h1 h2 h3 h4 (σ' := Gv.freeze σ' rd) hr2 (fun y => (hρ y).kp hk (fun _ _ e => e)) (fun t ob ht v hv => ?_) (fun t hm ob ht hg v b hv hb => ?_) (fun v w' hB hv => ⟨v, μ, rfl, hr.below hB, kp_below hB, fun _ _ e => e, fun _ _ => rfl, scal_rv 6 hs hv⟩)
    · exact (he.trans1 (Ext.frz σ' rd)).obs hr2 t ob ht v hv
    · have h5 : (Gv.freeze σ' rd)[t]? = some (Gv.frz ob) := by
        rw [freeze_get, if_pos hm]
        rcases he t ob ht with ⟨_, k⟩ | k | k
        · exact absurd k hg
        · rw [k]; rfl
        · rw [k]; simp [frz_frz]
      exact (hr2.objs t _ h5 v hv).frozen_ok (frz_own ob) (by cases ob <;> simp_all [Gv.frz]) hv hb
  · rw [if_neg hs] at he
    exact call_wp hC hop h1 h2 h3 h4 (σ' := σ') hr hρ (((Ext.frz st.σ rd).transG he).obs hr) (he.read hr) (fun v w' hB hv => ⟨v, μ, rfl, hr.below hB, kp_below hB, fun _ _ e => e, fun _ _ => rfl, hv⟩)

theorem ownB_fill {n : Nat} {v : Value} {t b : Nat} (h : ownB σ (upd μ n v) t b) : ownB σ μ t b ∨ (t = n ∧ blk v = some b ∧ ∃ ob, σ[n]? = some ob ∧ isOwn ob = true) := by
  obtain ⟨ob, u, h1, h2, h3, h4⟩ := h
  by_cases e : t = n
  · subst e; rw [upd_same] at h3; cases h3; exact .inr ⟨rfl, h4, ob, h1, h2⟩
  · rw [upd_ne _ _ e] at h3; exact .inl ⟨ob, u, h1, h2, h3, h4⟩

/-- A token that stood for nothing yet. -/
theorem Rel.fill (h : Rel E [] σ μ [] w) {n : Nat} (hn : μ n = none) {ob : Ob} (hσ : σ[n]? = some ob ∨ σ[n]? = some (Gv.frz ob)) (hw : Below w.heap.size w w') {v : Value} (hb : ∀ b, blk v = some b → w.heap.size ≤ b ∧ b < w'.heap.size)
    (ho : ∀ (ok' : Nat → Prop) (μ' : Nat → Option Value), Kp (okN E σ μ w) ok' w w' → (∀ t u, μ t = some u → μ' t = some u) → μ' n = some v → ObR ok' w' μ' n ob) :
    Rel E [] σ (upd μ n v) [] w' ∧ Kp (okN E σ μ w) (okN E σ (upd μ n v) w') w w' ∧ (∀ t u, μ t = some u → upd μ n v t = some u) := by
  have hext : ∀ t u, μ t = some u → upd μ n v t = some u := fun t u hu => by
    have : t ≠ n := by rintro rfl; rw [hn] at hu; cases hu
    rw [upd_ne _ _ this]; exact hu
  have k : Kp (okN E σ μ w) (okN E σ (upd μ n v) w') w w' := ⟨fun b hb' => ⟨Nat.lt_of_lt_of_le hb'.1 hw.size, hb'.2.1, fun t ht => by
    rcases ownB_fill ht with ht | ⟨_, ht, _⟩
    · exact hb'.2.2 t ht
    · have := hb b ht; have := hb'.1; omega⟩, fun b hb' => hw.block b hb'.1⟩
  have hlt : n < σ.length := by rcases hσ with h | h <;> exact (List.getElem?_eq_some_iff.1 h).1
  refine ⟨{
    vals := RVL.nil_iff.2 rfl
    objs := fun t o' ht u hu => ?_
    dist := fun t t' b h1 h2 => ?_
    own := fun t b h1 => ?_
    dom := fun t u hu => ?_
    frm := h.frm.below hw }, k, hext⟩
  · by_cases e : t = n
    · subst e
      have hob := ho _ _ k hext (upd_same _ _ _)
      rcases hσ with hσ | hσ
      · rw [hσ] at ht; cases ht; exact hob
      · rw [hσ] at ht; cases ht
        have hok : ∀ b, blk v = some b → okN E σ (upd μ t v) w' b := fun b hbv => ⟨(hb b hbv).2, .inr (.inl (Nat.le_trans h.frm.size (hb b hbv).1)), fun s hs => by
          rcases ownB_fill hs with hs | ⟨rfl, _, ob', h1, h2⟩
          · have := (h.own s b hs).1; have := (hb b hbv).1; omega
          · rw [hσ] at h1; cases h1; rw [frz_own] at h2; cases h2⟩
        match ob, hob with
        | .box own cells, ⟨b, cs, T, h1, h2, h3, h4⟩ => exact ⟨b, cs, T, h1, h2, h3, fun _ => hok b (by rw [upd_same] at h1; cases h1; rfl)⟩
        | .row own T e l, ⟨v', h1, h2, h3⟩ => rw [upd_same] at h1; cases h1; exact ⟨v, upd_same _ _ _, h2, fun _ b hbv => hok b hbv⟩
        | .gone, _ => trivial
    · rw [upd_ne _ _ e] at hu
      cases hc : o' with
      | gone => trivial
      | box a b => rw [← hc]; exact (h.objs t o' ht u hu).kp k hext (h.objsame hw ht (by simp [hc]))
      | row a b c d => rw [← hc]; exact (h.objs t o' ht u hu).kp k hext (h.objsame hw ht (by simp [hc]))
  · rcases ownB_fill h1 with k1 | ⟨e1, k1, _⟩ <;> rcases ownB_fill h2 with k2 | ⟨e2, k2, _⟩
    · exact h.dist t t' b k1 k2
    · have := (h.own t b k1).1; have := (hb b k2).1; omega
    · have := (h.own t' b k2).1; have := (hb b k1).1; omega
    · rw [e1, e2]
  · rcases ownB_fill h1 with k1 | ⟨e1, k1, _⟩
    · exact ⟨Nat.lt_of_lt_of_le (h.own t b k1).1 hw.size, (h.own t b k1).2⟩
    · exact ⟨(hb b k1).2, .inl (Nat.le_trans h.frm.size (hb b k1).1)⟩
  · by_cases e : t = n
    · subst e; exact hlt
    · rw [upd_ne _ _ e] at hu; exact h.dom t u hu

theorem doA {C : Cfg} {st : St} {ρ : Operand → AV} {o : Oper} {toks : List Nat} {av : AV} {ob : Ob}
    (g : ∀ (ok : Nat → Prop) (w : World) (μ : Nat → Option Value) (ev : Operand → Value) (hρ : ∀ y, RV ok w μ (ρ y) (ev y))
      (hob : ∀ t ob, (freeze st.σ toks)[t]? = some ob → ∀ v, μ t = some v → ObR ok w μ t ob),
      ∃ v w', NewOk C.P ok w μ st.σ.length ob (execOp ev o) v w' ∧ ∀ (ok' : Nat → Prop) (μ' : Nat → Option Value), μ' st.σ.length = some v → RV ok' w' μ' av v)
    (he : Ext (freeze st.σ toks ++ [ob]) σ') : DoOk C.P E o ρ av σ' (some st.σ.length) := by
  intro μ a w Q hr hρ htok
  have hl : (Gv.freeze st.σ toks).length = st.σ.length := freeze_len _ _
  have he1 : Ext (Gv.freeze st.σ toks) σ' := ((Ext.refl _).app [ob]).trans he
  obtain ⟨v, w', hn, hav⟩ := g _ w μ a.eval hρ (he1.obs hr)
  have hσ : σ'[st.σ.length]? = some ob ∨ σ'[st.σ.length]? = some (Gv.frz ob) := he _ _ (by rw [← hl]; simp)
  obtain ⟨k1, k2, k3⟩ := hr.fill (htok _ rfl) hσ hn.below hn.blk (fun ok' μ' => hn.ob ok' μ')
  unfold Oper.wp
  rw [hn.run, Oper.upon_value]
  exact ⟨v, _, rfl, k1, k2, k3, fun t ht => upd_ne _ _ (fun e => ht (by rw [e])), hav _ _ (upd_same _ _ _)⟩


theorem doAG {T : List Nat} {C : Cfg} {st : St} {ρ : Operand → AV} {o : Oper} {toks : List Nat} {av : AV} {ob : Ob}
    (g : ∀ (ok : Nat → Prop) (w : World) (μ : Nat → Option Value) (ev : Operand → Value) (hρ : ∀ y, RV ok w μ (ρ y) (ev y))
      (hob : ∀ t ob, (freeze st.σ toks)[t]? = some ob → ∀ v, μ t = some v → ObR ok w μ t ob),
      ∃ v w', NewOk C.P ok w μ st.σ.length ob (execOp ev o) v w' ∧ ∀ (ok' : Nat → Prop) (μ' : Nat → Option Value), μ' st.σ.length = some v → RV ok' w' μ' av v)
    (hT : st.σ.length ∉ T) (he : ExtG T (freeze st.σ toks ++ [ob]) σ') : DoOk C.P E o ρ av σ' (some st.σ.length) := by
  intro μ a w Q hr hρ htok
  have hl : (Gv.freeze st.σ toks).length = st.σ.length := freeze_len _ _
  have he1 : ExtG T (Gv.freeze st.σ toks) σ' := ((Ext.refl _).app [ob]).transG he
  obtain ⟨v, w', hn, hav⟩ := g _ w μ a.eval hρ (he1.obs hr)
  have hσ : σ'[st.σ.length]? = some ob ∨ σ'[st.σ.length]? = some (Gv.frz ob) := by
    rcases he st.σ.length ob (by rw [← hl]; simp) with ⟨k, _⟩ | k
    · exact absurd k hT
    · exact k
  obtain ⟨k1, k2, k3⟩ := hr.fill (htok _ rfl) hσ hn.below hn.blk (fun ok' μ' => hn.ob ok' μ')
  unfold Oper.wp
  rw [hn.run, Oper.upon_value]
  exact ⟨v, _, rfl, k1, k2, k3, fun t ht => upd_ne _ _ (fun e => ht (by rw [e])), hav _ _ (upd_same _ _ _)⟩

end
end Gv
