/- A state as a signature sees it: the theorem. -/
import Derived.Test.YtgkcdgbegkpmoaaGreatDoorGwSig2
namespace Gv
open Go Go.RowKit
set_option linter.unusedVariables false
set_option linter.unusedSectionVars false
set_option linter.unusedSimpArgs false

section
variable [GlobI] {E : Env} {slots : List AV} {σ : List Ob} {μ μ' : Nat → Option Value} {vs : List Value} {w w' : World} {ok ok' : Nat → Prop} {P : Program}

theorem frz_weak {t : Nat} {o : Ob} (h : ObR ok w μ t (frz o)) : ObR ok w μ t o := by
  cases o with
  | box own cells => obtain ⟨b, vs, T, h1, h2, h3, h4⟩ := h; exact ⟨b, vs, T, h1, h2, h3, fun _ => h4 rfl⟩
  | row own T e l => obtain ⟨v, h1, h2, h3⟩ := h; exact ⟨v, h1, h2, fun _ => h3 rfl⟩
  | gone => trivial

theorem Rel.weakobs {avs : List AV} {l : List Nat} (h : Rel E avs (Gv.freeze σ l) μ vs w) : ∀ t ob, σ[t]? = some ob → ∀ v, μ t = some v → ObR (okN E (Gv.freeze σ l) μ w) w μ t ob := by
  intro t ob ht v hv
  have hg := freeze_get σ l t
  by_cases hm : t ∈ l
  · rw [if_pos hm, ht] at hg
    exact frz_weak (h.objs t _ hg v hv)
  · rw [if_neg hm, ht] at hg
    exact h.objs t _ hg v hv

theorem Rel.read_ok {avs : List AV} {l : List Nat} (h : Rel E avs (Gv.freeze σ l) μ vs w) : ∀ t ∈ l, ∀ ob, σ[t]? = some ob → ob ≠ .gone → ∀ v b, μ t = some v → blk v = some b → okN E (Gv.freeze σ l) μ w b := by
  intro t hm ob ht hg v b hv hb
  have hg' := freeze_get σ l t
  rw [if_pos hm, ht] at hg'
  exact (h.objs t _ hg' v hv).frozen_ok (frz_own ob) (by cases ob <;> simp_all [frz]) hv hb

theorem range_getD {n j : Nat} (h : j < n) : (List.range n).getD j 0 = j := by
  simp [List.getD_eq_getElem?_getD, h]

theorem idx_rvl (hv : RVL ok w μ slots vs) : ∀ (idx : List Nat), RVL ok w μ (idx.map fun i => slots.getD i .any) (idx.map fun i => vs.getD i undef)
  | [] => by simp [RVL]
  | i :: idx => by
    refine RVL.cons' ?_ (idx_rvl hv idx)
    show RV ok w μ (slots.getD i .any) (vs.getD i undef)
    rcases Nat.lt_or_ge i slots.length with hi | hi
    · obtain ⟨v, g1, g2⟩ := hv.get i _ (getD_of_lt (d := .any) hi)
      rw [List.getD_eq_getElem?_getD (l := vs), g1]; exact g2
    · rw [List.getD_eq_getElem?_getD (l := slots), List.getElem?_eq_none hi]; trivial

theorem getO_own {m : List (Option Nat)} : ∀ (f : Form) {xs : List (Option Ob)} {a : f.V}, getO m f xs = some a → ∀ (i : Nat) ob, xs[i]? = some (some ob) → isOwn ob = true := by
  intro f
  induction f with
  | obox l ih =>
    intro xs a h i ob hi
    rcases xs with _ | ⟨x, _ | ⟨y, r⟩⟩
    · simp [getO] at h
    · cases i with
      | zero => simp at hi; subst hi; rcases ob with ⟨_ | _⟩ | ⟨_ | _⟩ | _ <;> simp [getO] at h <;> rfl
      | succ i => simp at hi
    · rcases x with _ | ⟨⟨_ | _⟩ | _ | _⟩ <;> simp [getO] at h
  | orow T e =>
    intro xs a h i ob hi
    rcases xs with _ | ⟨x, _ | ⟨y, r⟩⟩
    · simp [getO] at h
    · cases i with
      | zero => simp at hi; subst hi; rcases ob with ⟨_ | _⟩ | ⟨_ | _⟩ | _ <;> first | rfl | simp [getO] at h
      | succ i => simp at hi
    · rcases x with _ | ⟨_ | ⟨_ | _⟩ | _⟩ <;> simp [getO] at h
  | nilL =>
    intro xs a h i ob hi
    rcases xs with _ | ⟨x, r⟩
    · simp at hi
    · simp [getO] at h
  | cons f g ih1 ih2 =>
    intro xs a h i ob hi
    rcases xs with _ | ⟨x, r⟩
    · simp [getO] at h
    · simp only [getO] at h
      obtain ⟨y, h1, h⟩ := Option.bind_eq_some_iff.1 h
      obtain ⟨z, h2, h⟩ := Option.bind_eq_some_iff.1 h
      cases i with
      | zero => simp at hi; subst hi; exact ih1 h1 0 ob rfl
      | succ i => exact ih2 h2 i ob (by simpa using hi)
  | _ =>
    intro xs a h
    rcases xs with _ | ⟨x, _ | ⟨y, r⟩⟩ <;> simp [getO] at h

theorem prepO_own : ∀ (f : Form) {xs ys : List (Option Ob)}, prepO σ f xs = some ys → ∀ (i : Nat) ob, xs[i]? = some (some ob) → ∃ ob', ys[i]? = some (some ob') ∧ isOwn ob' = isOwn ob
  | .nilL, [], ys, h, i, ob, hi => by simp at hi
  | .nilL, _ :: _, ys, h, _, _, _ => by simp [prepO] at h
  | .cons f g, [], ys, h, _, _, _ => by cases f <;> simp [prepO] at h
  | .cons f g, x :: xs, ys, h, i, ob, hi => by
    have gen : ((prepO σ g xs).bind fun r => some (x :: r)) = some ys → ∃ ob', ys[i]? = some (some ob') ∧ isOwn ob' = isOwn ob := by
      intro h
      obtain ⟨r, h2, h⟩ := Option.bind_eq_some_iff.1 h
      simp only [Option.some.injEq] at h; subst h
      cases i with
      | zero => simp at hi; subst hi; exact ⟨ob, rfl, rfl⟩
      | succ i => exact prepO_own g h2 i ob (by simpa using hi)
    match f, x, h, gen with
    | .obox l, some (.box true cells), h, _ =>
      simp only [prepO] at h
      obtain ⟨cs, h1, h⟩ := Option.bind_eq_some_iff.1 h
      obtain ⟨r, h2, h⟩ := Option.bind_eq_some_iff.1 h
      simp only [Option.some.injEq] at h; subst h
      cases i with
      | zero => simp at hi; subst hi; exact ⟨_, rfl, rfl⟩
      | succ i => exact prepO_own g h2 i ob (by simpa using hi)
    | .obox l, some (.box false cells), h, gen => simp only [prepO] at h; exact gen h
    | .obox l, some (.row o T e r), h, gen => simp only [prepO] at h; exact gen h
    | .obox l, some .gone, h, gen => simp only [prepO] at h; exact gen h
    | .obox l, none, h, gen => simp only [prepO] at h; exact gen h
    | .v _, x, h, gen | .agg _, x, h, gen | .tup _, x, h, gen | .cp _, x, h, gen | .fn _ _, x, h, gen | .ifc _ _, x, h, gen | .boxr _ _, x, h, gen | .rowr _, x, h, gen
    | .nili, x, h, gen | .any, x, h, gen | .orow _ _, x, h, gen | .nilL, x, h, gen | .cons _ _, x, h, gen => simp only [prepO] at h; exact gen h
  | .v _, _, _, h, _, _, _ | .agg _, _, _, h, _, _, _ | .tup _, _, _, h, _, _, _ | .cp _, _, _, h, _, _, _ | .fn _ _, _, _, h, _, _, _ | .ifc _ _, _, _, h, _, _, _ | .boxr _ _, _, _, h, _, _, _ | .rowr _, _, _, h, _, _, _
  | .nili, _, _, h, _, _, _ | .any, _, _, h, _, _, _ | .obox _, _, _, h, _, _, _ | .orow _ _, _, _, h, _, _, _ => by simp [prepO] at h

/-- What a signature takes out of a state. -/
structure Taken (E : Env) (s : Sig) (σF : List Ob) (μ : Nat → Option Value) (vs : List Value) (w : World) (m : List (Option Nat)) (x : s.V) (us : List Value) : Prop where
  named : Named vs s.srcs μ m us
  len : m.length = s.srcs.length
  own : ∀ (j t : Nat), m[j]? = some (some t) → ∃ o, σF[t]? = some o ∧ isOwn o = true
  vals : RVL (okN E σF μ w) w (fun j => us[j]?) (s.put x).slots (vs.take s.n)
  olen : (s.put x).σ.length = m.length
  objs : ∀ (j : Nat) o u, (s.put x).σ[j]? = some o → us[j]? = some u → isOwn o = true ∧ OptR (okN E σF μ w) w (fun j => us[j]?) u (some o)

theorem Rel.taken' {σ' : List Ob} (hF : Rel E slots σ' μ vs w) {s : Sig} {m : List (Option Nat)} {rd : List Nat} {x : s.V} (hg : s.getM slots σ = some (m, rd, x))
    (hob : ∀ t ob, σ[t]? = some ob → ∀ v, μ t = some v → ObR (okN E σ' μ w) w μ t ob)
    (hread : ∀ t ∈ rd, ∀ ob, σ[t]? = some ob → ob ≠ .gone → ∀ v b, μ t = some v → blk v = some b → okN E σ' μ w b)
    (hm : ∀ (j t : Nat) u, m[j]? = some (some t) → μ t = some u → ∃ ob, σ[t]? = some ob ∧ (t ∉ rd → σ'[t]? = some ob)) :
    ∃ us, Taken E s σ' μ vs w m x us ∧ s.n ≤ slots.length := by
  simp only [Sig.getM] at hg
  obtain ⟨m', hres, hg⟩ := Option.bind_eq_some_iff.1 hg
  split at hg
  · rename_i hap
    simp only [Bool.and_eq_true, decide_eq_true_eq] at hap
    obtain ⟨hap, hn⟩ := hap
    obtain ⟨os', ho1, hg⟩ := Option.bind_eq_some_iff.1 hg
    obtain ⟨a, ho2, hg⟩ := Option.bind_eq_some_iff.1 hg
    obtain ⟨vs', hv1, hg⟩ := Option.bind_eq_some_iff.1 hg
    obtain ⟨b, hv2, hg⟩ := Option.bind_eq_some_iff.1 hg
    simp only [Option.some.injEq, Prod.mk.injEq] at hg
    obtain ⟨rfl, hrd, rfl⟩ := hg
    rw [hrd] at hap
    obtain ⟨us, hlen, hnam⟩ := resolve_named hF.vals hob s.srcs s.srcs hres rfl (us := []) ⟨rfl, fun j t hj => by simp at hj, fun j hj => by simp at hj, fun j j' t hj => by simp at hj, fun j i hj => by simp at hj⟩
    simp only [List.length_nil, Nat.zero_add] at hlen
    have hren : Ren m' (idRen s) μ (fun j => us[j]?) := by
      have lt : ∀ (j : Nat) k, m'[j]? = some k → (idRen s).getD j 0 = j := fun j k hj => range_getD (by rw [← hlen]; exact (List.getElem?_eq_some_iff.1 hj).1)
      refine ⟨fun j t v hj hv => ?_, fun j hj => ?_⟩
      · rw [lt j _ hj]
        obtain ⟨u, h1, h2⟩ := hnam.tok j t hj
        rw [h2] at hv; cases hv; exact h1
      · rw [lt j _ hj]; exact hnam.non j hj
    have hnot : ∀ (j t : Nat), m'[j]? = some (some t) → t ∉ rd := by
      intro j t hj ht
      simp only [apart, List.all_eq_true] at hap
      have := hap t ht _ (List.mem_of_getElem? hj)
      simp at this
    have hopt : ∀ (i : Nat) y u, (m'.map fun | some t => σ[t]? | none => none)[i]? = some y → us[i]? = some u → OptR (okN E σ' μ w) w μ u y := by
      intro i y u hy hu
      rw [List.getElem?_map] at hy
      obtain ⟨k, hk, rfl⟩ := Option.map_eq_some_iff.1 hy
      cases k with
      | none =>
        have := hnam.non i hk
        rw [hu] at this; cases this
        rfl
      | some t =>
        obtain ⟨u', h1, h2⟩ := hnam.tok i t hk
        rw [hu] at h1; cases h1
        cases hσ : σ[t]? with
        | none => obtain ⟨ob, g, _⟩ := hm i t u hk h2; rw [hσ] at g; cases g
        | some ob =>
          have hO := hob t ob hσ u h2
          show OptR _ _ _ u (σ[t]?)
          rw [hσ]
          match ob, hO with
          | .box true cells, ⟨b, vs, T, k1, k2, k3, _⟩ => rw [h2] at k1; cases k1; exact ⟨b, vs, T, rfl, k2, k3⟩
          | .box false _, _ => trivial
          | .row true T e l, ⟨v, k1, k2, _⟩ => rw [h2] at k1; cases k1; exact k2
          | .row false _ _ _, _ => trivial
          | .gone, _ => trivial
    obtain ⟨pl, po⟩ := prepO_sound hob s.objs ho1 (fun t ht => hread t (by rw [← hrd]; exact List.mem_append_left _ ht)) hopt
    have hol : os'.length = m'.length := by rw [pl, List.length_map]
    obtain ⟨ql, qo⟩ := getO_put hren s.objs ho2 (by rw [hol]; exact hnam.len) po
    have hpv := prep_sound hob s.vals hv1 (fun t ht => hread t (by rw [← hrd]; exact List.mem_append_right _ ht)) (idx_rvl hF.vals s.idx)
    refine ⟨us, ⟨hnam, hlen, fun j t hj => ?_, ?_, by simp only [Sig.put]; rw [ql, hol], qo⟩, hn⟩
    · obtain ⟨u, h1, h2⟩ := hnam.tok j t hj
      obtain ⟨ob, hσ, hσ'⟩ := hm j t u hj h2
      have hx : (m'.map fun | some t => σ[t]? | none => none)[j]? = some (some ob) := by
        rw [List.getElem?_map, hj]; simp [hσ]
      obtain ⟨ob', k1, k2⟩ := prepO_own s.objs ho1 j ob hx
      have k3 := getO_own s.objs ho2 j ob' k1
      exact ⟨ob, hσ' (hnot j t hj), by rw [← k2]; exact k3⟩
    · have hlv := hF.vals.len
      have hbase : RVL (okN E σ' μ w) w (fun j => us[j]?) (List.replicate s.n .any) (vs.take s.n) := by
        have := RVL.anys (ok := okN E σ' μ w) (w := w) (μ := fun j => us[j]?) (vs.take s.n)
        rwa [List.length_take, Nat.min_eq_left (by omega)] at this
      simp only [Sig.put]
      refine setAll_rvl hbase (getF_put hren s.vals hv2 hpv) (fun k i u v h1 h2 h3 => ?_)
      rw [List.getElem?_map, h1] at h2
      simp only [Option.map_some, Option.some.injEq] at h2
      rw [List.getElem?_take] at h3
      split at h3
      · rw [List.getD_eq_getElem?_getD, h3] at h2; exact h2.symm
      · cases h3
  · cases hg

theorem Rel.taken (h : Rel E slots σ μ vs w) {s : Sig} {m : List (Option Nat)} {rd : List Nat} {x : s.V} (hg : s.getM slots σ = some (m, rd, x)) :
    ∃ us, Taken E s (Gv.freeze σ rd) μ vs w m x us ∧ Rel E slots (Gv.freeze σ rd) μ vs w ∧ s.n ≤ slots.length := by
  have hF := h.freeze rd
  obtain ⟨us, h1, h2⟩ := hF.taken' hg hF.weakobs hF.read_ok (fun j t u _ hu => by
    have hlt := h.dom t u hu
    refine ⟨_, List.getElem?_eq_getElem hlt, fun hn => ?_⟩
    rw [freeze_get, if_neg hn, List.getElem?_eq_getElem hlt])
  exact ⟨us, h1, hF, h2⟩

/-- The state that a piece of code begins in. -/
theorem Taken.rel {s : Sig} {σF : List Ob} {m : List (Option Nat)} {x : s.V} {us : List Value} (h : Rel E slots σF μ vs w) (k : Taken E s σF μ vs w m x us) :
    Rel E (s.put x).slots (s.put x).σ (fun j => us[j]?) (vs.take s.n) w ∧ (∀ b, okN E σF μ w b → okN E (s.put x).σ (fun j => us[j]?) w b) ∧
      ∀ j b, ownB (s.put x).σ (fun j => us[j]?) j b → ∃ t, m[j]? = some (some t) ∧ ownB σF μ t b := by
  have hown : ∀ j b, ownB (s.put x).σ (fun j => us[j]?) j b → ∃ t, m[j]? = some (some t) ∧ ownB σF μ t b := by
    rintro j b ⟨o, v, h1, h2, h3, h4⟩
    have hj : j < m.length := by rw [← k.olen]; exact (List.getElem?_eq_some_iff.1 h1).1
    cases hm : m[j] with
    | none =>
      have := k.named.non j (by rw [List.getElem?_eq_getElem hj, hm])
      simp only at h3
      rw [this] at h3; cases h3
      simp [blk] at h4
    | some t =>
      have hm' : m[j]? = some (some t) := by rw [List.getElem?_eq_getElem hj, hm]
      obtain ⟨u, e1, e2⟩ := k.named.tok j t hm'
      simp only at h3
      rw [e1] at h3; cases h3
      obtain ⟨o', g1, g2⟩ := k.own j t hm'
      exact ⟨t, hm', o', v, g1, g2, e2, h4⟩
  have hok : ∀ b, okN E σF μ w b → okN E (s.put x).σ (fun j => us[j]?) w b := fun b hb => ⟨hb.1, hb.2.1, fun j hj => by
    obtain ⟨t, _, ht⟩ := hown j b hj
    exact hb.2.2 t ht⟩
  refine ⟨{
    vals := k.vals.kp ⟨hok, fun _ _ => rfl⟩ (fun _ _ e => e)
    objs := fun j o ho v hv => ?_
    dist := fun j j' b h1 h2 => by
      obtain ⟨t, e1, e2⟩ := hown j b h1
      obtain ⟨t', e3, e4⟩ := hown j' b h2
      have := h.dist t t' b e2 e4
      subst this
      exact k.named.dis j j' t e1 e3
    own := fun j b hb => by
      obtain ⟨t, _, e2⟩ := hown j b hb
      exact h.own t b e2
    dom := fun j v hv => by
      rw [k.olen, ← k.named.len]
      exact (List.getElem?_eq_some_iff.1 hv).1
    frm := h.frm }, hok, hown⟩
  obtain ⟨k1, k2⟩ := k.objs j o v ho hv
  have kp : Kp (okN E σF μ w) (okN E (s.put x).σ (fun j => us[j]?) w) w w := ⟨hok, fun _ _ => rfl⟩
  match o, k1, k2 with
  | .box true cells, _, ⟨b, cs, T, e1, e2, e3⟩ => exact ⟨b, cs, T, by rw [← e1]; exact hv, e2, e3.kp kp (fun _ _ e => e), fun e => by cases e⟩
  | .row true T e l, _, hr => exact ⟨v, hv, hr.kp kp (fun _ _ => rfl), fun e => by cases e⟩

end
end Gv
