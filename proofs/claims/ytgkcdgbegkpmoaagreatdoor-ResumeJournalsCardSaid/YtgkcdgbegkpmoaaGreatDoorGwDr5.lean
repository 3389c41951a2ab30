/- Regions of drawn order: the theorem. -/
import Derived.Test.YtgkcdgbegkpmoaaGreatDoorGwDr4
namespace Gv
open Go Go.RowKit
set_option linter.unusedVariables false
set_option linter.unusedSectionVars false
set_option linter.unusedSimpArgs false

section
variable [GlobI] {E : Env} {avs : List AV} {slots : List AV} {σ σ' σ'' : List Ob} {μ μ' : Nat → Option Value} {vs : List Value} {w w' : World} {ok ok' : Nat → Prop} {α : Type} {x : α} {P : Program} {Q : Exit → Act → World → Prop}
variable {ops : Array Oper}

theorem anys_len : ∀ (l : List Oper) (st : St), (anys l st).slots.length = st.slots.length
  | [], st => rfl
  | o :: l, st => (anys_len l _).trans (St.put_len _ _ _)

theorem anys_out : ∀ (l : List Oper) (st : St) (t : Nat), (∀ o ∈ l, o.dst ≠ some t) → (anys l st).slots[t]? = st.slots[t]?
  | [], st, t, _ => rfl
  | o :: l, st, t, h => (anys_out l _ t (fun o' ho' => h o' (List.mem_cons_of_mem _ ho'))).trans (St.put_get (h o (by simp)))

theorem anys_any : ∀ (l : List Oper) (st : St) (t : Nat), st.slots[t]? = some .any → (anys l st).slots[t]? = some .any
  | [], st, t, h => h
  | o :: l, st, t, h => by
    refine anys_any l (st.put o.dst .any) t ?_
    by_cases hd : o.dst = some t
    · rw [hd]; exact St.put_self (List.getElem?_eq_some_iff.1 h).1
    · rw [St.put_get hd]; exact h

theorem anys_in : ∀ (l : List Oper) (st : St) (t : Nat), (∃ o ∈ l, o.dst = some t) → t < st.slots.length → (anys l st).slots[t]? = some .any
  | [], st, t, ⟨o, h, _⟩, _ => by simp at h
  | o :: l, st, t, ⟨o', h, hd⟩, hlt => by
    by_cases ho : o.dst = some t
    · refine anys_any l (st.put o.dst .any) t ?_
      rw [ho]; exact St.put_self hlt
    · rcases List.mem_cons.1 h with rfl | h
      · exact absurd hd ho
      · exact anys_in l (st.put o.dst .any) t ⟨o', h, hd⟩ (by rw [St.put_len]; exact hlt)

theorem kept_of {b : List Oper} {a a' : Act} (hk : Kp (okN E σ μ w) (okN E σ μ w') w w') (hr : Rel E [] σ μ [] w → Rel E [] σ μ [] w') (hs : Same b a a') (hz : a'.tmps.size = a.tmps.size) : Kept E ops σ μ b a w a' w' := by
  refine ⟨fun st h => ?_, fun j s hj hsd => yielded_same hj (hs.2 s hsd), hs.2, hs.1⟩
  have hlen : st.slots.length ≤ a.tmps.size := by
    have := (show RVL _ w μ st.slots _ from h.vals).len
    rw [List.length_take, Array.length_toList] at this; omega
  have hb := hr { h with vals := RVL.nil_iff.2 rfl }
  unfold HR
  refine { hb with vals := RVL.of_get (by rw [anys_len, List.length_take, Array.length_toList, hz]; omega) (fun t av v ht hv => ?_) }
  by_cases hd : ∃ o ∈ b, o.dst = some t
  · have hlt : t < st.slots.length := by rw [← anys_len b st]; exact (List.getElem?_eq_some_iff.1 ht).1
    rw [anys_in b st t hd hlt] at ht
    cases ht; trivial
  · have hd' : ∀ o ∈ b, o.dst ≠ some t := fun o ho e => hd ⟨o, ho, e⟩
    rw [anys_out b st t hd'] at ht
    obtain ⟨v', h1, h2⟩ := (show RVL _ w μ st.slots _ from h.vals).get t av ht
    rw [anys_len] at hv
    rw [List.getElem?_take] at hv h1
    split at hv
    · rename_i hlt
      rw [if_pos hlt] at h1
      rw [Array.getElem?_toList] at hv h1
      rw [hs.2 t hd', h1] at hv
      cases hv
      exact h2.kp hk (fun _ _ e => e)
    · cases hv

theorem Lst.bdry {m len : Nat} {listed : Array Bool} (h : Lst ops m len [] listed) : Lst ops (m + len) 0 [] listed :=
  ⟨h.size, h.fit, h.val, fun i hi => by simp at hi, h.down⟩

theorem BOk.split : ∀ {gs bs : List (List Oper)} {m : Nat}, BOk ops m (gs ++ bs) → BOk ops m gs ∧ BOk ops (m + gs.flatten.length) bs
  | [], bs, m, h => ⟨trivial, by simpa using h⟩
  | g :: gs, bs, m, h => by
    obtain ⟨h1, h2, h3⟩ := h
    obtain ⟨h4, h5⟩ := BOk.split h3
    exact ⟨⟨h1, h2, h4⟩, by rw [List.flatten_cons, List.length_append, ← Nat.add_assoc]; exact h5⟩

theorem seg_fit {m : Nat} {b : List Oper} (h : Seg ops m b) (hm : m ≤ ops.size) : m + b.length ≤ ops.size := by
  cases hb : b.length with
  | zero => simpa using hm
  | succ n =>
    have hlt : n < b.length := by omega
    have := (Array.getElem?_eq_some_iff.1 (h n b[n] (List.getElem?_eq_getElem hlt))).1
    omega

/-- One operation by itself. -/
theorem single_any (hb : back 0 ops.toList = true) {m : Nat} {o : Oper} (ho : ops[m]? = some o) (hc : Cut ops (m + 1)) {rest : Nat} {a : Act} {listed : Array Bool} (hl : Lst ops m 0 [] listed)
    (h : wpOp P ops Q m (fun a' w' => ∀ listed', Lst ops (m + 1) 0 [] listed' → wpAny P .any ops Q rest listed' a' w') a w) : wpAny P .any ops Q (1 + rest) listed a w := by
  have hfit : m + 1 ≤ ops.size := (Array.getElem?_eq_some_iff.1 ho).1
  have hl' : Lst ops m 1 (List.range' m 1) listed := Lst.next (len := 0) hl hfit
  have := block_any (P := P) (Q := Q) hb (m := m) (len := 1) hc (rest := rest) (fun U a' w' => (U ≠ [] ∧ a' = a ∧ w' = w) ∨ (U = [] ∧ ∀ listed', Lst ops (m + 1) 0 [] listed' → wpAny P .any ops Q rest listed' a' w')) ?_ ?_ (List.range' m 1) a w listed (by simp) hl' (.inl ⟨by simp, rfl, rfl⟩)
  · simpa using this
  · intro U a' w' j o' hn hsub hj ho' _ hI
    rcases hI with ⟨_, rfl, rfl⟩ | ⟨rfl, _⟩
    · have hjm : j = m := by have := hsub j hj; omega
      subst hjm
      refine wpOp_mono (fun a'' w'' hh => .inr ⟨?_, hh⟩) h
      -- all of one is done
      cases hU : U.erase j with
      | nil => rfl
      | cons q r =>
        exfalso
        have hq : q ∈ U.erase j := by rw [hU]; simp
        have := hsub q (List.mem_of_mem_erase hq)
        have : q = j := by omega
        subst this
        exact hn.not_mem_erase hq
    · simp at hj
  · intro a' w' listed' hl2 hI
    rcases hI with ⟨h0, _⟩ | ⟨_, hh⟩
    · exact absurd rfl h0
    · exact hh listed' hl2.bdry

theorem evGB_sound {C : Cfg} (hC : ∀ g l N, C.orc g l = some N → Sat C.P g N) (hb : back 0 ops.toList = true) {kn : List (Nat × Bool)} : ∀ (bs : List (List Oper)) (m : Nat) (st : St) (K : St → Option Bool) (c : Bool), evGB C kn m bs st K = some c →
    ∀ (a : Act) (w : World) (listed : Array Bool) (rest : Nat), st.σ = σ → BOk ops m bs → HR E σ μ st a w → Kn ops kn bs.flatten a → Lst ops m 0 [] listed →
    (∀ a' w' listed' st', K st' = some c → HR E σ μ st' a' w' → Kept E ops σ μ bs.flatten a w a' w' → Lst ops (m + bs.flatten.length) 0 [] listed' → wpAny C.P .any ops Q rest listed' a' w') → wpAny C.P .any ops Q (bs.flatten.length + rest) listed a w
  | [], m, st, K, c, h => fun a w listed rest hσ hbo hr hkn hl hK => by
    simp only [evGB] at h
    simpa using hK a w listed st h hr (Kept.refl a w) (by simpa using hl)
  | b :: bs, m, st, K, c, h => fun a w listed rest hσ hbo hr hkn hl hK => by
    obtain ⟨hseg, hcut, hbo'⟩ := hbo
    simp only [evGB] at h
    split at h
    · rename_i hok
      have hnd := distinct_spec hok
      obtain ⟨stF, L, h1, T⟩ := evAB_spec (E := E) hC b m st _ c h (fun k o hk => ⟨zipFrom_get b m k o hk, fun j hj => by
        have := back_spec ops.toList 0 hb (m + k) o (by rw [Array.getElem?_toList]; exact hseg k o hk) j hj
        omega⟩) hnd
      have hfit := seg_fit hseg (by have := hl.fit; omega)
      have hl' : Lst ops m b.length (List.range' m b.length) listed := Lst.next (len := 0) hl hfit
      obtain ⟨hσF, _⟩ := T.pur rfl
      rw [List.flatten_cons, List.length_append, Nat.add_assoc]
      rw [List.flatten_cons] at hkn
      have hknb : Kn ops kn b a := fun g hg => by
        obtain ⟨s, k1, k2, k3⟩ := hkn g hg
        exact ⟨s, k1, k2, fun o ho => k3 o (List.mem_append_left _ ho)⟩
      refine block_sound hb hseg hcut T hnd (by rw [hσ]; exact hr) hknb (fun a1 w1 listed1 μ1 hl1 hr1 hp1 => ?_) hl'
      have hμ := hp1.pur rfl
      rw [hσF, hσ, hμ] at hr1
      have hkp1 := hp1.kp
      rw [hσF, hσ, hμ] at hkp1
      have hb1 := hp1.base
      rw [hσF, hσ, hμ] at hb1
      have hkept : Kept E ops σ μ b a w a1 w1 := kept_of hkp1 (fun _ => hb1) hp1.same hp1.size
      refine evGB_sound hC hb bs _ stF K c h1 a1 w1 listed1 rest (by rw [hσF, hσ]) hbo' hr1 (hkn.kept hkept) hl1.bdry (fun a' w' listed' st' k1 k2 k3 k4 => hK a' w' listed' st' k1 k2 ?_ ?_)
      · rw [List.flatten_cons]; exact hkept.trans k3
      · rw [List.flatten_cons, List.length_append, ← Nat.add_assoc]; exact k4
    · cases h

/-- A group that is not wanted, in whatever order. -/
theorem skipB_sound (hb : back 0 ops.toList = true) {j : Nat} {want : Bool} {s : Nat} (hj : dstOf ops j = some s) : ∀ (bs : List (List Oper)) (m : Nat) (a : Act) (w : World) (listed : Array Bool) (rest : Nat), grpAll (j, want) s bs.flatten = true → BOk ops m bs →
    (∃ b, yielded ops a.tmps j = some b ∧ b ≠ want) → Lst ops m 0 [] listed →
    (∀ a' listed', Kept E ops σ μ bs.flatten a w a' w → Lst ops (m + bs.flatten.length) 0 [] listed' → wpAny P .any ops Q rest listed' a' w) → wpAny P .any ops Q (bs.flatten.length + rest) listed a w
  | [], m, a, w, listed, rest, _, _, _, hl, hK => by simpa using hK a listed (Kept.refl a w) (by simpa using hl)
  | b :: bs, m, a, w, listed, rest, hg, hbo, hy, hl, hK => by
    obtain ⟨hseg, hcut, hbo'⟩ := hbo
    have hfit := seg_fit hseg (by have := hl.fit; omega)
    have hl' : Lst ops m b.length (List.range' m b.length) listed := Lst.next (len := 0) hl hfit
    simp only [grpAll, List.flatten_cons, List.all_append, Bool.and_eq_true] at hg
    have hgb : ∀ o ∈ b, o.dst ≠ some s ∧ o.guard = some (j, want) := by
      intro o ho
      have := List.all_eq_true.1 hg.1 o ho
      simp only [Bool.and_eq_true, Bool.not_eq_true'] at this
      refine ⟨fun e => by simp [e, dIs] at this, ?_⟩
      cases hgd : o.guard with
      | none => simp [hgd] at this
      | some h =>
        obtain ⟨j', want'⟩ := h
        simp only [hgd, gEq, Bool.and_eq_true, beq_iff_eq] at this
        rw [this.2.1, this.2.2]
    rw [List.flatten_cons, List.length_append, Nat.add_assoc]
    have := block_any (P := P) (Q := Q) hb hcut (rest := bs.flatten.length + rest) (fun U a' w' => w' = w ∧ Same b a a' ∧ a'.tmps.size = a.tmps.size) ?_ ?_ (List.range' m b.length) a w listed (List.nodup_range' (step := 1)) hl' ⟨rfl, Same.refl _ _, rfl⟩
    · simpa using this
    · intro U a' w' q o hn hsub hq ho _ ⟨hw, hs, hz⟩
      subst hw
      have hmem : o ∈ b := by
        have hq' := hsub q hq
        obtain ⟨k, rfl⟩ : ∃ k, q = m + k := ⟨q - m, by omega⟩
        have hkl : k < b.length := by omega
        have := hseg k b[k] (List.getElem?_eq_getElem hkl)
        rw [ho] at this; cases this
        exact List.getElem_mem hkl
      obtain ⟨h1, h2⟩ := hgb o hmem
      have hnot : Region.wanted o (yielded ops a'.tmps) = false := by
        obtain ⟨c, hc, hne⟩ := hy
        have : yielded ops a'.tmps j = some c := by rw [yielded_same hj (hs.2 s (fun o' ho' => (hgb o' ho').1))]; exact hc
        simp only [Region.wanted, h2, this]
        simp [hne]
      unfold wpOp
      simp only [ho, hnot, Bool.false_eq_true, if_false]
      exact ⟨trivial, hs.trans (Same.one hmem _ _), by rw [Act.put_size]; exact hz⟩
    · intro a1 w1 listed1 hl1 ⟨hw, hs, hz⟩
      subst hw
      have hkept : Kept E ops σ μ b a w1 a1 w1 := kept_of ⟨fun _ h => h, fun _ _ => rfl⟩ (fun h => h) hs hz
      refine skipB_sound hb hj bs _ a1 w1 listed1 rest hg.2 hbo' ?_ hl1.bdry (fun a' listed' k1 k2 => hK a' listed' ?_ ?_)
      · obtain ⟨c, hc, hne⟩ := hy
        exact ⟨c, by rw [yielded_same hj (hs.2 s (fun o' ho' => (hgb o' ho').1))]; exact hc, hne⟩
      · rw [List.flatten_cons]; exact hkept.trans k1
      · rw [List.flatten_cons, List.length_append, ← Nat.add_assoc]; exact k2

theorem splitB_spec {s : Nat} : ∀ {l gs bs : List (List Oper)} {p : Oper}, splitB s l = some (gs, p, bs) → l = gs ++ [p] :: bs ∧ p.guard = none ∧ ∃ x y, p.op = .pick (.tmp s) x y
  | [], gs, bs, p, h => by simp [splitB] at h
  | b :: l, gs, bs, p, h => by
    have rec' : ((splitB s l).bind fun x => some (b :: x.1, x.2.1, x.2.2)) = some (gs, p, bs) → b :: l = gs ++ [p] :: bs ∧ p.guard = none ∧ ∃ x y, p.op = .pick (.tmp s) x y := by
      intro h
      obtain ⟨⟨g', p', r'⟩, h1, h⟩ := Option.bind_eq_some_iff.1 h
      simp only [Option.some.injEq, Prod.mk.injEq] at h
      obtain ⟨rfl, rfl, rfl⟩ := h
      obtain ⟨h2, h3⟩ := splitB_spec h1
      exact ⟨by rw [h2]; rfl, h3⟩
    simp only [splitB] at h
    split at h
    · rename_i o
      split at h
      · rename_i t x y hop hgd
        split at h
        · rename_i hc
          simp only [beq_iff_eq] at hc
          simp only [Option.some.injEq, Prod.mk.injEq] at h
          obtain ⟨rfl, rfl, rfl⟩ := h
          exact ⟨rfl, hgd, x, y, by rw [hop, hc]⟩
        · exact rec' h
      · exact rec' h
    · exact rec' h

end
end Gv
