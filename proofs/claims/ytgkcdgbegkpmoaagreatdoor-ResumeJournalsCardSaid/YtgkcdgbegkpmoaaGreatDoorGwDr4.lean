/- Regions of drawn order: a block, the theorem. -/
import Derived.Test.YtgkcdgbegkpmoaaGreatDoorGwDr3
namespace Gv
open Go Go.RowKit
set_option linter.unusedVariables false
set_option linter.unusedSectionVars false
set_option linter.unusedSimpArgs false

section
variable [GlobI] {E : Env} {avs : List AV} {slots : List AV} {σ σ' σ'' : List Ob} {μ μ' : Nat → Option Value} {vs : List Value} {w w' : World} {ok ok' : Nat → Prop} {α : Type} {x : α} {P : Program} {Q : Exit → Act → World → Prop}
variable {ops : Array Oper}

theorem Rel.ext (h : Rel E slots σ μ vs w) (he : Ext σ σ') (hl : σ.length ≤ σ'.length) : Rel E slots σ' μ vs w := by
  have old : ∀ (t : Nat) v ob', μ t = some v → σ'[t]? = some ob' → ∃ ob, σ[t]? = some ob ∧ (ob' = ob ∨ ob' = Gv.frz ob) := by
    intro t v ob' hv ho
    have hlt := h.dom t v hv
    refine ⟨σ[t], List.getElem?_eq_getElem hlt, ?_⟩
    rcases he t _ (List.getElem?_eq_getElem hlt) with k | k
    · rw [k] at ho; cases ho; exact .inl rfl
    · rw [k] at ho; cases ho; exact .inr rfl
  have hown : ∀ t b, ownB σ' μ t b → ownB σ μ t b ∧ ∀ ob, σ[t]? = some ob → σ'[t]? = some ob := by
    rintro t b ⟨ob', v, h1, h2, h3, h4⟩
    obtain ⟨ob, k1, k2⟩ := old t v ob' h3 h1
    rcases k2 with rfl | rfl
    · exact ⟨⟨_, v, k1, h2, h3, h4⟩, fun o ho => by rw [k1] at ho; cases ho; exact h1⟩
    · rw [frz_own] at h2; cases h2
  have k : Kp (okN E σ μ w) (okN E σ' μ w) w w := ⟨fun b hb => ⟨hb.1, hb.2.1, fun t ht => hb.2.2 t (hown t b ht).1⟩, fun _ _ => rfl⟩
  exact {
    vals := h.vals.kp k (fun _ _ e => e)
    objs := fun t ob' ho v hv => by
      obtain ⟨ob, k1, k2⟩ := old t v ob' hv ho
      have hob := h.objs t ob k1 v hv
      rcases k2 with rfl | rfl
      · exact hob.kp k (fun _ _ e => e) (fun _ _ _ _ => rfl)
      · have hok : ∀ b, ob ≠ .gone → blk v = some b → okN E σ' μ w b := by
          intro b hg hb
          by_cases hi : isOwn ob = true
          · have hw : ownB σ μ t b := ⟨ob, v, k1, hi, hv, hb⟩
            refine ⟨(h.own t b hw).1, .inr (h.own t b hw).2, fun s hs => ?_⟩
            obtain ⟨g1, g2⟩ := hown s b hs
            have := h.dist s t b g1 hw
            subst this
            have := g2 ob k1
            rw [ho] at this
            obtain ⟨ob2, v2, e1, e2, _, _⟩ := hs
            rw [ho] at e1; cases e1
            rw [frz_own] at e2; cases e2
          · exact k.imp b (hob.frozen_ok (by simpa using hi) hg hv hb)
        match ob, hob with
        | .box own cells, ⟨b, cs, T, h1, h2, h3, h4⟩ => exact ⟨b, cs, T, h1, h2, h3.kp k (fun _ _ e => e), fun _ => hok b (by simp) (by rw [hv] at h1; cases h1; rfl)⟩
        | .row own T e l, ⟨v', h1, h2, h3⟩ => rw [hv] at h1; cases h1; exact ⟨v, hv, h2.kp k (fun _ _ => rfl), fun _ b hb => hok b (by simp) hb⟩
        | .gone, _ => trivial
    dist := fun t t' b h1 h2 => h.dist t t' b (hown t b h1).1 (hown t' b h2).1
    own := fun t b h1 => h.own t b (hown t b h1).1
    dom := fun t v hv => Nat.lt_of_lt_of_le (h.dom t v hv) hl
    frm := h.frm }

theorem filterMap_nodup {β γ : Type} {f : β → Option γ} : ∀ {l : List β}, (l.filterMap f).Nodup → ∀ (k k' : Nat) o o' d, l[k]? = some o → l[k']? = some o' → f o = some d → f o' = some d → k = k'
  | [], _, k, k', o, o', d, h, _, _, _ => by simp at h
  | q :: l, hn, k, k', o, o', d, h, h', hf, hf' => by
    have hn' : (l.filterMap f).Nodup := by
      rw [List.filterMap_cons] at hn
      split at hn
      · exact hn
      · exact (List.nodup_cons.1 hn).2
    have hd : ∀ q', q' ∈ l → f q = some d → f q' = some d → False := by
      intro q' hq' h1 h2
      rw [List.filterMap_cons, h1] at hn
      exact (List.nodup_cons.1 hn).1 (List.mem_filterMap.2 ⟨q', hq', h2⟩)
    cases k with
    | zero =>
      cases k' with
      | zero => rfl
      | succ k' => simp at h; subst h; exact (hd o' (List.mem_of_getElem? (by simpa using h')) hf hf').elim
    | succ k =>
      cases k' with
      | zero => simp at h'; subst h'; exact (hd o (List.mem_of_getElem? (by simpa using h)) hf' hf).elim
      | succ k' => rw [filterMap_nodup hn' k k' o o' d (by simpa using h) (by simpa using h') hf hf']

theorem zipFrom_get : ∀ (r : List Oper) (m k : Nat) o, r[k]? = some o → (m + k, o.dst) ∈ zipFrom m r
  | [], m, k, o, h => by simp at h
  | q :: r, m, k, o, h => by
    cases k with
    | zero => simp at h; subst h; simp [zipFrom]
    | succ k =>
      simp only [zipFrom, List.mem_cons]
      right
      have := zipFrom_get r (m + 1) k o (by simpa using h)
      rwa [show m + 1 + k = m + (k + 1) by omega] at this

theorem zipFrom_mem : ∀ (r : List Oper) (m : Nat) p, p ∈ zipFrom m r → ∃ k o, p = (m + k, o.dst) ∧ r[k]? = some o
  | [], m, p, h => by simp [zipFrom] at h
  | q :: r, m, p, h => by
    simp only [zipFrom, List.mem_cons] at h
    rcases h with rfl | h
    · exact ⟨0, q, rfl, rfl⟩
    · obtain ⟨k, o, rfl, hk⟩ := zipFrom_mem r (m + 1) p h
      exact ⟨k + 1, o, by rw [show m + 1 + k = m + (k + 1) by omega], by simpa using hk⟩

theorem yielded_same {j s : Nat} {a a' : Act} (hj : dstOf ops j = some s) (h : a'.tmps[s]? = a.tmps[s]?) : yielded ops a'.tmps j = yielded ops a.tmps j := by
  unfold dstOf at hj
  unfold yielded
  rw [hj]
  simp [h]

/-- What holds of a block's operations, some of them done. -/
structure Part (E : Env) (b : List Oper) (m : Nat) (stF : St) (L : List (AV × Option Nat)) (pure : Bool) (μ0 : Nat → Option Value) (a0 : Act) (w0 : World) (U : List Nat) (μ : Nat → Option Value) (a : Act) (w : World) : Prop where
  base : Rel E [] stF.σ μ [] w
  kp : Kp (okN E stF.σ μ0 w0) (okN E stF.σ μ w) w0 w
  ext : ∀ t u, μ0 t = some u → μ t = some u
  non : ∀ (k : Nat) av n, L[k]? = some (av, some n) → m + k ∈ U → μ n = none
  val : ∀ (k : Nat) o av tk d v, b[k]? = some o → L[k]? = some (av, tk) → m + k ∉ U → o.dst = some d → a.tmps[d]? = some v → RV (okN E stF.σ μ w) w μ av v
  same : Same b a0 a
  size : a.tmps.size = a0.tmps.size
  pur : pure = true → μ = μ0

theorem Act.put_size (a : Act) (d : Option Tmp) (v : Value) : (a.put d v).tmps.size = a.tmps.size := by
  cases d <;> simp [Act.put]

theorem block_sound (hb : back 0 ops.toList = true) {pure : Bool} {kn : List (Nat × Bool)} {b : List Oper} {m : Nat} (hseg : Seg ops m b) (hc : Cut ops (m + b.length)) {st0 stF : St} {L : List (AV × Option Nat)}
    (T : Trace P E pure kn (zipFrom m b) b st0 stF L) (hd : (b.filterMap fun o => o.dst).Nodup) {a0 : Act} {w0 : World} {μ0 : Nat → Option Value} (h0 : HR E st0.σ μ0 st0 a0 w0) (hkn : Kn ops kn b a0) {rest : Nat}
    (done : ∀ a w listed μ, Lst ops m b.length [] listed → HR E stF.σ μ stF a w → Part E b m stF L pure μ0 a0 w0 [] μ a w → wpAny P .any ops Q rest listed a w)
    {listed : Array Bool} (hl : Lst ops m b.length (List.range' m b.length) listed) : wpAny P .any ops Q (b.length + rest) listed a0 w0 := by
  have hF : HR E stF.σ μ0 st0 a0 w0 := Rel.ext h0 T.ext T.σlen
  have hlen0 : st0.slots.length ≤ a0.tmps.size := by
    have := (show RVL _ w0 μ0 st0.slots _ from h0.vals).len
    rw [List.length_take, Array.length_toList] at this; omega
  -- the value of a temporary outside the block, and inside
  have out : ∀ {U μ a w}, Part E b m stF L pure μ0 a0 w0 U μ a w → ∀ t, (∀ o ∈ b, o.dst ≠ some t) → RV (okN E stF.σ μ w) w μ (stF.get t) (a.tmps.getD t undef) := by
    intro U μ a w hp t ht
    have h1 := evOp_rv hF.vals (.tmp t)
    simp only [evOp, Act.eval] at h1
    have h2 : stF.get t = st0.get t := by simp only [St.get, List.getD_eq_getElem?_getD, T.out t ht]
    have h3 : a.tmps.getD t undef = a0.tmps.getD t undef := by simp only [Array.getD_eq_getD_getElem?, hp.same.2 t ht]
    rw [h2, h3]
    exact h1.kp hp.kp hp.ext
  have ins : ∀ {U μ a w}, Part E b m stF L pure μ0 a0 w0 U μ a w → ∀ (k : Nat) o d, b[k]? = some o → o.dst = some d → m + k ∉ U → RV (okN E stF.σ μ w) w μ (stF.get d) (a.tmps.getD d undef) := by
    intro U μ a w hp k o d hk hod hU
    rcases Nat.lt_or_ge d st0.slots.length with hlt | hge
    · have hkl : k < L.length := by rw [T.len]; exact (List.getElem?_eq_some_iff.1 hk).1
      have hL : L[k]? = some (L[k].1, L[k].2) := by rw [List.getElem?_eq_getElem hkl]
      have hs := T.ins k o _ _ d hk hL hod hlt
      have hds : d < a.tmps.size := Nat.lt_of_lt_of_le hlt (by rw [hp.size]; exact hlen0)
      have hv := hp.val k o _ _ d a.tmps[d] hk hL hU hod (Array.getElem?_eq_getElem hds)
      rw [show stF.get d = L[k].1 by simp [St.get, List.getD_eq_getElem?_getD, hs], show a.tmps.getD d undef = a.tmps[d] by simp [hds]]
      exact hv
    · rw [show stF.get d = .any by simp only [St.get, List.getD_eq_getElem?_getD]; rw [List.getElem?_eq_none (by rw [T.slen]; exact hge)]; rfl]
      trivial
  have hnd := List.nodup_range' (s := m) (n := b.length) (step := 1)
  have main := block_any (P := P) (Q := Q) hb hc (rest := rest) (fun U a w => ∃ μ, Part E b m stF L pure μ0 a0 w0 U μ a w) ?_ ?_ (List.range' m b.length) a0 w0 listed hnd hl ?_
  · rwa [List.length_range'] at main
  · -- one operation
    intro U a w j o hn hsub hjU ho hdeps ⟨μ, hp⟩
    by_cases hjm : m ≤ j ∧ j < m + b.length
    · obtain ⟨k, rfl⟩ : ∃ k, j = m + k := ⟨j - m, by omega⟩
      have hk : b[k]? = some o := by
        have hkl : k < b.length := by omega
        have := hseg k b[k] (List.getElem?_eq_getElem hkl)
        rw [ho] at this; cases this
        exact List.getElem?_eq_getElem hkl
      have hkl : k < L.length := by rw [T.len]; exact (List.getElem?_eq_some_iff.1 hk).1
      have hL : L[k]? = some (L[k].1, L[k].2) := by rw [List.getElem?_eq_getElem hkl]
      obtain ⟨hgok, hdo, htok⟩ := T.act k o _ _ hk hL
      have hkn' : Kn ops kn b a := by
        intro g hg
        obtain ⟨s, h1, h2, h3⟩ := hkn g hg
        exact ⟨s, h1, by rw [yielded_same h1 (hp.same.2 s h3)]; exact h2, h3⟩
      unfold wpOp
      simp only [ho, gOk_wanted hkn' hgok, if_true]
      left
      refine Oper.wp_mono (fun a' w' hq => ?_) (hdo μ a w Q hp.base (fun y => ?_) (fun n hn' => hp.non k _ n (by rw [hL, hn']) hjU))
      · obtain ⟨v, μ', rfl, q1, q2, q3, q4, q5⟩ := hq
        refine ⟨μ', q1, ⟨fun b hb => q2.imp b (hp.kp.imp b hb), fun b hb => (q2.same b (hp.kp.imp b hb)).trans (hp.kp.same b hb)⟩, fun t u hu => q3 t u (hp.ext t u hu), fun k' av n hL' hU' => ?_, fun k' o' av tk d u hk' hL' hU' hod hu => ?_, hp.same.trans (Same.one (List.mem_of_getElem? hk) a v), by rw [Act.put_size]; exact hp.size, fun hpp => ?_⟩
        · have hne : k' ≠ k := by rintro rfl; exact hn.not_mem_erase hU'
          have hmem := List.mem_of_mem_erase hU'
          rw [q4 n (fun e => hne (T.tok k' k _ L[k].1 n hL' (by rw [hL, e])))]
          exact hp.non k' av n hL' hmem
        · by_cases hkk : k' = k
          · subst hkk
            rw [hk] at hk'; cases hk'
            rw [hL] at hL'
            simp only [Option.some.injEq, Prod.mk.injEq] at hL'
            obtain ⟨rfl, _⟩ := hL'
            have : u = v := by
              rw [hod] at hu
              simp only [Act.put, Array.getElem?_setIfInBounds_self] at hu
              split at hu
              · cases hu; rfl
              · cases hu
            subst this; exact q5
          · have hnU : m + k' ∉ U := fun hm => hU' ((List.mem_erase_of_ne (by omega)).2 hm)
            have hdd : o.dst ≠ some d := fun e => hkk (filterMap_nodup hd k' k o' o d hk' hk hod e)
            have hu' : a.tmps[d]? = some u := by
              cases hod' : o.dst with
              | none => rw [hod'] at hu; exact hu
              | some e =>
                rw [hod'] at hu
                have hne : e ≠ d := fun h => hdd (by rw [hod', h])
                simpa [Act.put, Array.getElem?_setIfInBounds_ne hne] using hu
            exact (hp.val k' o' av tk d u hk' hL' hnU hod hu').kp q2 q3
        · have hn0 := (T.pur hpp).2 _ (List.getElem_mem hkl)
          have hpe := hp.pur hpp
          funext t
          rw [q4 t (by rw [hn0]; simp), hpe]
      · -- an operand
        cases y with
        | tmp t =>
          simp only [mev]
          split
          · trivial
          · rename_i hmask
            by_cases hdst : ∃ (k' : Nat) (o' : Oper), b[k']? = some o' ∧ o'.dst = some t
            · obtain ⟨k', o', hk', hod'⟩ := hdst
              have hmem := zipFrom_get b m k' o' hk'
              have hbit : (depsM o).testBit (m + k') = true := by
                cases hbb : (depsM o).testBit (m + k') with
                | true => rfl
                | false =>
                  exfalso; apply hmask
                  rw [List.any_eq_true]
                  exact ⟨_, hmem, by simp [hod', dIs, hbb]⟩
              refine ins hp k' o' t hk' hod' (fun hm => ?_)
              have := hdeps _ hm
              rw [hbit] at this; cases this
            · refine out hp t (fun o' ho' hod' => hdst ?_)
              obtain ⟨k', hk'⟩ := List.getElem?_of_mem ho'
              exact ⟨k', o', hk', hod'⟩
        | const v => exact RV.ofVal v
        | func f => exact (show RV _ _ _ (evOp st0 (.func f)) (a0.eval (.func f)) from evOp_rv hF.vals (.func f)).kp hp.kp hp.ext
        | global g => exact (show RV _ _ _ (evOp st0 (.global g)) (a0.eval (.global g)) from evOp_rv hF.vals (.global g)).kp hp.kp hp.ext
    · exfalso
      exact hjm (hsub j hjU)
  · intro a w listed' hl' ⟨μ, hp⟩
    refine done a w listed' μ hl' ?_ hp
    have hsl : stF.slots.length ≤ a.tmps.size := by rw [T.slen, hp.size]; exact hlen0
    unfold HR
    refine { hp.base with vals := RVL.of_get (by rw [List.length_take, Array.length_toList]; omega) (fun t av v ht hv => ?_) }
    have hg : stF.get t = av := by simp [St.get, List.getD_eq_getElem?_getD, ht]
    have hv' : a.tmps.getD t undef = v := by
      rw [List.getElem?_take] at hv
      split at hv
      · rw [Array.getElem?_toList] at hv; rw [Array.getD_eq_getD_getElem?, hv]; rfl
      · cases hv
    rw [← hg, ← hv']
    by_cases hdst : ∃ (k' : Nat) (o' : Oper), b[k']? = some o' ∧ o'.dst = some t
    · obtain ⟨k', o', hk', hod'⟩ := hdst
      exact ins hp k' o' t hk' hod' (by simp)
    · refine out hp t (fun o' ho' hod' => hdst ?_)
      obtain ⟨k', hk'⟩ := List.getElem?_of_mem ho'
      exact ⟨k', o', hk', hod'⟩
  · refine ⟨μ0, { hF with vals := RVL.nil_iff.2 rfl }, ⟨fun _ h => h, fun _ _ => rfl⟩, fun _ _ e => e, fun k av n hL hU => ?_, fun k o av tk d v hk _ hU => ?_, Same.refl _ _, rfl, fun _ => rfl⟩
    · have hkl : k < b.length := by rw [← T.len]; exact (List.getElem?_eq_some_iff.1 hL).1
      have hn := (T.act k b[k] av (some n) (List.getElem?_eq_getElem hkl) hL).2.2 n rfl
      cases hμ : μ0 n with
      | none => rfl
      | some u => have := h0.dom n u hμ; have h1 : st0.σ.length ≤ n := hn.1; omega
    · exfalso
      apply hU
      rw [List.mem_range'_1]
      have := (List.getElem?_eq_some_iff.1 hk).1
      omega

end
end Gv
