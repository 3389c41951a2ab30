/- A call by contract in which objects are handed over to be written, and come back. -/
import Derived.Test.YtgkcdgbegkpmoaaGreatDoorGwCall
namespace Gv
open Go Go.RowKit
set_option linter.unusedVariables false
set_option linter.unusedSectionVars false
set_option linter.unusedSimpArgs false

section
variable [GlobI] {E : Env} {avs : List AV} {slots : List AV} {σ : List Ob} {μ μ' μ2 : Nat → Option Value} {vs : List Value} {w w' : World} {ok ok' : Nat → Prop} {α : Type} {x : α} {P : Program}

theorem putF_ren {k : Nat} {ren : List Nat} (hr : ∀ j, j < k → ∀ v, μ2 j = some v → μ' (ren.getD j 0) = some v) : ∀ (f : Form) {x : f.V} {vs : List Value}, tokLt k f = true → RVL ok w μ2 (putF (List.range k) f x) vs → RVL ok w μ' (putF ren f x) vs := by
  have one : ∀ {a : AV} {vs : List Value}, RVL ok w μ2 [a] vs → ∃ v, vs = [v] ∧ RV ok w μ2 a v := by
    intro a vs h
    obtain ⟨v, r, rfl, h1, h2⟩ := RVL.cons_iff.1 h
    simp only [RVL] at h2; subst h2
    exact ⟨v, rfl, h1⟩
  have mk1 : ∀ {a : AV} {v : Value}, RV ok w μ' a v → RVL ok w μ' [a] [v] := fun h => RVL.cons' h (RVL.nil_iff.2 rfl)
  intro f
  induction f with
  | v s => intro x vs _ h; obtain ⟨v, rfl, hv⟩ := one h; exact mk1 (by simpa only [RV] using hv)
  | agg l ih => intro x vs hp h; obtain ⟨v, rfl, hv⟩ := one h; refine mk1 ?_; simp only [RV] at hv ⊢; obtain ⟨cs, rfl, hr⟩ := hv; exact ⟨cs, rfl, ih hp hr⟩
  | tup l ih => intro x vs hp h; obtain ⟨v, rfl, hv⟩ := one h; refine mk1 ?_; simp only [RV] at hv ⊢; obtain ⟨cs, rfl, hr⟩ := hv; exact ⟨cs, rfl, ih hp hr⟩
  | cp l ih => intro x vs hp h; obtain ⟨v, rfl, hv⟩ := one h; refine mk1 ?_; simp only [RV] at hv ⊢; obtain ⟨b, off, cs, rfl, hb, hc, hr⟩ := hv; exact ⟨b, off, cs, rfl, hb, hc, ih hp hr⟩
  | fn g l ih => intro x vs hp h; obtain ⟨v, rfl, hv⟩ := one h; refine mk1 ?_; simp only [RV] at hv ⊢; obtain ⟨cs, rfl, hr⟩ := hv; exact ⟨cs, rfl, ih hp hr⟩
  | ifc T y ih =>
    intro x vs hp h; obtain ⟨v, rfl, hv⟩ := one h; refine mk1 ?_; simp only [RV] at hv ⊢
    obtain ⟨u, rfl, hr⟩ := hv
    refine ⟨u, rfl, ?_⟩
    cases hq : putF ren y x with
    | nil => trivial
    | cons b r =>
      have hy : tokLt k y = true := by cases y <;> first | exact hp | (simp [tokLt] at hp; done)
      cases hq' : putF (List.range k) y x with
      | nil => exfalso; cases y <;> first | (simp [putF] at hq; done) | (simp [putF] at hq'; done) | (simp [tokLt] at hp; done)
      | cons b' r' =>
        rw [hq'] at hr
        cases r' with
        | nil =>
          have := ih (x := x) (vs := [u]) hy (by rw [hq']; exact RVL.cons' hr (RVL.nil_iff.2 rfl))
          rw [hq] at this
          obtain ⟨v, r, e, h1, h2⟩ := RVL.cons_iff.1 this
          simp only [List.cons.injEq] at e; obtain ⟨rfl, _⟩ := e; exact h1
        | cons c r'' => exfalso; cases y <;> first | (simp [putF] at hq'; done) | (simp [tokLt] at hp; done)
  | boxr j off =>
    intro x vs hp h; obtain ⟨v, rfl, hv⟩ := one h; refine mk1 ?_
    simp only [tokLt, decide_eq_true_eq] at hp
    simp only [RV, range_getD hp] at hv ⊢
    obtain ⟨b, h1, h2⟩ := hv
    exact ⟨b, hr j hp _ h1, h2⟩
  | rowr j =>
    intro x vs hp h; obtain ⟨v, rfl, hv⟩ := one h; refine mk1 ?_
    simp only [tokLt, decide_eq_true_eq] at hp
    simp only [RV, range_getD hp] at hv ⊢
    exact ⟨hr j hp _ hv.1, hv.2⟩
  | any => intro x vs _ h; obtain ⟨v, rfl, hv⟩ := one h; exact mk1 trivial
  | nili => intro x vs _ h; obtain ⟨v, rfl, hv⟩ := one h; exact mk1 (by simpa only [RV] using hv)
  | obox l ih => intro x vs hp h; simpa [putF, RVL] using h
  | orow T e => intro x vs hp h; simpa [putF, RVL] using h
  | nilL => intro x vs _ h; simpa [putF, RVL] using h
  | cons f g ih1 ih2 =>
    intro x vs hp h
    simp only [tokLt, Bool.and_eq_true] at hp
    obtain ⟨v1, v2, rfl, h1, h2⟩ := RVL.split (show RVL ok w μ2 (putF (List.range k) f x.1 ++ putF (List.range k) g x.2) vs from h)
    exact (ih1 hp.1 h1).append (ih2 hp.2 h2)


theorem putO_len (r1 r2 : List Nat) : ∀ (f : Form) (a : f.V), (putO r1 f a).length = (putO r2 f a).length := by
  intro f
  induction f with
  | cons f g ih1 ih2 => intro a; simp only [putO, List.length_append, ih1 a.1, ih2 a.2]
  | _ => intros; rfl

/-- An object with its tokens renamed. -/
def ObSim (μ2 μ' : Nat → Option Value) (o o' : Ob) : Prop :=
  isOwn o = true ∧ isOwn o' = true ∧ ((∃ c c', o = .box true c ∧ o' = .box true c' ∧ ∀ (ok : Nat → Prop) (w : World) (vs : List Value), RVL ok w μ2 c vs → RVL ok w μ' c' vs) ∨ (o = o' ∧ ∃ T e l, o = .row true T e l))

theorem ObSim.ob {o o' : Ob} (h : ObSim μ2 μ' o o') {j t : Nat} (hm : ∀ v, μ2 j = some v → μ' t = some v) (ho : ObR ok w μ2 j o) : ObR ok w μ' t o' := by
  obtain ⟨_, _, h⟩ := h
  rcases h with ⟨c, c', rfl, rfl, h⟩ | ⟨rfl, T, e, l, rfl⟩
  · obtain ⟨b, vs, T, h1, h2, h3, _⟩ := ho
    exact ⟨b, vs, T, hm _ h1, h2, h ok w _ h3, fun e => by cases e⟩
  · obtain ⟨v, h1, h2, _⟩ := ho
    exact ⟨v, hm _ h1, h2, fun e => by cases e⟩

theorem putO_sim {k : Nat} {ren : List Nat} (hr : ∀ j, j < k → ∀ v, μ2 j = some v → μ' (ren.getD j 0) = some v) : ∀ (f : Form) {a : f.V}, tokLt k f = true →
    ∀ (i : Nat) (o' : Ob), (putO ren f a)[i]? = some o' → ∃ o, (putO (List.range k) f a)[i]? = some o ∧ ObSim μ2 μ' o o' := by
  intro f
  induction f with
  | obox l ih =>
    intro a hp i o' hi
    cases i with
    | zero =>
      simp only [putO, List.getElem?_cons_zero, Option.some.injEq] at hi
      subst hi
      exact ⟨_, rfl, rfl, rfl, .inl ⟨_, _, rfl, rfl, fun ok w vs h => putF_ren hr l hp h⟩⟩
    | succ i => simp [putO] at hi
  | orow T e =>
    intro a hp i o' hi
    cases i with
    | zero =>
      simp only [putO, List.getElem?_cons_zero, Option.some.injEq] at hi
      subst hi
      exact ⟨_, rfl, rfl, rfl, .inr ⟨rfl, _, _, _, rfl⟩⟩
    | succ i => simp [putO] at hi
  | cons f g ih1 ih2 =>
    intro a hp i o' hi
    simp only [tokLt, Bool.and_eq_true] at hp
    simp only [putO] at hi ⊢
    have hl := putO_len ren (List.range k) f a.1
    rcases Nat.lt_or_ge i (putO ren f a.1).length with h | h
    · rw [List.getElem?_append_left h] at hi
      obtain ⟨o, h1, h2⟩ := ih1 hp.1 i o' hi
      exact ⟨o, by rw [List.getElem?_append_left (by omega)]; exact h1, h2⟩
    · rw [List.getElem?_append_right h] at hi
      obtain ⟨o, h1, h2⟩ := ih2 hp.2 _ o' hi
      exact ⟨o, by rw [List.getElem?_append_right (by omega), ← hl]; exact h1, h2⟩
  | _ => intro a hp i o' hi; simp [putO] at hi

theorem goneAll_get : ∀ (m : List (Option Nat)) (σ : List Ob) (t : Nat) (o : Ob), (goneAll m σ)[t]? = some o → o = .gone ∨ (σ[t]? = some o ∧ some t ∉ m)
  | [], σ, t, o, h => .inr ⟨h, by simp⟩
  | some s :: m, σ, t, o, h => by
    simp only [goneAll] at h
    rcases goneAll_get m _ t o h with h | ⟨h1, h2⟩
    · exact .inl h
    · rw [List.getElem?_set] at h1
      split at h1
      · split at h1
        · cases h1; exact .inl rfl
        · cases h1
      · rename_i hne
        exact .inr ⟨h1, by simp only [List.mem_cons, Option.some.injEq, not_or]; exact ⟨fun e => hne e.symm, h2⟩⟩
  | none :: m, σ, t, o, h => by
    simp only [goneAll] at h
    rcases goneAll_get m _ t o h with h | ⟨h1, h2⟩
    · exact .inl h
    · exact .inr ⟨h1, by simpa using h2⟩
theorem goneAll_len : ∀ (m : List (Option Nat)) (σ : List Ob), (goneAll m σ).length = σ.length
  | [], σ => rfl
  | some s :: m, σ => by simp only [goneAll]; rw [goneAll_len]; simp
  | none :: m, σ => by simp only [goneAll]; rw [goneAll_len]
theorem setKept_get : ∀ (ks : List (Option Nat)) (os σ : List Ob) (t : Nat) (o : Ob), (setKept ks os σ)[t]? = some o → (∃ j : Nat, ks[j]? = some (some t) ∧ os[j]? = some o) ∨ σ[t]? = some o
  | some s :: ks, a :: os, σ, t, o, h => by
    simp only [setKept] at h
    rcases setKept_get ks os _ t o h with ⟨j, h1, h2⟩ | h
    · exact .inl ⟨j + 1, by simpa using h1, by simpa using h2⟩
    · rw [List.getElem?_set] at h
      split at h
      · rename_i hs
        split at h
        · cases h; exact .inl ⟨0, by rw [hs]; rfl, rfl⟩
        · cases h
      · exact .inr h
  | none :: ks, a :: os, σ, t, o, h => by
    simp only [setKept] at h
    rcases setKept_get ks os _ t o h with ⟨j, h1, h2⟩ | h
    · exact .inl ⟨j + 1, by simpa using h1, by simpa using h2⟩
    · exact .inr h
  | [], _, σ, t, o, h => .inr (by simpa [setKept] using h)
  | some _ :: _, [], σ, t, o, h => .inr (by simpa [setKept] using h)
  | none :: _, [], σ, t, o, h => .inr (by simpa [setKept] using h)
theorem setKept_len : ∀ (ks : List (Option Nat)) (os σ : List Ob), (setKept ks os σ).length = σ.length
  | some s :: ks, a :: os, σ => by simp only [setKept]; rw [setKept_len]; simp
  | none :: ks, a :: os, σ => by simp only [setKept]; rw [setKept_len]
  | [], _, σ => by simp [setKept]
  | some _ :: _, [], σ => by simp [setKept]
  | none :: _, [], σ => by simp [setKept]
theorem newObs_get : ∀ (ks : List (Option Nat)) (os : List Ob) (j : Nat) (o : Ob), (newObs ks os)[j]? = some o → o = .gone ∨ (os[j]? = some o ∧ ∀ t, ks[j]? ≠ some (some t))
  | some s :: ks, a :: os, j, o, h => by
    simp only [newObs] at h
    cases j with
    | zero => simp at h; exact .inl h.symm
    | succ j =>
      rcases newObs_get ks os j o (by simpa using h) with h | ⟨h1, h2⟩
      · exact .inl h
      · exact .inr ⟨by simpa using h1, by simpa using h2⟩
  | none :: ks, a :: os, j, o, h => by
    simp only [newObs] at h
    cases j with
    | zero => simp at h; subst h; exact .inr ⟨rfl, by simp⟩
    | succ j =>
      rcases newObs_get ks os j o (by simpa using h) with h | ⟨h1, h2⟩
      · exact .inl h
      · exact .inr ⟨by simpa using h1, by simpa using h2⟩
  | [], os, j, o, h => .inr ⟨by simpa [newObs] using h, by simp⟩
  | some _ :: _, [], j, o, h => by simp [newObs] at h
  | none :: _, [], j, o, h => by simp [newObs] at h
theorem newObs_len : ∀ (ks : List (Option Nat)) (os : List Ob), (newObs ks os).length = os.length
  | some s :: ks, a :: os => by simp only [newObs, List.length_cons, newObs_len]
  | none :: ks, a :: os => by simp only [newObs, List.length_cons, newObs_len]
  | [], os => by simp [newObs]
  | some _ :: _, [] => by simp [newObs]
  | none :: _, [] => by simp [newObs]

theorem rens_get : ∀ (ks : List (Option Nat)) (n j : Nat), j < ks.length → (rens n ks).getD j 0 = match ks[j]? with | some (some t) => t | _ => n + j
  | [], n, j, h => by simp at h
  | some t :: r, n, j, h => by
    cases j with
    | zero => simp [rens]
    | succ j =>
      have := rens_get r (n + 1) j (by simpa using h)
      simp only [rens, List.getD_cons_succ, List.getElem?_cons_succ, this]
      rw [show n + (j + 1) = n + 1 + j by omega]
  | none :: r, n, j, h => by
    cases j with
    | zero => simp [rens]
    | succ j =>
      have := rens_get r (n + 1) j (by simpa using h)
      simp only [rens, List.getD_cons_succ, List.getElem?_cons_succ, this]
      rw [show n + (j + 1) = n + 1 + j by omega]

theorem keeps_len (A : Sig) (rs : List AV) (m : List (Option Nat)) : ∀ (j : Nat) (l : List Src), (keeps A rs m j l).length = l.length
  | _, [] => rfl
  | j, s :: r => by simp only [keeps, List.length_cons, keeps_len]
theorem keeps_get (A : Sig) (rs : List AV) (m : List (Option Nat)) : ∀ (j0 : Nat) (l : List Src) (j t : Nat), (keeps A rs m j0 l)[j]? = some (some t) →
    ∃ i a, isTok (j0 + j) (rs.getD (i + 1) .any) = true ∧ slotAt i A.srcs 0 = some a ∧ m.getD a none = some t
  | j0, [], j, t, h => by simp [keeps] at h
  | j0, s :: r, j, t, h => by
    simp only [keeps] at h
    cases j with
    | zero =>
      simp only [List.getElem?_cons_zero, Option.some.injEq] at h
      cases s with
      | cell _ _ => simp [keepOf] at h
      | slot i =>
        cases i with
        | zero => simp [keepOf] at h
        | succ i =>
          simp only [keepOf] at h
          split at h
          · rename_i hz
            obtain ⟨a, h1, h2⟩ := Option.bind_eq_some_iff.1 h
            exact ⟨i, a, hz, h1, h2⟩
          · cases h
    | succ j =>
      obtain ⟨i, a, h1, h2, h3⟩ := keeps_get A rs m (j0 + 1) r j t (by simpa using h)
      exact ⟨i, a, by rw [show j0 + (j + 1) = j0 + 1 + j by omega]; exact h1, h2, h3⟩
theorem slotAt_spec : ∀ (i : Nat) (l : List Src) (n a : Nat), slotAt i l n = some a → n ≤ a ∧ l[a - n]? = some (.slot i)
  | i, [], n, a, h => by simp [slotAt] at h
  | i, .slot j :: r, n, a, h => by
    simp only [slotAt] at h
    split at h
    · rename_i hij
      cases h
      simp only [beq_iff_eq] at hij; subst hij
      exact ⟨Nat.le_refl _, by simp⟩
    · obtain ⟨h1, h2⟩ := slotAt_spec i r (n + 1) a h
      refine ⟨by omega, ?_⟩
      rw [show a - n = (a - (n + 1)) + 1 by omega]; simpa using h2
  | i, .cell _ _ :: r, n, a, h => by
    simp only [slotAt] at h
    obtain ⟨h1, h2⟩ := slotAt_spec i r (n + 1) a h
    refine ⟨by omega, ?_⟩
    rw [show a - n = (a - (n + 1)) + 1 by omega]; simpa using h2

theorem isTok_rv {a : AV} {v : Value} {j : Nat} (h : isTok j a = true) (hv : RV ok w μ a v) : μ j = some v := by
  cases a <;> simp only [isTok] at h <;> try (cases h; done)
  case box t off =>
    cases off with
    | zero => simp only [isTok, beq_iff_eq] at h; subst h; simp only [RV] at hv; obtain ⟨b, h1, rfl⟩ := hv; exact h1
    | succ n => simp [isTok] at h
  case row t => simp only [beq_iff_eq] at h; subst h; simp only [RV] at hv; exact hv.1

theorem okR_spec {A R : Sig} {v : R.V} (h : okR A R v = true) : (∃ r, R.idx = 0 :: r ∧ 0 ∉ r) ∧ hdOk R.vals = true ∧ 0 < R.n ∧ R.n ≤ A.n + 1 ∧ tokLt R.srcs.length R.vals = true ∧ tokLt R.srcs.length R.objs = true ∧ ∀ r, (putO r R.objs v.1).length = R.srcs.length := by
  unfold okR at h
  simp only [Bool.and_eq_true, decide_eq_true_eq] at h
  obtain ⟨h1, h2, h3, h4, h5, h6, h7⟩ := h
  refine ⟨?_, h2, h3, h4, h5, h6, fun r => by rw [putO_len r [], lenIs_spec h7]⟩
  unfold headIs0 at h1
  split at h1
  · rename_i r he
    exact ⟨r, he, by simpa using h1⟩
  · cases h1

theorem setAll_get0 : ∀ (r : List Nat) (xs l : List AV), 0 ∉ r → (setAll r xs l)[0]? = l[0]?
  | [], _, _, _ => by simp [setAll]
  | _ :: _, [], _, _ => by simp [setAll]
  | i :: r, x :: xs, l, h => by
    simp only [List.mem_cons, not_or] at h
    simp only [setAll]
    rw [setAll_get0 r xs _ h.2, List.getElem?_set_ne (fun e => h.1 e.symm)]

theorem one_put {f : Form} (h : one f = true) (r1 r2 : List Nat) (x : f.V) : ∃ a b, putF r1 f x = [a] ∧ putF r2 f x = [b] := by
  cases f <;> simp only [one] at h <;> first | exact ⟨_, _, rfl, rfl⟩ | cases h

/-- What is handed over at a call, and what comes back. -/
theorem handR {A : Sig} {st : St} {avs : List AV} {m : List (Option Nat)} {rd : List Nat} {z : A.V} (hget : A.getM avs st.σ = some (m, rd, z)) (hlenA : avs.length = A.n)
    {args : List Value} (hlen : args.length = avs.length) (h : Rel E (avs ++ st.slots) st.σ μ (args ++ vs) w) :
    ∃ (Rb ok0 : Nat → Prop) (μ0 : Nat → Option Value), Rel ⟨w, Rb, ok0⟩ (A.put z).slots (A.put z).σ μ0 args w ∧
      ∀ (R : Sig) (rv : R.V) (v : Value) (w' : World) (μ2 : Nat → Option Value), okR A R rv = true → Rel ⟨w, Rb, ok0⟩ (R.put rv).slots (R.put rv).σ μ2 ((v :: args).take R.n) w' →
        ∃ μ', RV (okN E (afterR A R rv st.σ m rd) μ' w') w' μ' (retR A R rv st.σ m) v ∧ Rel E st.slots (afterR A R rv st.σ m rd) μ' vs w' ∧
          Kp (okN E (Gv.freeze st.σ rd) μ w) (okN E (afterR A R rv st.σ m rd) μ' w') w w' ∧ ∀ t, t < st.σ.length → μ' t = μ t := by
  have hFull := h.freeze rd
  have hn : (Gv.freeze st.σ rd).length = st.σ.length := freeze_len _ _
  generalize hF0 : Gv.freeze st.σ rd = F at hFull hn
  have hva : RVL (okN E F μ w) w μ avs args := by
    have := hFull.vals.take avs.length
    rwa [List.take_left, ← hlen, List.take_left] at this
  have hvs : RVL (okN E F μ w) w μ st.slots vs := by
    have := hFull.vals.drop avs.length
    rwa [List.drop_left, ← hlen, List.drop_left] at this
  have hFa : Rel E avs F μ args w := { hFull with vals := hva }
  obtain ⟨us, k, hAn⟩ := hFa.taken' hget (by rw [← hF0] at hFa ⊢; exact hFa.weakobs) (by rw [← hF0] at hFa ⊢; exact hFa.read_ok) (fun j t u _ hu => by
    have hlt := h.dom t u hu
    refine ⟨_, List.getElem?_eq_getElem hlt, fun hnr => ?_⟩
    rw [← hF0, freeze_get, if_neg hnr, List.getElem?_eq_getElem hlt])
  obtain ⟨e1, e2, e3⟩ := k.rel hFa
  have htake : args.take A.n = args := List.take_of_length_le (by rw [hlen, hlenA]; exact Nat.le_refl _)
  rw [htake] at e1
  -- the blocks that are handed over
  obtain ⟨Rb, hRb⟩ : ∃ Rb : Nat → Prop, Rb = fun b => ∃ j, ownB (A.put z).σ (fun j => us[j]?) j b := ⟨_, rfl⟩
  have hR : ∀ b, Rb b → ∃ (j t : Nat), m[j]? = some (some t) ∧ ownB F μ t b := fun b hb => by
    rw [hRb] at hb
    obtain ⟨j, hj⟩ := hb
    obtain ⟨t, h1, h2⟩ := e3 j b hj
    exact ⟨j, t, h1, h2⟩
  have ent : Rel ⟨w, Rb, okN E F μ w⟩ (A.put z).slots (A.put z).σ (fun j => us[j]?) args w := by
    have hk : Kp (okN E F μ w) (okN ⟨w, Rb, okN E F μ w⟩ (A.put z).σ (fun j => us[j]?) w) w w := ⟨fun b hb => ⟨hb.1, .inl hb, fun j hj => by
      obtain ⟨t, _, ht⟩ := e3 j b hj
      exact hb.2.2 t ht⟩, fun _ _ => rfl⟩
    have hvals := k.vals
    rw [htake] at hvals
    refine { vals := hvals.kp hk (fun _ _ e => e), objs := fun j o ho v hv => ?_, dist := e1.dist, own := fun j b hb => ⟨(e1.own j b hb).1, .inr (by rw [hRb]; exact ⟨j, hb⟩)⟩, dom := e1.dom, frm := ⟨rfl, rfl, rfl, Nat.le_refl _, fun _ _ _ => rfl, hFa.frm.globAt (fun b hb => by obtain ⟨j, t, _, q⟩ := hR b hb; exact (hFa.own t b q).2)⟩ }
    obtain ⟨k1, k2⟩ := k.objs j o v ho hv
    match o, k1, k2 with
    | .box true cells, _, ⟨b, cs, T, e1, e2, e3⟩ => exact ⟨b, cs, T, by rw [← e1]; exact hv, e2, e3.kp hk (fun _ _ e => e), fun e => by cases e⟩
    | .row true T e l, _, hr => exact ⟨v, hv, hr.kp hk (fun _ _ => rfl), fun e => by cases e⟩
  refine ⟨Rb, okN E F μ w, _, ent, fun R rv v w' μ2 hok hr => ?_⟩
  obtain ⟨hidx0, hhd0, hn0, hn1, htv0, to, olen⟩ := okR_spec hok
  have hrσ : (R.put rv).σ = putO (List.range R.srcs.length) R.objs rv.1 := rfl
  generalize hks : keeps A (R.put rv).slots m 0 R.srcs = ks
  have hkl : ks.length = R.srcs.length := by rw [← hks]; exact keeps_len ..
  have hol := olen (rens st.σ.length ks)
  have hol2 := olen (List.range R.srcs.length)
  obtain ⟨obs, hobs⟩ : ∃ obs, obs = putO (rens st.σ.length ks) R.objs rv.1 := ⟨_, rfl⟩
  rw [← hobs] at hol
  obtain ⟨σ', hσ'⟩ : ∃ σ', σ' = afterR A R rv st.σ m rd := ⟨_, rfl⟩
  have hσ2 : σ' = setKept ks obs (goneAll m F) ++ newObs ks obs := by rw [hσ', afterR, hks, hobs, hF0]
  have hlσ : (setKept ks obs (goneAll m F)).length = st.σ.length := by rw [setKept_len, goneAll_len, hn]
  -- the tokens that were kept
  have KI : ∀ j t : Nat, ks[j]? = some (some t) → ∃ (a : Nat) (v' : Value), m[a]? = some (some t) ∧ μ2 j = some v' ∧ μ t = some v' := by
    intro j t hj
    rw [← hks] at hj
    obtain ⟨i, a, h1, h2, h3⟩ := keeps_get _ _ _ _ _ _ _ hj
    rw [Nat.zero_add] at h1
    obtain ⟨_, h2⟩ := slotAt_spec _ _ _ _ h2
    rw [Nat.sub_zero] at h2
    have hma : m[a]? = some (some t) := by
      simp only [List.getD_eq_getElem?_getD] at h3
      cases hx : m[a]? with
      | none => rw [hx] at h3; cases h3
      | some q => rw [hx] at h3; simp at h3; rw [h3]
    have hil : i + 1 < (R.put rv).slots.length := by
      rcases Nat.lt_or_ge (i + 1) (R.put rv).slots.length with hh | hh
      · exact hh
      · rw [List.getD_eq_getElem?_getD, List.getElem?_eq_none hh] at h1; simp [isTok] at h1
    obtain ⟨v', g1, g2⟩ := hr.vals.get (i + 1) _ (getD_of_lt (d := .any) hil)
    have g3 := isTok_rv h1 g2
    rw [List.getElem?_take] at g1
    split at g1
    · simp only [List.getElem?_cons_succ] at g1
      have hsrc := k.named.src a i (List.getElem?_eq_some_iff.1 hma).1 h2
      obtain ⟨u, q1, q2⟩ := k.named.tok a t hma
      rw [hsrc, q1] at g1; cases g1
      exact ⟨a, _, hma, g3, q2⟩
    · cases g1
  obtain ⟨μ', hμ⟩ : ∃ μ' : Nat → Option Value, μ' = fun t => if t < st.σ.length then μ t else μ2 (t - st.σ.length) := ⟨_, rfl⟩
  have hμ1 : ∀ t, t < st.σ.length → μ' t = μ t := fun t ht => by rw [hμ]; simp [ht]
  have hμ2 : ∀ j, μ' (st.σ.length + j) = μ2 j := fun j => by
    rw [hμ]
    show (if st.σ.length + j < st.σ.length then μ (st.σ.length + j) else μ2 (st.σ.length + j - st.σ.length)) = μ2 j
    rw [if_neg (by omega), Nat.add_sub_cancel_left]
  have hext : ∀ t v, μ t = some v → μ' t = some v := fun t v hv => by rw [hμ1 t (h.dom t v hv)]; exact hv
  have hren : ∀ j, j < R.srcs.length → ∀ v, μ2 j = some v → μ' ((rens st.σ.length ks).getD j 0) = some v := by
    intro j hj v hv
    rw [rens_get ks _ j (by omega)]
    cases hkj : ks[j]? with
    | none => simp only; rw [hμ2]; exact hv
    | some q =>
      cases q with
      | none => simp only; rw [hμ2]; exact hv
      | some t =>
        simp only
        obtain ⟨a, v', _, h2, h3⟩ := KI j t hkj
        rw [hv] at h2; cases h2
        exact hext t _ h3
  -- what comes back, one by one
  have SIM : ∀ (j : Nat) o, obs[j]? = some o → ∃ o1, (R.put rv).σ[j]? = some o1 ∧ ObSim μ2 μ' o1 o := fun j o ho => by
    rw [hobs] at ho
    exact putO_sim hren R.objs to j o ho
  have GET : ∀ (t : Nat) o, σ'[t]? = some o → o = .gone ∨ (∃ j o1, (R.put rv).σ[j]? = some o1 ∧ ObSim μ2 μ' o1 o ∧ (∀ v, μ' t = some v → μ2 j = some v) ∧ (∀ v, μ2 j = some v → μ' t = some v) ∧ (ks[j]? = some (some t) ∨ (t = st.σ.length + j ∧ ∀ s, ks[j]? ≠ some (some s)))) ∨ (F[t]? = some o ∧ some t ∉ m ∧ t < st.σ.length) := by
    intro t o ho
    rw [hσ2] at ho
    rcases Nat.lt_or_ge t st.σ.length with ht | ht
    · rw [List.getElem?_append_left (by omega)] at ho
      rcases setKept_get _ _ _ _ _ ho with ⟨j, h1, h2⟩ | ho
      · obtain ⟨o1, g1, g2⟩ := SIM j o h2
        obtain ⟨a, v', q1, q2, q3⟩ := KI j t h1
        refine .inr (.inl ⟨j, o1, g1, g2, fun v hv => ?_, fun v hv => ?_, .inl h1⟩)
        · rw [hμ1 t ht, q3] at hv; cases hv; exact q2
        · rw [q2] at hv; cases hv; exact hext t _ q3
      · rcases goneAll_get _ _ _ _ ho with ho | ⟨h1, h2⟩
        · exact .inl ho
        · exact .inr (.inr ⟨h1, h2, ht⟩)
    · rw [List.getElem?_append_right (by omega), hlσ] at ho
      rcases newObs_get _ _ _ _ ho with ho | ⟨h1, h2⟩
      · exact .inl ho
      · obtain ⟨o1, g1, g2⟩ := SIM _ o h1
        have ht' : t = st.σ.length + (t - st.σ.length) := by omega
        have hμt := hμ2 (t - st.σ.length)
        rw [← ht'] at hμt
        exact .inr (.inl ⟨_, o1, g1, g2, fun v hv => by rw [hμt] at hv; exact hv, fun v hv => by rw [hμt]; exact hv, .inr ⟨ht', h2⟩⟩)
  have OC : ∀ t b, ownB σ' μ' t b → (∃ j, ownB (R.put rv).σ μ2 j b ∧ (ks[j]? = some (some t) ∨ (t = st.σ.length + j ∧ ∀ s, ks[j]? ≠ some (some s)))) ∨ (ownB F μ t b ∧ some t ∉ m) := by
    rintro t b ⟨o, v, h1, h2, h3, h4⟩
    rcases GET t o h1 with rfl | ⟨j, o1, g1, g2, g3, g4, g5⟩ | ⟨g1, g2, g3⟩
    · cases h2
    · exact .inl ⟨j, ⟨o1, v, g1, g2.1, g3 v h3, h4⟩, g5⟩
    · exact .inr ⟨⟨o, v, g1, h2, by rw [← hμ1 t g3]; exact h3, h4⟩, g2⟩
  have NR : ∀ t b, ownB F μ t b → some t ∉ m → ¬ Rb b := fun t b h1 h2 h3 => by
    obtain ⟨j, t', q1, q2⟩ := hR b h3
    have := hFa.dist t t' b h1 q2
    subst this
    exact h2 (List.mem_of_getElem? q1)
  have okR : ∀ b, okN E F μ w b → ¬ Rb b := fun b h1 h2 => by
    obtain ⟨j, t, _, q⟩ := hR b h2
    exact h1.2.2 t q
  have kp1 : Kp (okN E F μ w) (okN E σ' μ' w') w w' := by
    refine ⟨fun b hb => ⟨Nat.lt_of_lt_of_le hb.1 hr.frm.size, hb.2.1, fun t ht => ?_⟩, fun b hb => hr.frm.block b hb.1 (okR b hb)⟩
    rcases OC t b ht with ⟨j, h1, _⟩ | ⟨h1, _⟩
    · rcases (hr.own j b h1).2 with h2 | h2
      · have := hb.1; simp only at h2; omega
      · exact okR b hb h2
    · exact hb.2.2 t h1
  have rbE : ∀ b, Rb b → E.B.heap.size ≤ b ∨ E.Rb b := fun b hb => by
    obtain ⟨j, t, _, q⟩ := hR b hb
    exact (hFa.own t b q).2
  have kp2 : Kp (okN ⟨w, Rb, okN E F μ w⟩ (R.put rv).σ μ2 w') (okN E σ' μ' w') w' w' := by
    refine ⟨fun b hb => ⟨hb.1, ?_, fun t ht => ?_⟩, fun _ _ => rfl⟩
    · rcases hb.2.1 with h1 | h1 | h1
      · exact h1.2.1
      · have := hFa.frm.size; simp only at h1; exact .inr (.inl (by omega))
      · rcases rbE b h1 with h2 | h2
        · exact .inr (.inl h2)
        · exact .inr (.inr h2)
    · rcases OC t b ht with ⟨j, h1, _⟩ | ⟨h1, h2⟩
      · exact hb.2.2 j h1
      · have hlt := (hFa.own t b h1).1
        rcases hb.2.1 with h3 | h3 | h3
        · exact h3.2.2 t h1
        · simp only at h3; omega
        · exact NR t b h1 h2 h3
  refine ⟨μ', ?_, ?_, ?_, hμ1⟩
  · -- the result
    obtain ⟨r, hidx, h0⟩ := hidx0
    have hvals := hr.vals
    rw [← hσ']
    unfold retR
    rw [hks]
    have hhd := hhd0
    have htv := htv0
    have key : ∀ (f : Form) (x : f.V), hdOk f = true → tokLt R.srcs.length f = true → RVL (okN ⟨w, Rb, okN E F μ w⟩ (R.put rv).σ μ2 w') w' μ2 (setAll (0 :: r) (putF (List.range R.srcs.length) f x) (List.replicate R.n .any)) ((v :: args).take R.n) →
        RV (okN E σ' μ' w') w' μ' ((putF (rens st.σ.length ks) f x).headD .any) v := by
      intro f x hd tl hv
      cases f <;> simp only [hdOk] at hd <;> try (cases hd; done)
      rename_i f g
      simp only [tokLt, Bool.and_eq_true] at tl
      obtain ⟨a, b, q1, q2⟩ := one_put hd (List.range R.srcs.length) (rens st.σ.length ks) x.1
      simp only [putF, q1, q2, List.singleton_append, List.headD_cons, setAll] at hv ⊢
      have hg0 : (setAll r (putF (List.range R.srcs.length) g x.2) ((List.replicate R.n AV.any).set 0 a))[0]? = some a := by
        rw [setAll_get0 _ _ _ h0, List.getElem?_set_self (by simp; exact hn0)]
      obtain ⟨v', p1, p2⟩ := hv.get 0 a hg0
      have hv0 : v' = v := by
        rw [List.getElem?_take, if_pos hn0] at p1
        simpa using p1.symm
      subst hv0
      have p3 := p2.kp kp2 (fun _ _ e => e)
      have p4 := putF_ren hren f tl.1 (x := x.1) (vs := [v']) (by rw [q1]; exact RVL.cons' p3 (RVL.nil_iff.2 rfl))
      rw [q2] at p4
      obtain ⟨v'', r'', e, p5, _⟩ := RVL.cons_iff.1 p4
      cases e
      exact p5
    refine key R.vals _ hhd htv ?_
    rw [← hidx]
    exact hvals
  rotate_left
  · rw [← hσ']; exact kp1
  · rw [← hσ']
    exact {
      vals := hvs.kp kp1 hext
      objs := fun t o ho v hv => by
        rcases GET t o ho with rfl | ⟨j, o1, g1, g2, g3, g4, g5⟩ | ⟨g1, g2, g3⟩
        · trivial
        · have q := hr.objs j o1 g1 v (g3 v hv)
          exact g2.ob g4 (q.kp kp2 (fun _ _ e => e) (fun _ _ _ _ => rfl))
        · rw [hμ1 t g3] at hv
          have q := hFa.objs t o g1 v hv
          by_cases hg : o = .gone
          · subst hg; trivial
          refine q.kp kp1 hext (fun v' b hv' hb => ?_)
          rw [hv] at hv'; cases hv'
          cases hio : isOwn o with
          | true =>
            have ho : ownB F μ t b := ⟨o, v, g1, hio, hv, hb⟩
            exact hr.frm.block b (hFa.own t b ho).1 (NR t b ho g2)
          | false => exact kp1.same b (q.frozen_ok hio hg hv hb)
      dist := fun t t' b h1 h2 => by
        rcases OC t b h1 with ⟨j, q1, q2⟩ | ⟨q1, q2⟩ <;> rcases OC t' b h2 with ⟨j', q3, q4⟩ | ⟨q3, q4⟩
        · have := hr.dist j j' b q1 q3
          subst this
          rcases q2 with q2 | ⟨rfl, q2⟩ <;> rcases q4 with q4 | ⟨rfl, q4⟩
          · rw [q2] at q4; cases q4; rfl
          · exact absurd q2 (q4 _)
          · exact absurd q4 (q2 _)
          · rfl
        · exfalso
          rcases (hr.own j b q1).2 with q5 | q5
          · have := (hFa.own t' b q3).1; simp only at q5; omega
          · exact NR t' b q3 q4 q5
        · exfalso
          rcases (hr.own j' b q3).2 with q5 | q5
          · have := (hFa.own t b q1).1; simp only at q5; omega
          · exact NR t b q1 q2 q5
        · exact hFa.dist t t' b q1 q3
      own := fun t b h1 => by
        rcases OC t b h1 with ⟨j, q1, q2⟩ | ⟨q1, q2⟩
        · obtain ⟨q3, q4⟩ := hr.own j b q1
          refine ⟨q3, ?_⟩
          rcases q4 with q4 | q4
          · have := hFa.frm.size; simp only at q4; exact .inl (by omega)
          · exact rbE b q4
        · obtain ⟨q3, q4⟩ := hFa.own t b q1
          exact ⟨Nat.lt_of_lt_of_le q3 hr.frm.size, q4⟩
      dom := fun t v hv => by
        rw [hσ2, List.length_append, hlσ, newObs_len, hol]
        rcases Nat.lt_or_ge t st.σ.length with ht | ht
        · omega
        · have ht' : t = st.σ.length + (t - st.σ.length) := by omega
          rw [ht', hμ2] at hv
          have := hr.dom _ v hv
          rw [hrσ, hol2] at this
          omega
      frm := ⟨hr.frm.os.trans hFa.frm.os, hr.frm.tape.trans hFa.frm.tape, hr.frm.output.trans hFa.frm.output, Nat.le_trans hFa.frm.size hr.frm.size, fun b hb hnr => by
        refine (hr.frm.block b (Nat.lt_of_lt_of_le hb hFa.frm.size) (fun hb' => ?_)).trans (hFa.frm.block b hb hnr)
        rcases rbE b hb' with q | q
        · omega
        · exact hnr q, hFa.frm.glob⟩ }


end
end Gv
