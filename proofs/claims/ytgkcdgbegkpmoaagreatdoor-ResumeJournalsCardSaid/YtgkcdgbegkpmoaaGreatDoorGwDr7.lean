/- Regions of drawn order: a block with one call that is handed objects to write. -/
import Derived.Test.YtgkcdgbegkpmoaaGreatDoorGwDr5
namespace Gv
open Go Go.RowKit
set_option linter.unusedVariables false
set_option linter.unusedSectionVars false
set_option linter.unusedSimpArgs false

section
variable [GlobI] {E : Env} {avs : List AV} {slots : List AV} {σ σ' σ'' : List Ob} {μ μ' : Nat → Option Value} {vs : List Value} {w w' : World} {ok ok' : Nat → Prop} {α : Type} {x : α} {P : Program} {Q : Exit → Act → World → Prop}
variable {ops : Array Oper}

/-- What a list of operations does, one by one, in whatever order and in whatever store that knows what they knew. -/
structure TraceG (T : List Nat) (P : Program) (E : Env) (kn : List (Nat × Bool)) (bd : List (Nat × Option Nat)) (r : List Oper) (st stF : St) (L : List (AV × Option Nat)) : Prop where
  len : L.length = r.length
  slen : stF.slots.length = st.slots.length
  ext : Ext st.σ stF.σ
  σlen : st.σ.length ≤ stF.σ.length
  out : ∀ t : Nat, (∀ o ∈ r, o.dst ≠ some t) → stF.slots[t]? = st.slots[t]?
  ins : ∀ (k : Nat) o av tk d, r[k]? = some o → L[k]? = some (av, tk) → o.dst = some d → d < st.slots.length → stF.slots[d]? = some av
  act : ∀ (k : Nat) o av tk, r[k]? = some o → L[k]? = some (av, tk) → gOk kn o.guard = true ∧ (∀ σX, ExtG T stF.σ σX → DoOk P E o (mev bd o stF) av σX tk) ∧ ∀ n, tk = some n → st.σ.length ≤ n ∧ n < stF.σ.length
  tok : ∀ (k k' : Nat) av av' n, L[k]? = some (av, some n) → L[k']? = some (av', some n) → k = k'

theorem evAB_specL {T : List Nat} {C : Cfg} (hC : ∀ g l N, C.orc g l = some N → Sat C.P g N) {kn : List (Nat × Bool)} {bd : List (Nat × Option Nat)} : ∀ (r : List Oper) (ix : Nat → Nat) (st : St) (K : St → Option α) (x : α), evAB C false kn bd r st K = some x →
    (∀ (k : Nat) o, r[k]? = some o → (ix k, o.dst) ∈ bd ∧ ∀ j, (depsM o).testBit j = true → j < ix k) → (∀ k k', k ≤ k' → ix k ≤ ix k') → (r.filterMap fun o => o.dst).Nodup → (∀ t ∈ T, t < st.σ.length) → ∃ stF L, K stF = some x ∧ TraceG T C.P E kn bd r st stF L
  | [], ix, st, K, x, h, _, _, _, _ => by
    simp only [evAB] at h
    exact ⟨st, [], h, ⟨rfl, rfl, Ext.refl _, Nat.le_refl _, fun _ _ => rfl, fun k o av tk d hk => by simp at hk, fun k o av tk hk => by simp at hk, fun k k' av av' n hk => by simp at hk⟩⟩
  | o :: r, ix, st, K, x, h, hbd, hmono, hnd, hTl => by
    simp only [evAB] at h
    split at h
    · rename_i hgok
      have hbd' : ∀ (k : Nat) o', r[k]? = some o' → (ix (k + 1), o'.dst) ∈ bd ∧ ∀ j, (depsM o').testBit j = true → j < ix (k + 1) := fun k o' hk => hbd (k + 1) o' (by simpa using hk)
      have hnd' : (r.filterMap fun o => o.dst).Nodup := by
        rw [List.filterMap_cons] at hnd
        split at hnd
        · exact hnd
        · exact (List.nodup_cons.1 hnd).2
      have hfresh : ∀ d, o.dst = some d → ∀ o' ∈ r, o'.dst ≠ some d := by
        intro d hd o' ho' he
        rw [List.filterMap_cons, hd] at hnd
        have := (List.nodup_cons.1 hnd).1
        exact this (List.mem_filterMap.2 ⟨o', ho', he⟩)
      -- an operation, and the rest behind it
      have go : ∀ (av : AV) (tk : Option Nat) (σ1 : List Ob), evAB C false kn bd r ⟨(st.put o.dst av).slots, σ1⟩ K = some x → Ext st.σ σ1 → st.σ.length ≤ σ1.length → (∀ n, tk = some n → n = st.σ.length ∧ n < σ1.length) →
          (∀ σ', ExtG T σ1 σ' → DoOk C.P E o (mev bd o st) av σ' tk) → ∃ stF L, K stF = some x ∧ TraceG T C.P E kn bd (o :: r) st stF L := by
        intro av tk σ1 he hext hlen htk hdo
        obtain ⟨stF, L, hK, TT⟩ := evAB_specL hC r (fun k => ix (k + 1)) _ K x he hbd' (fun k k' hk => hmono _ _ (Nat.succ_le_succ hk)) hnd' (fun t ht => Nat.lt_of_lt_of_le (hTl t ht) hlen)
        have hmev : mev bd o stF = mev bd o st := by
          refine mev_same (fun t ht => ?_)
          have hno : ∀ o' ∈ o :: r, o'.dst ≠ some t := by
            intro o' ho' hd
            obtain ⟨k, hk⟩ := List.getElem?_of_mem ho'
            have h1 := hbd k o' hk
            have h2 := ht _ h1.1 hd
            have h3 := (hbd 0 o rfl).2 _ h2
            have h4 := hmono 0 k (Nat.zero_le _)
            simp only at h3; omega
          rw [TT.out t (fun o' ho' => hno o' (List.mem_cons_of_mem _ ho'))]
          exact St.put_get (hno o (by simp))
        refine ⟨stF, (av, tk) :: L, hK, ⟨by simp [TT.len], by rw [TT.slen]; exact St.put_len _ _ _, hext.trans TT.ext, Nat.le_trans hlen TT.σlen, fun t ht => ?_, fun k o' av' tk' d hk hL hd hlt => ?_, fun k o' av' tk' hk hL => ?_, fun k k' av1 av2 n hk hk' => ?_⟩⟩
        · rw [TT.out t (fun o' ho' => ht o' (List.mem_cons_of_mem _ ho'))]
          exact St.put_get (ht o (by simp))
        · cases k with
          | zero =>
            simp at hk hL
            obtain ⟨rfl, rfl⟩ := hL
            subst hk
            rw [TT.out d (fun o' ho' => hfresh d hd o' ho'), hd]
            exact St.put_self hlt
          | succ k => exact TT.ins k o' av' tk' d (by simpa using hk) (by simpa using hL) hd (by rw [St.put_len]; exact hlt)
        · cases k with
          | zero =>
            simp at hk hL
            obtain ⟨rfl, rfl⟩ := hL
            subst hk
            refine ⟨hgok, fun σX hX => by rw [hmev]; exact hdo _ (TT.ext.transG hX), fun n hn => ?_⟩
            obtain ⟨rfl, h2⟩ := htk n hn
            exact ⟨Nat.le_refl _, Nat.lt_of_lt_of_le h2 TT.σlen⟩
          | succ k =>
            obtain ⟨h1, h2, h3⟩ := TT.act k o' av' tk' (by simpa using hk) (by simpa using hL)
            exact ⟨h1, h2, fun n hn => ⟨Nat.le_trans hlen (h3 n hn).1, (h3 n hn).2⟩⟩
        · have tl : ∀ (q : Nat) av' , L[q]? = some (av', some n) → tk = some n → False := by
            intro q av' hq hn
            have hql : q < r.length := by rw [← TT.len]; exact (List.getElem?_eq_some_iff.1 hq).1
            have h1 := (TT.act q r[q] av' (some n) (List.getElem?_eq_getElem hql) hq).2.2 n rfl
            have h2 := htk n hn
            have h3 : σ1.length ≤ n := h1.1
            omega
          cases k with
          | zero =>
            cases k' with
            | zero => rfl
            | succ k' => simp at hk; exact (tl k' av2 (by simpa using hk') hk.2).elim
          | succ k =>
            cases k' with
            | zero => simp at hk'; exact (tl k av1 (by simpa using hk) hk'.2).elim
            | succ k' => rw [TT.tok k k' av1 av2 n (by simpa using hk) (by simpa using hk')]
      split at h
      · rw [opN_nat] at h
        obtain ⟨av, h1, h2⟩ := Option.bind_eq_some_iff.1 h
        refine go av none st.σ ?_ (Ext.refl _) (Nat.le_refl _) (fun n hn => by cases hn) (fun σ' he => doNG h1 he)
        have : (⟨(st.put o.dst av).slots, st.σ⟩ : St) = st.put o.dst av := by cases ho : o.dst <;> rfl
        rw [this]; exact h2
      · split at h
        · simp only [Bool.false_eq_true, if_false] at h
          obtain ⟨toks, av, ob, hK, g⟩ := opA_sound h
          have hl : (Gv.freeze st.σ toks).length = st.σ.length := freeze_len _ _
          exact go av (some st.σ.length) _ hK ((Ext.frz _ _).app _) (by simp [hl]) (fun n hn => by cases hn; exact ⟨rfl, by simp [hl]⟩) (fun σ' he => doAG g (fun hm => Nat.lt_irrefl _ (hTl _ hm)) he)
        · split at h
          · rename_i c0 hop
            obtain ⟨f, g, caps, N, rd, z, y, h1, h2, h3, h4⟩ := callV_spec h
            have hcont := h4.cont
            simp only [Bool.false_and, Bool.false_eq_true, if_false] at hcont
            have hcond : (if scal 6 ((putF [] N.R.vals (N.mkR y).2).headD .any) = true then st.σ else Gv.freeze st.σ rd).length = st.σ.length := by split <;> simp [freeze_len]
            refine go _ none _ hcont ?_ (by rw [hcond]; exact Nat.le_refl _) (fun n hn => by cases hn) (fun σ' he => doCG hC hop h1 h2 h3 h4 he)
            split
            · exact Ext.refl _
            · exact Ext.frz _ _
          · cases h
    · cases h


theorem depMask_mono : ∀ (b : List Oper) (i s q : Nat), s.testBit q = true → (depMask i b s).testBit q = true
  | [], i, s, q, h => h
  | o :: b, i, s, q, h => by
    simp only [depMask]
    refine depMask_mono b _ _ q ?_
    split
    · rw [Nat.testBit_or, h]; rfl
    · exact h
theorem depMask_lt : ∀ (b : List Oper) (i s q : Nat), q < i → (depMask i b s).testBit q = s.testBit q
  | [], i, s, q, h => rfl
  | o :: b, i, s, q, h => by
    simp only [depMask]
    rw [depMask_lt b _ _ q (by omega)]
    split
    · rw [Nat.testBit_or, one_shift_bit, decide_eq_false (by omega), Bool.or_false]
    · rfl
/-- What hangs on the call hangs on it directly, or on something before it that does. -/
theorem depMask_spec : ∀ (b : List Oper) (i s k : Nat) o, b[k]? = some o → s.testBit (i + k) = false → (depMask i b s).testBit (i + k) = true → ∃ q, (depsM o).testBit q = true ∧ (depMask i b s).testBit q = true
  | [], i, s, k, o, h, _, _ => by simp at h
  | o' :: b, i, s, k, o, h, hs, hm => by
    simp only [depMask] at hm ⊢
    cases k with
    | zero =>
      simp at h; subst h
      by_cases hd : ((depsM o' &&& s) != 0) = true
      · have hne : depsM o' &&& s ≠ 0 := by simpa using hd
        obtain ⟨q, hq⟩ : ∃ q, (depsM o' &&& s).testBit q = true := Nat.exists_testBit_of_ne_zero hne
        rw [Nat.testBit_and, Bool.and_eq_true] at hq
        refine ⟨q, hq.1, depMask_mono b _ _ q ?_⟩
        rw [if_pos hd, Nat.testBit_or, hq.2, Bool.true_or]
      · exfalso
        rw [if_neg hd] at hm
        rw [depMask_lt b _ _ _ (by omega)] at hm
        rw [hs] at hm; cases hm
    | succ k =>
      rw [show i + (k + 1) = i + 1 + k by omega] at hs hm
      refine depMask_spec b (i + 1) _ k o (by simpa using h) ?_ hm
      split
      · rw [Nat.testBit_or, hs, one_shift_bit, decide_eq_false (by omega)]; rfl
      · exact hs
/-- And all that hangs on something of the set is of the set. -/
theorem depMask_closed : ∀ (b : List Oper) (i s k q : Nat) o, b[k]? = some o → (depsM o).testBit q = true → q < i + k → (depMask i b s).testBit q = true → (depMask i b s).testBit (i + k) = true
  | [], i, s, k, q, o, h, _, _, _ => by simp at h
  | o' :: b, i, s, k, q, o, h, hq, hlt, hm => by
    simp only [depMask] at hm ⊢
    cases k with
    | zero =>
      simp at h; subst h
      rw [depMask_lt b _ _ q (by omega)] at hm
      have hsq : s.testBit q = true := by
        split at hm
        · rw [Nat.testBit_or, one_shift_bit, decide_eq_false (by omega), Bool.or_false] at hm; exact hm
        · exact hm
      have hne : (depsM o' &&& s) ≠ 0 := by
        intro e
        have := congrArg (fun n => Nat.testBit n q) e
        simp only [Nat.testBit_and, hq, hsq, Nat.zero_testBit] at this
        cases this
      refine depMask_mono b _ _ _ ?_
      rw [if_pos (by simpa using hne), Nat.testBit_or, one_shift_bit]
      simp
    | succ k =>
      rw [show i + (k + 1) = i + 1 + k by omega] at hlt ⊢
      exact depMask_closed b (i + 1) _ k q o (by simpa using h) hq hlt hm

theorem pickL_mem {s : Nat} {inn : Bool} : ∀ (b : List Oper) (i : Nat) p, p ∈ pickL s inn i b ↔ ∃ k : Nat, p.1 = i + k ∧ b[k]? = some p.2 ∧ s.testBit (i + k) = inn
  | [], i, p => by simp [pickL]
  | o :: b, i, p => by
    have ih := pickL_mem (s := s) (inn := inn) b (i + 1) p
    have tail : p ∈ pickL s inn (i + 1) b ↔ ∃ k : Nat, p.1 = i + (k + 1) ∧ b[k]? = some p.2 ∧ s.testBit (i + (k + 1)) = inn := by
      rw [ih]
      constructor
      · rintro ⟨k, h1, h2, h3⟩; exact ⟨k, by omega, h2, by rw [show i + (k + 1) = i + 1 + k by omega]; exact h3⟩
      · rintro ⟨k, h1, h2, h3⟩; exact ⟨k, by omega, h2, by rw [show i + 1 + k = i + (k + 1) by omega]; exact h3⟩
    simp only [pickL]
    split
    · rename_i hb
      simp only [beq_iff_eq] at hb
      rw [List.mem_cons, tail]
      constructor
      · rintro (rfl | ⟨k, h1, h2, h3⟩)
        · exact ⟨0, rfl, rfl, hb⟩
        · exact ⟨k + 1, h1, by simpa using h2, h3⟩
      · rintro ⟨k, h1, h2, h3⟩
        cases k with
        | zero => left; simp at h2; cases p; simp at h1 h2; rw [h1, h2]
        | succ k => right; exact ⟨k, h1, by simpa using h2, h3⟩
    · rename_i hb
      rw [tail]
      constructor
      · rintro ⟨k, h1, h2, h3⟩; exact ⟨k + 1, h1, by simpa using h2, h3⟩
      · rintro ⟨k, h1, h2, h3⟩
        cases k with
        | zero => exact absurd (by simpa using h3) hb
        | succ k => exact ⟨k, h1, by simpa using h2, h3⟩

theorem pickL_sorted {s : Nat} {inn : Bool} : ∀ (b : List Oper) (i : Nat), (pickL s inn i b).Pairwise fun p q => p.1 < q.1
  | [], i => .nil
  | o :: b, i => by
    simp only [pickL]
    split
    · refine List.pairwise_cons.2 ⟨fun q hq => ?_, pickL_sorted b (i + 1)⟩
      obtain ⟨k, h1, _⟩ := (pickL_mem b (i + 1) q).1 hq
      simp only; omega
    · exact pickL_sorted b (i + 1)

theorem goneAll_some {T : List Nat} {σ : List Ob} {t : Nat} : t ∉ T → (goneAll (T.map some) σ)[t]? = σ[t]? := by
  induction T generalizing σ with
  | nil => intro _; rfl
  | cons s T ih =>
    intro h
    simp only [List.mem_cons, not_or] at h
    simp only [List.map_cons, goneAll]
    rw [ih h.2, List.getElem?_set_ne (fun e => h.1 e.symm)]
theorem goneAll_in {T : List Nat} {σ : List Ob} {t : Nat} : t ∈ T → ∀ ob, (goneAll (T.map some) σ)[t]? = some ob → ob = .gone := by
  intro h ob ho
  rcases goneAll_get (T.map some) σ t ob ho with h1 | ⟨_, h1⟩
  · exact h1
  · exact absurd (List.mem_map.2 ⟨t, h, rfl⟩) h1

theorem restore_get : ∀ (T : List Nat) (s0 s : List Ob) (t : Nat), (restore T s0 s)[t]? = if t ∈ T ∧ t < s0.length ∧ t < s.length then s0[t]? else s[t]?
  | [], s0, s, t => by simp [restore]
  | a :: T, s0, s, t => by
    simp only [restore]
    rw [restore_get T s0 _ t]
    by_cases ha : a < s0.length
    · rw [List.getElem?_eq_getElem ha]
      simp only [List.length_set]
      by_cases hta : t = a
      · subst hta
        by_cases hts : t < s.length
        · simp only [List.mem_cons, true_or, true_and, ha, hts, and_self, if_true, List.getElem?_set_self hts]
          split <;> simp [List.getElem?_eq_getElem ha]
        · rw [if_neg (fun h => hts h.2.2), if_neg (fun h => hts h.2.2), List.getElem?_eq_none (by simp; omega), List.getElem?_eq_none (by omega)]
      · rw [List.getElem?_set_ne (fun e => hta e.symm)]
        simp only [List.mem_cons, hta, false_or]
    · rw [List.getElem?_eq_none (by omega)]
      by_cases hta : t = a
      · subst hta
        rw [if_neg (fun h => ha h.2.1), if_neg (fun h => ha h.2.1)]
      · simp only [List.mem_cons, hta, false_or]
theorem restore_len : ∀ (T : List Nat) (s0 s : List Ob), (restore T s0 s).length = s.length
  | [], s0, s => rfl
  | a :: T, s0, s => by
    simp only [restore]; rw [restore_len]; split <;> simp


theorem pickL_sub {s : Nat} {inn : Bool} : ∀ (b : List Oper) (i : Nat), ((pickL s inn i b).map (·.2)).Sublist b
  | [], i => .slnil
  | o :: b, i => by
    simp only [pickL]
    split
    · exact (pickL_sub b (i + 1)).cons_cons o
    · exact (pickL_sub b (i + 1)).cons o

/-- What holds of a block's operations, some of them done, over a store. -/
structure PartS (E : Env) (b : List Oper) (m : Nat) (σX : List Ob) (V : Nat → AV → Option Nat → Prop) (σ0 : List Ob) (μ0 : Nat → Option Value) (a0 : Act) (w0 : World) (U : List Nat) (μ : Nat → Option Value) (a : Act) (w : World) : Prop where
  base : Rel E [] σX μ [] w
  kp : Kp (okN E σ0 μ0 w0) (okN E σX μ w) w0 w
  ext : ∀ t u, μ0 t = some u → μ t = some u
  non : ∀ (k : Nat) av n, V k av (some n) → m + k ∈ U → μ n = none
  val : ∀ (k : Nat) o av tk d v, b[k]? = some o → V k av tk → m + k ∉ U → o.dst = some d → a.tmps[d]? = some v → RV (okN E σX μ w) w μ av v
  same : Same b a0 a
  size : a.tmps.size = a0.tmps.size

theorem PartS.float {b : List Oper} {m : Nat} {σX : List Ob} {V : Nat → AV → Option Nat → Prop} {σ0 : List Ob} {μ0 : Nat → Option Value} {a0 : Act} {w0 : World} {U : List Nat} {a : Act} (hp : PartS E b m σX V σ0 μ0 a0 w0 U μ a w)
    (hn : U.Nodup) {k : Nat} {o : Oper} (hk : b[k]? = some o) (hjU : m + k ∈ U) {av : AV} {tk : Option Nat} (hV : V k av tk) {ρ : Operand → AV} (hdo : DoOk P E o ρ av σX tk) (hρ : ∀ y, RV (okN E σX μ w) w μ (ρ y) (a.eval y))
    (hVu : ∀ av' tk', V k av' tk' → av' = av ∧ tk' = tk) (htok : ∀ k' av' n, V k' av' (some n) → tk = some n → k' = k) (hd : (b.filterMap fun o => o.dst).Nodup) :
    o.wp P a w (fun a' w' => ∃ μ', PartS E b m σX V σ0 μ0 a0 w0 (U.erase (m + k)) μ' a' w') Q := by
  refine Oper.wp_mono (fun a' w' hq => ?_) (hdo μ a w Q hp.base hρ (fun n hn' => hp.non k _ n (by rw [← hn']; exact hV) hjU))
  obtain ⟨v, μ', rfl, q1, q2, q3, q4, q5⟩ := hq
  refine ⟨μ', q1, ⟨fun b hb => q2.imp b (hp.kp.imp b hb), fun b hb => (q2.same b (hp.kp.imp b hb)).trans (hp.kp.same b hb)⟩, fun t u hu => q3 t u (hp.ext t u hu), fun k' av' n hV' hU' => ?_, fun k' o' av' tk' d u hk' hV' hU' hod hu => ?_, hp.same.trans (Same.one (List.mem_of_getElem? hk) a v), by rw [Act.put_size]; exact hp.size⟩
  · have hne : k' ≠ k := by rintro rfl; exact hn.not_mem_erase hU'
    have hmem := List.mem_of_mem_erase hU'
    rw [q4 n (fun e => hne (htok k' av' n hV' e))]
    exact hp.non k' av' n hV' hmem
  · by_cases hkk : k' = k
    · subst hkk
      rw [hk] at hk'; cases hk'
      obtain ⟨rfl, _⟩ := hVu _ _ hV'
      have : u = v := by
        rw [hod] at hu
        simp only [Act.put, Array.getElem?_setIfInBounds_self] at hu
        split at hu
        · cases hu; rfl
        · cases hu
      subst this; exact q5
    · have hnU : m + k' ∉ U := fun hm => hU' ((List.mem_erase_of_ne (by omega)).2 hm)
      have hdd : o.dst ≠ some d := fun e => hkk (filterMap_nodup hd k' k o' o d hk' hk hod e)
      have hu' : a.tmps[d]? = some u := by
        cases hod' : o.dst with
        | none => rw [hod'] at hu; exact hu
        | some e =>
          rw [hod'] at hu
          have hne : e ≠ d := fun h => hdd (by rw [hod', h])
          simpa [Act.put, Array.getElem?_setIfInBounds_ne hne] using hu
      exact (hp.val k' o' av' tk' d u hk' hV' hnU hod hu').kp q2 q3

theorem goneAll_out {m : List (Option Nat)} {σ : List Ob} {t : Nat} : some t ∉ m → (goneAll m σ)[t]? = σ[t]? := by
  induction m generalizing σ with
  | nil => intro _; rfl
  | cons s m ih =>
    intro h
    simp only [List.mem_cons, not_or] at h
    cases s with
    | none => simp only [goneAll]; exact ih h.2
    | some s => simp only [goneAll]; rw [ih h.2, List.getElem?_set_ne (fun e => h.1 (by rw [e]))]
theorem setKept_out : ∀ (ks : List (Option Nat)) (os σ : List Ob) (t : Nat), (∀ j : Nat, ks[j]? ≠ some (some t)) → (setKept ks os σ)[t]? = σ[t]?
  | some s :: ks, a :: os, σ, t, h => by
    simp only [setKept]
    rw [setKept_out ks os _ t (fun j => h (j + 1)), List.getElem?_set_ne (fun e => h 0 (by rw [e]; rfl))]
  | none :: ks, a :: os, σ, t, h => by
    simp only [setKept]
    exact setKept_out ks os _ t (fun j => h (j + 1))
  | [], _, σ, t, h => by simp [setKept]
  | some _ :: _, [], σ, t, h => by simp [setKept]
  | none :: _, [], σ, t, h => by simp [setKept]

theorem afterR_out {A R : Sig} {v : R.V} {σ : List Ob} {m : List (Option Nat)} {rd : List Nat} {t : Nat} (ht : t < σ.length) (hm : some t ∉ m) : (afterR A R v σ m rd)[t]? = (Gv.freeze σ rd)[t]? := by
  unfold afterR
  simp only
  rw [List.getElem?_append_left (by rw [setKept_len, goneAll_len, freeze_len]; exact ht), setKept_out, goneAll_out hm]
  intro j hj
  obtain ⟨i, a, _, _, h3⟩ := keeps_get _ _ _ _ _ _ _ hj
  apply hm
  simp only [List.getD_eq_getElem?_getD] at h3
  cases hx : m[a]? with
  | none => rw [hx] at h3; cases h3
  | some q => rw [hx] at h3; simp at h3; rw [← h3]; exact List.mem_of_getElem? hx


theorem okN_ext (h : Rel E slots σ μ vs w) (he : Ext σ σ') {b : Nat} (hb : okN E σ μ w b) : okN E σ' μ w b := ⟨hb.1, hb.2.1, fun t ht => by
  obtain ⟨ob', v, h1, h2, h3, h4⟩ := ht
  have hlt := h.dom t v h3
  rcases he t _ (List.getElem?_eq_getElem hlt) with k | k
  · rw [k] at h1; cases h1; exact hb.2.2 t ⟨_, v, List.getElem?_eq_getElem hlt, h2, h3, h4⟩
  · rw [k] at h1; cases h1; rw [frz_own] at h2; cases h2⟩

theorem callOf_spec {o : Oper} {f : Operand} {l : List Operand} (h : callOf o = some (f, l)) : ∃ args ats, o.op = .call ⟨.value f, args, ats⟩ ∧ args.toList = l := by
  unfold callOf at h
  split at h
  · rename_i c hop
    obtain ⟨cal, args, ats⟩ := c
    split at h
    · rename_i f' hf
      simp only at hf; subst hf
      simp only [Option.some.injEq, Prod.mk.injEq] at h
      obtain ⟨rfl, rfl⟩ := h
      exact ⟨args, ats, hop, rfl⟩
    · cases h
  · cases h

theorem sorted_inj {l : List (Nat × Oper)} (h : l.Pairwise fun p q => p.1 < q.1) {i j : Nat} {p q : Nat × Oper} (hi : l[i]? = some p) (hj : l[j]? = some q) (he : p.1 = q.1) : i = j := by
  induction h generalizing i j with
  | nil => simp at hi
  | cons ha _ ih =>
    cases i with
    | zero =>
      cases j with
      | zero => rfl
      | succ j =>
        simp at hi hj; subst hi
        have := ha q (List.mem_of_getElem? hj); omega
    | succ i =>
      cases j with
      | zero =>
        simp at hi hj; subst hj
        have := ha p (List.mem_of_getElem? hi); omega
      | succ j => rw [ih (i := i) (j := j) (by simpa using hi) (by simpa using hj)]

/-- A list of operations with their places. -/
structure Places (m : Nat) (b : List Oper) (pr : Nat → Bool) (l : List (Nat × Oper)) : Prop where
  mem : ∀ p, p ∈ l ↔ ∃ k : Nat, p.1 = m + k ∧ b[k]? = some p.2 ∧ pr (m + k) = true
  srt : l.Pairwise fun p q => p.1 < q.1
  sub : (l.map (·.2)).Sublist b

theorem Places.at {m : Nat} {b : List Oper} {pr : Nat → Bool} {l : List (Nat × Oper)} (h : Places m b pr l) {i k : Nat} {o : Oper} (hi : l[i]? = some (m + k, o)) : b[k]? = some o ∧ pr (m + k) = true := by
  obtain ⟨k', h1, h2, h3⟩ := (h.mem _).1 (List.mem_of_getElem? hi)
  simp only at h1 h2
  have : k' = k := by omega
  subst this; exact ⟨h2, h3⟩
theorem Places.of {m : Nat} {b : List Oper} {pr : Nat → Bool} {l : List (Nat × Oper)} (h : Places m b pr l) {k : Nat} {o : Oper} (hk : b[k]? = some o) (hp : pr (m + k) = true) : ∃ i : Nat, l[i]? = some (m + k, o) :=
  List.getElem?_of_mem ((h.mem (m + k, o)).2 ⟨k, rfl, hk, hp⟩)

/-- The interpreter's run over such a list. -/
theorem Places.run {T : List Nat} {C : Cfg} (hC : ∀ g l N, C.orc g l = some N → Sat C.P g N) (hb : back 0 ops.toList = true) {b : List Oper} {m : Nat} (hseg : Seg ops m b) (hnd : (b.filterMap fun o => o.dst).Nodup)
    {pr : Nat → Bool} {l : List (Nat × Oper)} (hl : Places m b pr l) {st : St} {K : St → Option α} {x : α} (h : evAB C false [] (zipFrom m b) (l.map (·.2)) st K = some x) (hT : ∀ t ∈ T, t < st.σ.length) :
    ∃ stF L, K stF = some x ∧ TraceG T C.P E [] (zipFrom m b) (l.map (·.2)) st stF L := by
  have get : ∀ (i : Nat) o, (l.map (·.2))[i]? = some o → ∃ k : Nat, l[i]? = some (m + k, o) ∧ b[k]? = some o := by
    intro i o hi
    rw [List.getElem?_map] at hi
    obtain ⟨p, hp, rfl⟩ := Option.map_eq_some_iff.1 hi
    obtain ⟨k, h1, h2, _⟩ := (hl.mem p).1 (List.mem_of_getElem? hp)
    exact ⟨k, by rw [hp, ← h1], h2⟩
  refine evAB_specL hC _ (fun i => if h : i < l.length then l[i].1 else m + b.length) st K x h (fun i o hi => ?_) (fun i j hij => ?_) (hl.sub.filterMap _ |>.nodup hnd) hT
  · obtain ⟨k, h1, h2⟩ := get i o hi
    have hlt := (List.getElem?_eq_some_iff.1 h1).1
    have hix : l[i].1 = m + k := by rw [List.getElem?_eq_getElem hlt] at h1; rw [Option.some.inj h1]
    simp only [hlt, dif_pos, hix]
    refine ⟨zipFrom_get b m k o h2, fun j hj => ?_⟩
    have := back_spec ops.toList 0 hb (m + k) o (by rw [Array.getElem?_toList]; exact hseg k o h2) j hj
    omega
  · by_cases hj : j < l.length
    · have hi : i < l.length := by omega
      rw [dif_pos hi, dif_pos hj]
      rcases Nat.lt_or_ge i j with hlt | hge
      · exact Nat.le_of_lt (List.pairwise_iff_getElem.1 hl.srt i j hi hj hlt)
      · have : i = j := by omega
        subst this; exact Nat.le_refl _
    · rw [dif_neg hj]
      split
      · rename_i hi
        obtain ⟨k, h1, h2, _⟩ := (hl.mem l[i]).1 (List.getElem_mem hi)
        have := (List.getElem?_eq_some_iff.1 h2).1
        omega
      · exact Nat.le_refl _

/-- What a list's run says of an operation. -/
def ValL (m : Nat) (l : List (Nat × Oper)) (L : List (AV × Option Nat)) (k : Nat) (av : AV) (tk : Option Nat) : Prop := ∃ (i : Nat) (o : Oper), l[i]? = some (m + k, o) ∧ L[i]? = some (av, tk)

theorem ValL.uniq {m : Nat} {b : List Oper} {pr : Nat → Bool} {l : List (Nat × Oper)} (hl : Places m b pr l) {L : List (AV × Option Nat)} {k : Nat} {av av' : AV} {tk tk' : Option Nat} (h : ValL m l L k av tk) (h' : ValL m l L k av' tk') : av' = av ∧ tk' = tk := by
  obtain ⟨i, o, h1, h2⟩ := h
  obtain ⟨j, o', h3, h4⟩ := h'
  have := sorted_inj hl.srt h1 h3 rfl
  subst this
  rw [h2] at h4; cases h4; exact ⟨rfl, rfl⟩


theorem spine_sound {C : Cfg} (hC : ∀ g l N, C.orc g l = some N → Sat C.P g N) (hb : back 0 ops.toList = true) {b : List Oper} {m c : Nat} {st : St} {K KP : St → Option α} {x : α} (h : evSB C b m c st K KP = some x)
    (hseg : Seg ops m b) (hcut : Cut ops (m + b.length)) (hnd : (b.filterMap fun o => o.dst).Nodup) {a0 : Act} {w0 : World} {μ0 : Nat → Option Value} (hr : HR E st.σ μ0 st a0 w0) {rest : Nat}
    (done : ∀ a w listed st', K st' = some x → Lst ops m b.length [] listed → Holds E st' a w → Same b a0 a → wpAny C.P .any ops Q rest listed a w)
    (hP : ∀ st' pv a w, KP st' = some x → HoldsP E st' pv a w → Same b a0 a → Q (.panic [{ v := pv, recovered := false }]) a w)
    {listed : Array Bool} (hl : Lst ops m b.length (List.range' m b.length) listed) : wpAny C.P .any ops Q (b.length + rest) listed a0 w0 := by
  unfold evSB at h
  obtain ⟨oc, hoc, h⟩ := Option.bind_eq_some_iff.1 h
  obtain ⟨⟨f, l⟩, hcall, h⟩ := Option.bind_eq_some_iff.1 h
  dsimp only at h
  obtain ⟨cargs, ats, hop, hargs⟩ := callOf_spec hcall
  generalize hmask : depMask m b (1 <<< (m + c)) = mask at h
  generalize hiL : pickL mask false m b = iL at h
  generalize hdL : ((pickL mask true m b).filter fun p => p.1 != m + c) = dL at h
  generalize hT0 : ((l.map fun y => ownToks st.σ 6 (evOp st (argSrc iL y))).flatten.filter fun t => decide (t < st.σ.length)) = T at h
  have hTl : ∀ t ∈ T, t < st.σ.length := fun t ht => by
    rw [← hT0] at ht
    have := (List.mem_filter.1 ht).2
    simpa using this
  have hclt : c < b.length := (List.getElem?_eq_some_iff.1 hoc).1
  have maskc : mask.testBit (m + c) = true := by rw [← hmask]; exact depMask_mono b _ _ _ (by rw [one_shift_bit]; simp)
  have plI : Places m b (fun q => !mask.testBit q) iL := by
    rw [← hiL]
    exact ⟨fun p => by rw [pickL_mem]; simp only [Bool.not_eq_true'], pickL_sorted b m, pickL_sub b m⟩
  have plD : Places m b (fun q => mask.testBit q && q != m + c) dL := by
    rw [← hdL]
    refine ⟨fun p => ?_, (pickL_sorted b m).filter _, (List.Sublist.map _ List.filter_sublist).trans (pickL_sub b m)⟩
    rw [List.mem_filter, pickL_mem]
    constructor
    · rintro ⟨⟨k, h1, h2, h3⟩, h4⟩; exact ⟨k, h1, h2, by rw [h3, ← h1, h4]; rfl⟩
    · rintro ⟨k, h1, h2, h3⟩
      simp only [Bool.and_eq_true] at h3
      exact ⟨⟨k, h1, h2, h3.1⟩, by rw [h1]; exact h3.2⟩
  obtain ⟨stI, LI, hK1, TI⟩ := plI.run (E := E) (T := T) hC hb hseg hnd h (by rw [goneAll_len]; exact hTl)
  have lenI : st.σ.length ≤ stI.σ.length := by have := TI.σlen; rwa [goneAll_len] at this
  -- the store with the call's objects in it
  generalize hσL : restore T st.σ stI.σ = σL at hK1
  have lenL : σL.length = stI.σ.length := by rw [← hσL]; exact restore_len ..
  have getT : ∀ t ∈ T, σL[t]? = st.σ[t]? := fun t ht => by
    have := hTl t ht
    rw [← hσL, restore_get, if_pos ⟨ht, this, by omega⟩]
  have getN : ∀ t, t ∉ T → σL[t]? = stI.σ[t]? := fun t ht => by
    rw [← hσL, restore_get, if_neg (fun hh => ht hh.1)]
  have extL : Ext st.σ σL := fun t ob ho => by
    by_cases ht : t ∈ T
    · left; rw [getT t ht]; exact ho
    · rw [getN t ht]
      exact TI.ext t ob (by rw [goneAll_some ht]; exact ho)
  have goneI : ∀ t ∈ T, ∀ ob, stI.σ[t]? = some ob → ob = .gone := fun t ht ob ho => by
    have hlt := hTl t ht
    have hg : (goneAll (T.map some) st.σ)[t]? = some .gone := by
      have hl : t < (goneAll (T.map some) st.σ).length := by rw [goneAll_len]; exact hlt
      rw [List.getElem?_eq_getElem hl]
      congr 1
      exact goneAll_in ht _ (List.getElem?_eq_getElem hl)
    rcases TI.ext t _ hg with k | k
    · rw [k] at ho; cases ho; rfl
    · rw [k] at ho; cases ho; rfl
  have gL : ExtG T stI.σ σL := fun t ob ho => by
    by_cases ht : t ∈ T
    · exact .inl ⟨ht, goneI t ht ob ho⟩
    · exact .inr (.inl (by rw [getN t ht]; exact ho))
  have hF : HR E σL μ0 st a0 w0 := Rel.ext hr extL (by omega)
  have hlen0 : st.slots.length ≤ a0.tmps.size := by
    have := (show RVL _ w0 μ0 st.slots _ from hr.vals).len
    rw [List.length_take, Array.length_toList] at this; omega
  -- what the slots hold of what has been done
  have sv : ∀ {σX : List Ob} {V : Nat → AV → Option Nat → Prop} {U μ a w}, PartS E b m σX V σL μ0 a0 w0 U μ a w → (∀ k av tk, ValL m iL LI k av tk → V k av tk) →
      ∀ t, (∀ (k : Nat) o, b[k]? = some o → o.dst = some t → mask.testBit (m + k) = false ∧ m + k ∉ U) → RV (okN E σX μ w) w μ (stI.get t) (a.tmps.getD t undef) := by
    intro σX V U μ a w hp hV t ht
    by_cases hw : ∃ (k : Nat) (o : Oper), b[k]? = some o ∧ o.dst = some t
    · obtain ⟨k, o, hk, hd⟩ := hw
      obtain ⟨h1, h2⟩ := ht k o hk hd
      obtain ⟨i, hi⟩ := plI.of hk (by simp [h1])
      have hil : i < LI.length := by rw [TI.len, List.length_map]; exact (List.getElem?_eq_some_iff.1 hi).1
      have hL : LI[i]? = some (LI[i].1, LI[i].2) := by rw [List.getElem?_eq_getElem hil]
      rcases Nat.lt_or_ge t st.slots.length with hlt | hge
      · have hs := TI.ins i o _ _ t (by rw [List.getElem?_map, hi]; rfl) hL hd hlt
        have hds : t < a.tmps.size := Nat.lt_of_lt_of_le hlt (by rw [hp.size]; exact hlen0)
        have hv := hp.val k o _ _ t a.tmps[t] hk (hV _ _ _ ⟨i, o, hi, hL⟩) h2 hd (Array.getElem?_eq_getElem hds)
        rw [show stI.get t = LI[i].1 by simp [St.get, List.getD_eq_getElem?_getD, hs], show a.tmps.getD t undef = a.tmps[t] by simp [hds]]
        exact hv
      · rw [show stI.get t = .any by simp only [St.get, List.getD_eq_getElem?_getD]; rw [List.getElem?_eq_none (by rw [TI.slen]; exact hge)]; rfl]
        trivial
    · have hno : ∀ o ∈ b, o.dst ≠ some t := fun o ho e => hw (by obtain ⟨k, hk⟩ := List.getElem?_of_mem ho; exact ⟨k, o, hk, e⟩)
      have h1 := evOp_rv hF.vals (.tmp t)
      simp only [evOp, Act.eval] at h1
      have h2 : stI.get t = st.get t := by simp only [St.get, List.getD_eq_getElem?_getD, TI.out t (fun o ho => hno o (plI.sub.subset ho))]
      have h3 : a.tmps.getD t undef = a0.tmps.getD t undef := by simp only [Array.getD_eq_getD_getElem?, hp.same.2 t hno]
      rw [h2, h3]
      exact h1.kp hp.kp hp.ext
  have mevI : ∀ {σX : List Ob} {V : Nat → AV → Option Nat → Prop} {U μ a w}, PartS E b m σX V σL μ0 a0 w0 U μ a w → (∀ k av tk, ValL m iL LI k av tk → V k av tk) →
      ∀ (o : Oper), (∀ (k : Nat) o', b[k]? = some o' → (depsM o).testBit (m + k) = true → mask.testBit (m + k) = false ∧ m + k ∉ U) → ∀ y, RV (okN E σX μ w) w μ (mev (zipFrom m b) o stI y) (a.eval y) := by
    intro σX V U μ a w hp hV o ho y
    cases y with
    | tmp t =>
      simp only [mev]
      split
      · trivial
      · rename_i hm
        refine sv hp hV t (fun k o' hk hd => ho k o' hk ?_)
        cases hbb : (depsM o).testBit (m + k) with
        | true => rfl
        | false =>
          exfalso; apply hm
          rw [List.any_eq_true]
          exact ⟨_, zipFrom_get b m k o' hk, by simp [hd, dIs, hbb]⟩
    | const v => exact RV.ofVal v
    | func f => exact (show RV _ _ _ (evOp st (.func f)) (a0.eval (.func f)) from evOp_rv hF.vals (.func f)).kp hp.kp hp.ext
    | global g => exact (show RV _ _ _ (evOp st (.global g)) (a0.eval (.global g)) from evOp_rv hF.vals (.global g)).kp hp.kp hp.ext
  have tokI : ∀ k av n, ValL m iL LI k av (some n) → n < stI.σ.length := fun k av n ⟨i, o, h1, h2⟩ => ((TI.act i o av (some n) (by rw [List.getElem?_map, h1]; rfl) h2).2.2 n rfl).2
  have tokU : ∀ {k k' av av' n}, ValL m iL LI k av (some n) → ValL m iL LI k' av' (some n) → k' = k := by
    rintro k k' av av' n ⟨i, o, h1, h2⟩ ⟨j, o', h3, h4⟩
    have := TI.tok i j _ _ n h2 h4
    subst this
    rw [h1] at h3
    have := (Prod.mk.inj (Option.some.inj h3)).1
    omega
  -- what the slots hold behind the call
  have sv1 : ∀ {ret : AV} {σ1 : List Ob} {stF : St} {LD : List (AV × Option Nat)} {U μ a w}, TraceG [] C.P E [] (zipFrom m b) (dL.map (·.2)) ((⟨stI.slots, σ1⟩ : St).put oc.dst ret) stF LD →
      PartS E b m stF.σ (fun k av tk => ValL m iL LI k av tk ∨ (k = c ∧ av = ret ∧ tk = none) ∨ ValL m dL LD k av tk) σL μ0 a0 w0 U μ a w → ∀ t, (∀ (k : Nat) o, b[k]? = some o → o.dst = some t → m + k ∉ U) → RV (okN E stF.σ μ w) w μ (stF.get t) (a.tmps.getD t undef) := by
    intro ret σ1 stF LD U μ a w TD hp t ht
    have slen : stF.slots.length = st.slots.length := by rw [TD.slen, St.put_len]; exact TI.slen
    have uniq : ∀ {k k' : Nat} {o o' : Oper}, b[k]? = some o → b[k']? = some o' → o.dst = some t → o'.dst = some t → k = k' := fun h1 h2 h3 h4 => filterMap_nodup hnd _ _ _ _ t h1 h2 h3 h4
    have outD : (∀ (k : Nat) o, b[k]? = some o → o.dst = some t → mask.testBit (m + k) = false ∨ k = c) → stF.slots[t]? = ((⟨stI.slots, σ1⟩ : St).put oc.dst ret).slots[t]? := by
      intro hh
      refine TD.out t (fun o ho hd => ?_)
      obtain ⟨i, hi⟩ := List.getElem?_of_mem ho
      rw [List.getElem?_map] at hi
      obtain ⟨p, hp', rfl⟩ := Option.map_eq_some_iff.1 hi
      obtain ⟨k, h1, h2, h3⟩ := (plD.mem p).1 (List.mem_of_getElem? hp')
      simp only [Bool.and_eq_true, bne_iff_ne, ne_eq] at h3
      rcases hh k _ h2 hd with h4 | h4
      · rw [h3.1] at h4; cases h4
      · exact h3.2 (by omega)
    have toI : (∀ (k : Nat) o, b[k]? = some o → o.dst = some t → mask.testBit (m + k) = false) → RV (okN E stF.σ μ w) w μ (stF.get t) (a.tmps.getD t undef) := by
      intro hh
      have hne : oc.dst ≠ some t := fun e => by have := hh c oc hoc e; rw [maskc] at this; cases this
      have he : stF.get t = stI.get t := by
        simp only [St.get, List.getD_eq_getElem?_getD]
        rw [outD (fun k o h1 h2 => .inl (hh k o h1 h2)), St.put_get hne]
      rw [he]
      exact sv hp (fun _ _ _ h => .inl h) t (fun k o h1 h2 => ⟨hh k o h1 h2, ht k o h1 h2⟩)
    by_cases hw : ∃ (k : Nat) (o : Oper), b[k]? = some o ∧ o.dst = some t
    · obtain ⟨k, o, hk, hd⟩ := hw
      rcases Nat.lt_or_ge t st.slots.length with hlt | hge
      · have hds : t < a.tmps.size := Nat.lt_of_lt_of_le hlt (by rw [hp.size]; exact hlen0)
        by_cases hkc : k = c
        · subst hkc
          rw [hoc] at hk; cases hk
          have hs : stF.slots[t]? = some ret := by
            rw [outD (fun k' o' h1 h2 => .inr (uniq h1 hoc h2 hd)), hd]
            exact St.put_self (by show t < stI.slots.length; rw [TI.slen]; exact hlt)
          have hv := hp.val k oc ret none t a.tmps[t] hoc (.inr (.inl ⟨rfl, rfl, rfl⟩)) (ht k oc hoc hd) hd (Array.getElem?_eq_getElem hds)
          rw [show stF.get t = ret by simp [St.get, List.getD_eq_getElem?_getD, hs], show a.tmps.getD t undef = a.tmps[t] by simp [hds]]
          exact hv
        · cases hmk : mask.testBit (m + k) with
          | false => exact toI (fun k' o' h1 h2 => by have := uniq h1 hk h2 hd; subst this; exact hmk)
          | true =>
            obtain ⟨i, hi⟩ := plD.of hk (by simp [hmk]; omega)
            have hil : i < LD.length := by rw [TD.len, List.length_map]; exact (List.getElem?_eq_some_iff.1 hi).1
            have hL : LD[i]? = some (LD[i].1, LD[i].2) := by rw [List.getElem?_eq_getElem hil]
            have hs := TD.ins i o _ _ t (by rw [List.getElem?_map, hi]; rfl) hL hd (by rw [St.put_len]; show t < stI.slots.length; rw [TI.slen]; exact hlt)
            have hv := hp.val k o _ _ t a.tmps[t] hk (.inr (.inr ⟨i, o, hi, hL⟩)) (ht k o hk hd) hd (Array.getElem?_eq_getElem hds)
            rw [show stF.get t = LD[i].1 by simp [St.get, List.getD_eq_getElem?_getD, hs], show a.tmps.getD t undef = a.tmps[t] by simp [hds]]
            exact hv
      · rw [show stF.get t = .any by simp only [St.get, List.getD_eq_getElem?_getD]; rw [List.getElem?_eq_none (by rw [slen]; exact hge)]; rfl]
        trivial
    · exact toI (fun k o h1 h2 => absurd ⟨k, o, h1, h2⟩ hw)
  -- the phases
  have main := block_any (P := C.P) (Q := Q) hb hcut (rest := rest) (fun U a w =>
      ((∀ k, k < b.length → mask.testBit (m + k) = true → m + k ∈ U) ∧ ∃ μ, PartS E b m σL (ValL m iL LI) σL μ0 a0 w0 U μ a w) ∨
      (m + c ∉ U ∧ ∃ (ret : AV) (σ1 : List Ob) (stF : St) (LD : List (AV × Option Nat)), K stF = some x ∧ TraceG [] C.P E [] (zipFrom m b) (dL.map (·.2)) ((⟨stI.slots, σ1⟩ : St).put oc.dst ret) stF LD ∧ ExtG T stI.σ stF.σ ∧ σL.length ≤ σ1.length ∧
        ∃ μ, PartS E b m stF.σ (fun k av tk => ValL m iL LI k av tk ∨ (k = c ∧ av = ret ∧ tk = none) ∨ ValL m dL LD k av tk) σL μ0 a0 w0 U μ a w)) ?_ ?_ (List.range' m b.length) a0 w0 listed (List.nodup_range' (step := 1)) hl ?_
  · rwa [List.length_range'] at main
  · -- one operation
    intro U a w j o hn hsub hjU ho hdeps hI
    obtain ⟨k, rfl⟩ : ∃ k, j = m + k := ⟨j - m, by have := hsub j hjU; omega⟩
    have hkl : k < b.length := by have := hsub _ hjU; omega
    have hk : b[k]? = some o := by
      have := hseg k b[k] (List.getElem?_eq_getElem hkl)
      rw [ho] at this; cases this
      exact List.getElem?_eq_getElem hkl
    have hdlt : ∀ q, (depsM o).testBit q = true → q < m + k := fun q hq => by
      have := back_spec ops.toList 0 hb (m + k) o (by rw [Array.getElem?_toList]; exact ho) q hq
      omega
    have guardOk : gOk [] o.guard = true → Region.wanted o (yielded ops a.tmps) = true := fun hg => gOk_wanted (kn := []) (r := b) (fun g hg => by simp at hg) hg
    -- an operation that does not hang on the call
    have float : ∀ {σX : List Ob} {V : Nat → AV → Option Nat → Prop} {μ}, PartS E b m σX V σL μ0 a0 w0 U μ a w → (∀ k av tk, ValL m iL LI k av tk → V k av tk) → ExtG T stI.σ σX → mask.testBit (m + k) = false →
        (∀ av tk av' tk', V k av tk → V k av' tk' → av' = av ∧ tk' = tk) → (∀ k' av av' n, V k av (some n) → V k' av' (some n) → k' = k) → (∀ (k' : Nat) o', b[k']? = some o' → (depsM o).testBit (m + k') = true → mask.testBit (m + k') = false ∧ m + k' ∉ U) →
        wpOp C.P ops Q (m + k) (fun a' w' => ∃ μ', PartS E b m σX V σL μ0 a0 w0 (U.erase (m + k)) μ' a' w') a w := by
      intro σX V μ hp hV hX hmk hu ht hd
      obtain ⟨i, hi⟩ := plI.of hk (by simp [hmk])
      have hil : i < LI.length := by rw [TI.len, List.length_map]; exact (List.getElem?_eq_some_iff.1 hi).1
      have hL : LI[i]? = some (LI[i].1, LI[i].2) := by rw [List.getElem?_eq_getElem hil]
      obtain ⟨g1, g2, _⟩ := TI.act i o _ _ (by rw [List.getElem?_map, hi]; rfl) hL
      have hVk := hV _ _ _ ⟨i, o, hi, hL⟩
      unfold wpOp
      simp only [ho, guardOk g1, if_true]
      left
      exact hp.float hn hk hjU hVk (g2 σX hX) (mevI hp hV o hd) (fun av' tk' hv' => hu _ _ _ _ hVk hv') (fun k' av' n hv' e => ht k' _ av' n (by rw [← e]; exact hVk) hv') hnd
    rcases hI with ⟨hm0, μ, hp⟩ | ⟨hcU, ret, σ1, stF, LD, hKF, TD, hG, hlen1, μ, hp⟩
    · have hd0 : ∀ (k' : Nat) o', b[k']? = some o' → (depsM o).testBit (m + k') = true → mask.testBit (m + k') = false ∧ m + k' ∉ U := by
        intro k' o' hk' hbit
        have hk'l := (List.getElem?_eq_some_iff.1 hk').1
        constructor
        · cases hmb : mask.testBit (m + k') with
          | false => rfl
          | true => have := hdeps _ (hm0 k' hk'l hmb); rw [hbit] at this; cases this
        · intro hU; have := hdeps _ hU; rw [hbit] at this; cases this
      by_cases hkc : k = c
      · -- the call
        subst hkc
        rw [hoc] at hk; cases hk
        have hρ := mevI hp (fun _ _ _ h => h) oc hd0
        split at hK1
        · rename_i g caps hfe
          obtain ⟨N, hN, hK1⟩ := Option.bind_eq_some_iff.1 hK1
          split at hK1
          · rename_i hcond
            simp only [Bool.and_eq_true, Option.isNone_iff_eq_none] at hcond
            obtain ⟨hgn, htk⟩ := hcond
            unfold wpOp
            simp only [ho, guardOk (by rw [hgn]; rfl), if_true]
            left
            have hf := hρ f
            rw [hfe] at hf
            simp only [RV] at hf
            obtain ⟨cvs, hfv, hcaps⟩ := hf
            have hargsv : RVL (okN E σL μ w) w μ (l.map (mev (zipFrom m b) oc stI) ++ caps) (l.map a.eval ++ cvs.toList) := (map_rvl hρ l).append hcaps
            have hslots : RVL (okN E σL μ w) w μ (anys b st).slots (a.tmps.toList.take (anys b st).slots.length) := by
              refine RVL.of_get (by rw [anys_len, List.length_take, Array.length_toList, hp.size]; omega) (fun t av v ht hv => ?_)
              have hlt : t < st.slots.length := by rw [← anys_len b st]; exact (List.getElem?_eq_some_iff.1 ht).1
              by_cases hw : ∃ o ∈ b, o.dst = some t
              · rw [anys_in b st t hw hlt] at ht; cases ht; trivial
              · have hno : ∀ o ∈ b, o.dst ≠ some t := fun o ho e => hw ⟨o, ho, e⟩
                rw [anys_out b st t hno] at ht
                have h1 := sv hp (fun _ _ _ h => h) t (fun k o hk hd => absurd hd (hno o (List.mem_of_getElem? hk)))
                have h2 : stI.get t = av := by simp only [St.get, List.getD_eq_getElem?_getD, TI.out t (fun o ho => hno o (plI.sub.subset ho)), ht, Option.getD_some]
                have hv' : a.tmps.getD t undef = v := by
                  rw [List.getElem?_take] at hv
                  split at hv
                  · rw [Array.getElem?_toList] at hv; rw [Array.getD_eq_getD_getElem?, hv]; rfl
                  · cases hv
                rw [h2, hv'] at h1; exact h1
            unfold callR at hK1
            split at hK1
            · rename_i hln
              obtain ⟨⟨mm, rd, z⟩, hget, hK1⟩ := Option.bind_eq_some_iff.1 hK1
              obtain ⟨y, hfy, hK1⟩ := Option.bind_eq_some_iff.1 hK1
              simp only at hget hfy hK1
              have hmT : ∀ t, some t ∈ mm → t ∈ T := by
                intro t ht
                unfold tokIn at htk
                rw [hget] at htk
                have := List.all_eq_true.1 htk _ ht
                simpa using this
              have hlen : (l.map a.eval ++ cvs.toList).length = (l.map (mev (zipFrom m b) oc stI) ++ caps).length := by
                have := hcaps.len
                simp only [List.length_append, List.length_map, this]
              have hA : Rel E ((l.map (mev (zipFrom m b) oc stI) ++ caps) ++ (⟨(anys b st).slots, σL⟩ : St).slots) (⟨(anys b st).slots, σL⟩ : St).σ μ ((l.map a.eval ++ cvs.toList) ++ a.tmps.toList.take (anys b st).slots.length) w := { hp.base with vals := hargsv.append hslots }
              obtain ⟨Rb, ok0, μ1, ent, back⟩ := handR (st := ⟨(anys b st).slots, σL⟩) hget (lenIs_spec hln) hlen hA
              obtain ⟨fn, f1, f2, f3⟩ := (hC g _ N hN).fn
              obtain ⟨dst, op, ty, pos, after, guard⟩ := oc
              simp only at hop; subst hop
              unfold Oper.wp
              have hrun : (execOp a.eval ⟨dst, .call ⟨.value f, cargs, ats⟩, ty, pos, after, guard⟩).run C.P w = .ok (.enter g (l.map a.eval ++ cvs.toList).toArray) w := by
                have e : (Array.map a.eval cargs ++ cvs) = (l.map a.eval ++ cvs.toList).toArray := by rw [← hargs]; cases cargs; cases cvs; simp
                simp only [execOp, Go.resolve, hfv, Deferred.ofValue, Sem.run_bind, Sem.run_pure, Result.andThen_ok, invoke, callFunc, Array.empty_append, run_program, f1, f2, f3, if_false, Bool.false_eq_true, e]
              rw [hrun, Oper.upon_enter]
              refine Calls.mono ((hC g _ N hN).run z y hfy w Rb ok0 μ1 _ ent) ?_
              intro en w' hO
              obtain ⟨o1, y1, hE, h1⟩ : ∃ (o1 : Out) (y1 : o1.Y), Ended ⟨w, Rb, ok0⟩ (l.map a.eval ++ cvs.toList) w' en o1.e (o1.R.put (o1.mk1 y1)) ∧ elimR.elim1 N.A σL mm rd (anys b st).slots (fun v st' => evAB C false [] (zipFrom m b) (dL.map (·.2)) ((⟨stI.slots, st'.σ⟩ : St).put dst v) K) KP o1 y1 = some x :=
                (OutQ.and hO (elimR_spec hK1)).elim (fun o _ y hh => ⟨o, y, hh.1, hh.2⟩)
              unfold elimR.elim1 at h1
              split at h1
              · rename_i hok
                cases heq : o1.e with
                | normal => rw [heq] at hE; exact hE.elim
                | exit id => rw [heq] at hE; exact hE.elim
                | pan =>
                  rw [heq] at hE h1
                  cases en with
                  | panicked ch =>
                    obtain ⟨pv, rfl, μ2, hr2⟩ := (hE : ∃ _, _)
                    rw [Sig.put_n] at hr2
                    obtain ⟨μ', q1, q2, _, _⟩ := back _ _ _ w' μ2 hok hr2
                    exact hP _ pv a w' h1 ⟨μ', { q2 with vals := RVL.cons' q1 (by simpa using q2.vals) }⟩ hp.same
                  | returned v => exact hE.elim
                  | outgrown => exact hE.elim
                | ret =>
                  rw [heq] at hE h1
                  cases en with
                  | panicked ch => exact hE.elim
                  | outgrown => exact hE.elim
                  | returned v =>
                    obtain ⟨μ2, hr2⟩ := (hE : ∃ _, _)
                    rw [Sig.put_n] at hr2
                    obtain ⟨μ', q1, q2, q3, q4⟩ := back _ _ _ w' μ2 hok hr2
                    simp only at h1 q1 q2 q3 q4
                    generalize hσ1 : afterR N.A o1.R (o1.mk1 y1) σL mm rd = σ1 at h1 q1 q2 q3
                    generalize hret : retR N.A o1.R (o1.mk1 y1) σL mm = ret at h1 q1
                    have hlen1 : σL.length ≤ σ1.length := by
                      rw [← hσ1]; unfold afterR; simp only [List.length_append, setKept_len, goneAll_len, freeze_len]; omega
                    obtain ⟨stF, LD, hKF, TD⟩ := plD.run (E := E) (T := []) hC hb hseg hnd h1 (fun t ht => by simp at ht)
                    have hE1 : Ext σ1 stF.σ := by have := TD.ext; rwa [St.put_σ] at this
                    have hl1 : σ1.length ≤ stF.σ.length := by have := TD.σlen; rwa [St.put_σ] at this
                    have hbase := Rel.ext q2 hE1 hl1
                    have kE : Kp (okN E σ1 μ' w') (okN E stF.σ μ' w') w' w' := ⟨fun b hb => okN_ext q2 hE1 hb, fun _ _ => rfl⟩
                    have kF : ∀ b, okN E σL μ w b → okN E (Gv.freeze σL rd) μ w b := fun b hb => okN_ext hp.base (Ext.frz σL rd) hb
                    have k0 : Kp (okN E σL μ w) (okN E stF.σ μ' w') w w' := ⟨fun b hb => kE.imp b (q3.imp b (kF b hb)), fun b hb => q3.same b (kF b hb)⟩
                    have hext : ∀ t u, μ t = some u → μ' t = some u := fun t u hu => by rw [q4 t (hp.base.dom t u hu)]; exact hu
                    have hG1 : ExtG T stI.σ stF.σ := by
                      refine ExtG.trans1 (σ' := σ1) (fun t ob ho => ?_) hE1
                      have htl := (List.getElem?_eq_some_iff.1 ho).1
                      by_cases ht : t ∈ T
                      · exact .inl ⟨ht, goneI t ht ob ho⟩
                      · right
                        have hnm : some t ∉ mm := fun hm => ht (hmT t hm)
                        rw [← hσ1, afterR_out (by omega) hnm, freeze_get]
                        have hLt : σL[t]? = some ob := by rw [getN t ht]; exact ho
                        rw [hLt]
                        split
                        · exact .inr rfl
                        · exact .inl rfl
                    refine .inr ⟨hn.not_mem_erase, ret, σ1, stF, LD, hKF, TD, hG1, hlen1, μ', { hbase with vals := RVL.nil_iff.2 rfl }, ⟨fun b hb => k0.imp b (hp.kp.imp b hb), fun b hb => (k0.same b (hp.kp.imp b hb)).trans (hp.kp.same b hb)⟩, fun t u hu => hext t u (hp.ext t u hu), fun k' av n hV hU => ?_, fun k' o' av tk d u hk' hV hU hd hu => ?_, hp.same.trans (Same.one (List.mem_of_getElem? hoc) a v), by rw [Act.put_size]; exact hp.size⟩
                    · rcases hV with hV | ⟨_, _, e⟩ | ⟨i, o', h3, h4⟩
                      · have hlt := tokI _ _ _ hV
                        rw [q4 n (by show n < σL.length; omega)]
                        exact hp.non k' av n hV (List.mem_of_mem_erase hU)
                      · cases e
                      · have h5 := ((TD.act i o' av (some n) (by rw [List.getElem?_map, h3]; rfl) h4).2.2 n rfl).1
                        rw [St.put_σ] at h5
                        cases hμ : μ' n with
                        | none => rfl
                        | some u => have := q2.dom n u hμ; have h6 : σ1.length ≤ n := h5; omega
                    · by_cases hkc : k' = k
                      · subst hkc
                        rw [hoc] at hk'; cases hk'
                        have hav : av = ret := by
                          rcases hV with ⟨i, o', h3, _⟩ | ⟨_, h3, _⟩ | ⟨i, o', h3, _⟩
                          · have := (plI.at h3).2; simp [maskc] at this
                          · exact h3
                          · have := (plD.at h3).2; simp at this
                        subst hav
                        have : u = v := by
                          simp only at hd
                          rw [hd] at hu
                          simp only [Act.put, Array.getElem?_setIfInBounds_self] at hu
                          split at hu
                          · cases hu; rfl
                          · cases hu
                        subst this
                        exact q1.kp kE (fun _ _ e => e)
                      · have hnU : m + k' ∉ U := fun hm => hU ((List.mem_erase_of_ne (by omega)).2 hm)
                        have hVI : ValL m iL LI k' av tk := by
                          rcases hV with hV | ⟨e, _⟩ | ⟨i, o2, h3, _⟩
                          · exact hV
                          · exact absurd e hkc
                          · exfalso
                            have := (plD.at h3).2
                            simp only [Bool.and_eq_true] at this
                            exact hnU (hm0 k' (List.getElem?_eq_some_iff.1 hk').1 this.1)
                        have hdd : dst ≠ some d := fun e => hkc (filterMap_nodup hnd k' k o' _ d hk' hoc hd e)
                        have hu' : a.tmps[d]? = some u := by
                          cases hod' : dst with
                          | none => rw [hod'] at hu; exact hu
                          | some e =>
                            rw [hod'] at hu
                            have hne : e ≠ d := fun h => hdd (by rw [hod', h])
                            simpa [Act.put, Array.getElem?_setIfInBounds_ne hne] using hu
                        exact (hp.val k' o' av tk d u hk' hVI hnU hd hu').kp k0 hext
              · cases h1
            · cases hK1
          · cases hK1
        · cases hK1
      · have hmk : mask.testBit (m + k) = false := by
          cases hmb : mask.testBit (m + k) with
          | false => rfl
          | true =>
            exfalso
            rw [← hmask] at hmb
            obtain ⟨q, h1, h2⟩ := depMask_spec b m _ k o hk (by rw [one_shift_bit]; simp; omega) hmb
            have hq := hdlt q h1
            have hqm : m ≤ q := by
              rcases Nat.lt_or_ge q m with hlt | hge
              · rw [depMask_lt b _ _ q hlt, one_shift_bit] at h2
                simp at h2; omega
              · exact hge
            rw [hmask] at h2
            have := hdeps q (by have := hm0 (q - m) (by omega) (by rw [show m + (q - m) = q by omega]; exact h2); rwa [show m + (q - m) = q by omega] at this)
            rw [h1] at this; cases this
        refine wpOp_mono (fun a' w' hh => ?_) (float hp (fun _ _ _ h => h) gL hmk (fun av tk av' tk' h1 h2 => ValL.uniq plI h1 h2) (fun k' av av' n h1 h2 => tokU h1 h2) hd0)
        exact .inl ⟨fun k' hk' hb' => (List.mem_erase_of_ne (fun e => by have : k' = k := by omega
                                                                         subst this; rw [hmk] at hb'; cases hb')).2 (hm0 k' hk' hb'), hh⟩
    · have hkc : k ≠ c := by rintro rfl; exact hcU hjU
      have notD : ∀ {k av tk}, ValL m dL LD k av tk → mask.testBit (m + k) = true ∧ k ≠ c := by
        rintro k av tk ⟨i, o, h1, _⟩
        have := (plD.at h1).2
        simp only [Bool.and_eq_true, bne_iff_ne, ne_eq] at this
        exact ⟨this.1, fun e => this.2 (by omega)⟩
      have inI : ∀ {k av tk}, ValL m iL LI k av tk → mask.testBit (m + k) = false := by
        rintro k av tk ⟨i, o, h1, _⟩
        have := (plI.at h1).2
        simpa using this
      have tokD : ∀ k av n, ValL m dL LD k av (some n) → σL.length ≤ n := fun k av n ⟨i, o, h1, h2⟩ => by
        have := ((TD.act i o av (some n) (by rw [List.getElem?_map, h1]; rfl) h2).2.2 n rfl).1
        rw [St.put_σ] at this
        have h3 : σ1.length ≤ n := this
        omega
      have uniqV : ∀ k av tk av' tk', (ValL m iL LI k av tk ∨ (k = c ∧ av = ret ∧ tk = none) ∨ ValL m dL LD k av tk) → (ValL m iL LI k av' tk' ∨ (k = c ∧ av' = ret ∧ tk' = none) ∨ ValL m dL LD k av' tk') → av' = av ∧ tk' = tk := by
        intro k av tk av' tk' h1 h2
        rcases h1 with h1 | ⟨rfl, rfl, rfl⟩ | h1 <;> rcases h2 with h2 | ⟨e, e2, e3⟩ | h2
        · exact ValL.uniq plI h1 h2
        · subst e; have := inI h1; rw [maskc] at this; cases this
        · have := inI h1; rw [(notD h2).1] at this; cases this
        · have := inI h2; rw [maskc] at this; cases this
        · exact ⟨e2, e3⟩
        · exact absurd rfl (notD h2).2
        · have := inI h2; rw [(notD h1).1] at this; cases this
        · subst e; exact absurd rfl (notD h1).2
        · exact ValL.uniq plD h1 h2
      have tokV : ∀ k k' av av' n, (ValL m iL LI k av (some n) ∨ (k = c ∧ av = ret ∧ some n = none) ∨ ValL m dL LD k av (some n)) → (ValL m iL LI k' av' (some n) ∨ (k' = c ∧ av' = ret ∧ some n = none) ∨ ValL m dL LD k' av' (some n)) → k' = k := by
        intro k k' av av' n h1 h2
        rcases h1 with h1 | ⟨_, _, e⟩ | h1
        · rcases h2 with h2 | ⟨_, _, e⟩ | h2
          · exact tokU h1 h2
          · cases e
          · have := tokI _ _ _ h1; have := tokD _ _ _ h2; omega
        · cases e
        · rcases h2 with h2 | ⟨_, _, e⟩ | h2
          · have := tokI _ _ _ h2; have := tokD _ _ _ h1; omega
          · cases e
          · obtain ⟨i, o1, q1, q2⟩ := h1
            obtain ⟨i', o2, q3, q4⟩ := h2
            have := TD.tok i i' _ _ n q2 q4
            subst this
            rw [q1] at q3
            have := (Prod.mk.inj (Option.some.inj q3)).1
            omega
      have close : (∃ μ', PartS E b m stF.σ (fun k av tk => ValL m iL LI k av tk ∨ (k = c ∧ av = ret ∧ tk = none) ∨ ValL m dL LD k av tk) σL μ0 a0 w0 (U.erase (m + k)) μ' a w) → True := fun _ => trivial
      have fin : ∀ a' w', (∃ μ', PartS E b m stF.σ (fun k av tk => ValL m iL LI k av tk ∨ (k = c ∧ av = ret ∧ tk = none) ∨ ValL m dL LD k av tk) σL μ0 a0 w0 (U.erase (m + k)) μ' a' w') →
          (m + c ∉ U.erase (m + k) ∧ ∃ (ret : AV) (σ1 : List Ob) (stF : St) (LD : List (AV × Option Nat)), K stF = some x ∧ TraceG [] C.P E [] (zipFrom m b) (dL.map (·.2)) ((⟨stI.slots, σ1⟩ : St).put oc.dst ret) stF LD ∧ ExtG T stI.σ stF.σ ∧ σL.length ≤ σ1.length ∧
            ∃ μ, PartS E b m stF.σ (fun k av tk => ValL m iL LI k av tk ∨ (k = c ∧ av = ret ∧ tk = none) ∨ ValL m dL LD k av tk) σL μ0 a0 w0 (U.erase (m + k)) μ a' w') :=
        fun a' w' hh => ⟨fun hm => hcU (List.mem_of_mem_erase hm), ret, σ1, stF, LD, hKF, TD, hG, hlen1, hh⟩
      cases hmk : mask.testBit (m + k) with
      | false =>
        refine wpOp_mono (fun a' w' hh => .inr (fin a' w' hh)) (float hp (fun _ _ _ h => .inl h) hG hmk (fun av tk av' tk' => uniqV k av tk av' tk') (fun k' av av' n => tokV k k' av av' n) (fun k' o' hk' hbit => ⟨?_, fun hU => ?_⟩))
        · cases hmb : mask.testBit (m + k') with
          | false => rfl
          | true =>
            rw [← hmask] at hmb hmk
            have := depMask_closed b m _ k (m + k') o hk hbit (hdlt _ hbit) hmb
            rw [hmk] at this; cases this
        · have := hdeps _ hU; rw [hbit] at this; cases this
      | true =>
        obtain ⟨i, hi⟩ := plD.of hk (by simp [hmk]; omega)
        have hil : i < LD.length := by rw [TD.len, List.length_map]; exact (List.getElem?_eq_some_iff.1 hi).1
        have hL : LD[i]? = some (LD[i].1, LD[i].2) := by rw [List.getElem?_eq_getElem hil]
        obtain ⟨g1, g2, _⟩ := TD.act i o _ _ (by rw [List.getElem?_map, hi]; rfl) hL
        refine wpOp_mono (fun a' w' hh => .inr (fin a' w' hh)) ?_
        unfold wpOp
        simp only [ho, guardOk g1, if_true]
        left
        have hVk : ValL m dL LD k LD[i].1 LD[i].2 := ⟨i, o, hi, hL⟩
        refine hp.float hn hk hjU (.inr (.inr hVk)) (g2 _ ((Ext.refl _).toG [])) (fun y => ?_) (fun av' tk' hv' => uniqV _ _ _ _ _ (.inr (.inr hVk)) hv') (fun k' av' n hv' e => tokV k k' LD[i].1 av' n (.inr (.inr (by rw [← e]; exact hVk))) hv') hnd
        cases y with
        | tmp t =>
          simp only [mev]
          split
          · trivial
          · rename_i hmm
            refine sv1 TD hp t (fun k' o' hk' hd hU => ?_)
            have hbit := hdeps _ hU
            apply hmm
            rw [List.any_eq_true]
            exact ⟨_, zipFrom_get b m k' o' hk', by simp [hd, dIs, hbit]⟩
        | const v => exact RV.ofVal v
        | func f => exact (show RV _ _ _ (evOp st (.func f)) (a0.eval (.func f)) from evOp_rv hF.vals (.func f)).kp hp.kp hp.ext
        | global g => exact (show RV _ _ _ (evOp st (.global g)) (a0.eval (.global g)) from evOp_rv hF.vals (.global g)).kp hp.kp hp.ext
  · intro a w listed' hl' hI
    rcases hI with ⟨hm0, _⟩ | ⟨_, ret, σ1, stF, LD, hKF, TD, hG, hlen1, μ, hp⟩
    · have := hm0 c hclt maskc; simp at this
    · refine done a w listed' stF hKF hl' ⟨μ, ?_⟩ hp.same
      have slen : stF.slots.length = st.slots.length := by rw [TD.slen, St.put_len]; exact TI.slen
      refine { hp.base with vals := RVL.of_get (by rw [List.length_take, Array.length_toList, slen, hp.size]; omega) (fun t av v ht hv => ?_) }
      have hg : stF.get t = av := by simp [St.get, List.getD_eq_getElem?_getD, ht]
      have hv' : a.tmps.getD t undef = v := by
        rw [List.getElem?_take] at hv
        split at hv
        · rw [Array.getElem?_toList] at hv; rw [Array.getD_eq_getD_getElem?, hv]; rfl
        · cases hv
      rw [← hg, ← hv']
      exact sv1 TD hp t (fun k o _ _ => by simp)
  · refine .inl ⟨fun k hk _ => by rw [List.mem_range'_1]; omega, μ0, { hF with vals := RVL.nil_iff.2 rfl }, ⟨fun _ h => h, fun _ _ => rfl⟩, fun _ _ e => e, fun k av n hV hU => ?_, fun k o av tk d v hk _ hU => ?_, Same.refl _ _, rfl⟩
    · obtain ⟨i, o, h1, h2⟩ := hV
      have hn := (TI.act i o av (some n) (by rw [List.getElem?_map, h1]; rfl) h2).2.2 n rfl
      rw [goneAll_len] at hn
      cases hμ : μ0 n with
      | none => rfl
      | some u => have := hr.dom n u hμ; omega
    · exfalso
      apply hU
      rw [List.mem_range'_1]
      have := (List.getElem?_eq_some_iff.1 hk).1
      omega

end
end Gv
