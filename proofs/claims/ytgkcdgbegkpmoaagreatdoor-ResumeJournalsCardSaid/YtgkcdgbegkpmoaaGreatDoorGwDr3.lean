/- Regions of drawn order: a block. -/
import Derived.Test.YtgkcdgbegkpmoaaGreatDoorGwDr2
namespace Gv
open Go Go.RowKit
set_option linter.unusedVariables false
set_option linter.unusedSectionVars false
set_option linter.unusedSimpArgs false

section
variable [GlobI] {E : Env} {avs : List AV} {slots : List AV} {σ σ' σ'' : List Ob} {μ μ' : Nat → Option Value} {vs : List Value} {w w' : World} {ok ok' : Nat → Prop} {α : Type} {x : α} {P : Program} {Q : Exit → Act → World → Prop}
variable {ops : Array Oper}

theorem distinct_spec : ∀ {l : List Nat}, distinct l = true → l.Nodup
  | [], _ => List.nodup_nil
  | d :: l, h => by
    simp only [distinct, Bool.and_eq_true, Bool.not_eq_true'] at h
    exact List.nodup_cons.2 ⟨by simpa using h.1, distinct_spec h.2⟩

theorem St.put_get {st : St} {d : Option Tmp} {av : AV} {t : Nat} (h : d ≠ some t) : (st.put d av).slots[t]? = st.slots[t]? := by
  cases d with
  | none => rfl
  | some i => simp only [St.put]; rw [List.getElem?_set_ne (fun e => h (by rw [e]))]

theorem St.put_self {st : St} {d : Nat} {av : AV} (h : d < st.slots.length) : (st.put (some d) av).slots[d]? = some av := by
  simp only [St.put]; rw [List.getElem?_set_self h]

theorem St.put_len (st : St) (d : Option Tmp) (av : AV) : (st.put d av).slots.length = st.slots.length := by
  cases d <;> simp [St.put]

/-- What a block does, operation by operation. -/
structure Trace (P : Program) (E : Env) (pure : Bool) (kn : List (Nat × Bool)) (bd : List (Nat × Option Nat)) (r : List Oper) (st stF : St) (L : List (AV × Option Nat)) : Prop where
  len : L.length = r.length
  slen : stF.slots.length = st.slots.length
  ext : Ext st.σ stF.σ
  σlen : st.σ.length ≤ stF.σ.length
  out : ∀ t : Nat, (∀ o ∈ r, o.dst ≠ some t) → stF.slots[t]? = st.slots[t]?
  ins : ∀ (k : Nat) o av tk d, r[k]? = some o → L[k]? = some (av, tk) → o.dst = some d → d < st.slots.length → stF.slots[d]? = some av
  act : ∀ (k : Nat) o av tk, r[k]? = some o → L[k]? = some (av, tk) → gOk kn o.guard = true ∧ DoOk P E o (mev bd o stF) av stF.σ tk ∧ ∀ n, tk = some n → st.σ.length ≤ n ∧ n < stF.σ.length
  tok : ∀ (k k' : Nat) av av' n, L[k]? = some (av, some n) → L[k']? = some (av', some n) → k = k'
  pur : pure = true → stF.σ = st.σ ∧ ∀ p ∈ L, p.2 = none

theorem mev_same {bd : List (Nat × Option Nat)} {o : Oper} {st st' : St} (h : ∀ t : Nat, (∀ p ∈ bd, p.2 = some t → (depsM o).testBit p.1 = true) → st'.slots[t]? = st.slots[t]?) : mev bd o st' = mev bd o st := by
  funext y
  cases y with
  | tmp t =>
    simp only [mev]
    split
    · rfl
    · rename_i hn
      simp only [St.get, List.getD_eq_getElem?_getD]
      rw [h t (fun p hp hpt => ?_)]
      cases hb : (depsM o).testBit p.1 with
      | true => rfl
      | false =>
        exfalso; apply hn
        rw [List.any_eq_true]
        exact ⟨p, hp, by simp [hpt, dIs, hb]⟩
  | const v => rfl
  | func f => rfl
  | global g => rfl

theorem evAB_spec {C : Cfg} (hC : ∀ g l N, C.orc g l = some N → Sat C.P g N) {pure : Bool} {kn : List (Nat × Bool)} {bd : List (Nat × Option Nat)} : ∀ (r : List Oper) (i : Nat) (st : St) (K : St → Option α) (x : α), evAB C pure kn bd r st K = some x →
    (∀ (k : Nat) o, r[k]? = some o → (i + k, o.dst) ∈ bd ∧ ∀ j, (depsM o).testBit j = true → j < i + k) → (r.filterMap fun o => o.dst).Nodup → ∃ stF L, K stF = some x ∧ Trace C.P E pure kn bd r st stF L
  | [], i, st, K, x, h, _, _ => by
    simp only [evAB] at h
    exact ⟨st, [], h, ⟨rfl, rfl, Ext.refl _, Nat.le_refl _, fun _ _ => rfl, fun k o av tk d hk => by simp at hk, fun k o av tk hk => by simp at hk, fun k k' av av' n hk => by simp at hk, fun _ => ⟨rfl, fun p hp => by simp at hp⟩⟩⟩
  | o :: r, i, st, K, x, h, hbd, hnd => by
    simp only [evAB] at h
    split at h
    · rename_i hgok
      have hbd' : ∀ (k : Nat) o', r[k]? = some o' → (i + 1 + k, o'.dst) ∈ bd ∧ ∀ j, (depsM o').testBit j = true → j < i + 1 + k := fun k o' hk => by
        have := hbd (k + 1) o' (by simpa using hk)
        rwa [show i + (k + 1) = i + 1 + k by omega] at this
      have hnd' : (r.filterMap fun o => o.dst).Nodup := by
        rw [List.filterMap_cons] at hnd
        split at hnd
        · exact hnd
        · exact (List.nodup_cons.1 hnd).2
      have hfresh : ∀ d, o.dst = some d → ∀ o' ∈ r, o'.dst ≠ some d := by
        intro d hd o' ho' he
        rw [List.filterMap_cons, hd] at hnd
        have := (List.nodup_cons.1 hnd).1
        exact this (List.mem_filterMap.2 ⟨o', ho', he⟩)
      -- an operation, and the rest behind it
      have go : ∀ (av : AV) (tk : Option Nat) (σ1 : List Ob), evAB C pure kn bd r ⟨(st.put o.dst av).slots, σ1⟩ K = some x → Ext st.σ σ1 → st.σ.length ≤ σ1.length → (∀ n, tk = some n → n = st.σ.length ∧ n < σ1.length) → (pure = true → σ1 = st.σ ∧ tk = none) →
          (∀ σ', Ext σ1 σ' → DoOk C.P E o (mev bd o st) av σ' tk) → ∃ stF L, K stF = some x ∧ Trace C.P E pure kn bd (o :: r) st stF L := by
        intro av tk σ1 he hext hlen htk hpure hdo
        obtain ⟨stF, L, hK, T⟩ := evAB_spec hC r (i + 1) _ K x he hbd' hnd'
        have hmev : mev bd o stF = mev bd o st := by
          refine mev_same (fun t ht => ?_)
          have hno : ∀ o' ∈ o :: r, o'.dst ≠ some t := by
            intro o' ho' hd
            obtain ⟨k, hk⟩ := List.getElem?_of_mem ho'
            have h1 := hbd k o' hk
            have h2 := ht _ h1.1 hd
            have h3 := (hbd 0 o rfl).2 _ h2
            simp only at h3; omega
          rw [T.out t (fun o' ho' => hno o' (List.mem_cons_of_mem _ ho'))]
          exact St.put_get (hno o (by simp))
        refine ⟨stF, (av, tk) :: L, hK, ⟨by simp [T.len], by rw [T.slen]; exact St.put_len _ _ _, hext.trans T.ext, Nat.le_trans hlen T.σlen, fun t ht => ?_, fun k o' av' tk' d hk hL hd hlt => ?_, fun k o' av' tk' hk hL => ?_, fun k k' av1 av2 n hk hk' => ?_, fun hp => ?_⟩⟩
        · rw [T.out t (fun o' ho' => ht o' (List.mem_cons_of_mem _ ho'))]
          exact St.put_get (ht o (by simp))
        · cases k with
          | zero =>
            simp at hk hL
            obtain ⟨rfl, rfl⟩ := hL
            subst hk
            rw [T.out d (fun o' ho' => hfresh d hd o' ho'), hd]
            exact St.put_self hlt
          | succ k => exact T.ins k o' av' tk' d (by simpa using hk) (by simpa using hL) hd (by rw [St.put_len]; exact hlt)
        · cases k with
          | zero =>
            simp at hk hL
            obtain ⟨rfl, rfl⟩ := hL
            subst hk
            refine ⟨hgok, by rw [hmev]; exact hdo _ T.ext, fun n hn => ?_⟩
            obtain ⟨rfl, h2⟩ := htk n hn
            exact ⟨Nat.le_refl _, Nat.lt_of_lt_of_le h2 T.σlen⟩
          | succ k =>
            obtain ⟨h1, h2, h3⟩ := T.act k o' av' tk' (by simpa using hk) (by simpa using hL)
            exact ⟨h1, h2, fun n hn => ⟨Nat.le_trans hlen (h3 n hn).1, (h3 n hn).2⟩⟩
        · have tl : ∀ (q : Nat) av' , L[q]? = some (av', some n) → tk = some n → False := by
            intro q av' hq hn
            have hql : q < r.length := by rw [← T.len]; exact (List.getElem?_eq_some_iff.1 hq).1
            have h1 := (T.act q r[q] av' (some n) (List.getElem?_eq_getElem hql) hq).2.2 n rfl
            have h2 := htk n hn
            have h3 : σ1.length ≤ n := h1.1
            omega
          cases k with
          | zero =>
            cases k' with
            | zero => rfl
            | succ k' => simp at hk; exact (tl k' av2 (by simpa using hk') hk.2).elim
          | succ k =>
            cases k' with
            | zero => simp at hk'; exact (tl k av1 (by simpa using hk) hk'.2).elim
            | succ k' => rw [T.tok k k' av1 av2 n (by simpa using hk) (by simpa using hk')]
        · obtain ⟨h1, h2⟩ := T.pur hp
          obtain ⟨h3, h4⟩ := hpure hp
          refine ⟨h1.trans h3, fun p hpm => ?_⟩
          rcases List.mem_cons.1 hpm with rfl | hpm
          · exact h4
          · exact h2 p hpm
      split at h
      · rw [opN_nat] at h
        obtain ⟨av, h1, h2⟩ := Option.bind_eq_some_iff.1 h
        refine go av none st.σ ?_ (Ext.refl _) (Nat.le_refl _) (fun n hn => by cases hn) (fun _ => ⟨rfl, rfl⟩) (fun σ' he => doN h1 he)
        have : (⟨(st.put o.dst av).slots, st.σ⟩ : St) = st.put o.dst av := by cases ho : o.dst <;> rfl
        rw [this]; exact h2
      · split at h
        · split at h
          · cases h
          · rename_i hp
            obtain ⟨toks, av, ob, hK, g⟩ := opA_sound h
            have hl : (Gv.freeze st.σ toks).length = st.σ.length := freeze_len _ _
            exact go av (some st.σ.length) _ hK ((Ext.frz _ _).app _) (by simp [hl]) (fun n hn => by cases hn; exact ⟨rfl, by simp [hl]⟩) (fun hp' => absurd hp' hp) (fun σ' he => doA g he)
        · split at h
          · rename_i c0 hop
            obtain ⟨f, g, caps, N, rd, z, y, h1, h2, h3, h4⟩ := callV_spec h
            have hcont := h4.cont
            split at hcont
            · cases hcont
            · rename_i hps
              simp only [Bool.and_eq_true, Bool.not_eq_true'] at hps
              have hcond : (if scal 6 ((putF [] N.R.vals (N.mkR y).2).headD .any) = true then st.σ else Gv.freeze st.σ rd).length = st.σ.length := by split <;> simp [freeze_len]
              refine go _ none _ hcont ?_ (by rw [hcond]; exact Nat.le_refl _) (fun n hn => by cases hn) (fun hp => ⟨?_, rfl⟩) (fun σ' he => doC hC hop h1 h2 h3 h4 he)
              · split
                · exact Ext.refl _
                · exact Ext.frz _ _
              · have : scal 6 ((putF [] N.R.vals (N.mkR y).2).headD .any) = true := by
                  cases hs : scal 6 ((putF [] N.R.vals (N.mkR y).2).headD .any) with
                  | true => rfl
                  | false => exact absurd ⟨hp, hs⟩ hps
                rw [if_pos this]
          · cases h
    · cases h

end
end Gv
