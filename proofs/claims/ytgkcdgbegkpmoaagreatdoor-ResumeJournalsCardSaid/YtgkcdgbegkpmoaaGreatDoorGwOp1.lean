/- One operation, whatever it does: the theorem. -/
import Derived.Test.YtgkcdgbegkpmoaaGreatDoorGwSig3
namespace Gv
open Go Go.RowKit
set_option linter.unusedVariables false
set_option linter.unusedSectionVars false
set_option linter.unusedSimpArgs false

section
variable [GlobI] {E : Env} {avs : List AV} {slots : List AV} {σ : List Ob} {μ μ' : Nat → Option Value} {vs : List Value} {w w' : World} {ok ok' : Nat → Prop} {α : Type} {x : α} {P : Program}

/-- What came out, by its way out. -/
def OutQ : (l : List Out) → OutsV l → ((o : Out) → o.Y → Prop) → Prop
  | [], y, _ => Empty.elim y
  | [o], y, p => p o y
  | o :: _ :: _, .inl y, p => p o y
  | _ :: o' :: r, .inr z, p => OutQ (o' :: r) z p
def OutP (l : List Out) (y : OutsV l) (p : Ex → St → Prop) : Prop := OutQ l y fun o y => p o.e (o.R.put (o.mk1 y))

theorem OutQ.mono {p q : (o : Out) → o.Y → Prop} : ∀ {l : List Out} {y : OutsV l}, OutQ l y p → (∀ o y, p o y → q o y) → OutQ l y q
  | [], y, _, _ => Empty.elim y
  | [o], y, h, hpq => hpq o y h
  | o :: _ :: _, .inl y, h, hpq => hpq o y h
  | _ :: o' :: r, .inr z, h, hpq => OutQ.mono (l := o' :: r) h hpq
theorem OutQ.and {p q : (o : Out) → o.Y → Prop} : ∀ {l : List Out} {y : OutsV l}, OutQ l y p → OutQ l y q → OutQ l y fun o y => p o y ∧ q o y
  | [], y, _, _ => Empty.elim y
  | [o], y, h, h' => ⟨h, h'⟩
  | o :: _ :: _, .inl y, h, h' => ⟨h, h'⟩
  | _ :: o' :: r, .inr z, h, h' => OutQ.and (l := o' :: r) h h'
theorem OutQ.elim {p : (o : Out) → o.Y → Prop} {c : Prop} : ∀ {l : List Out} {y : OutsV l}, OutQ l y p → (∀ o ∈ l, ∀ y, p o y → c) → c
  | [], y, _, _ => Empty.elim y
  | [o], y, h, hc => hc o (by simp) y h
  | o :: _ :: _, .inl y, h, hc => hc o (by simp) y h
  | _ :: o' :: r, .inr z, h, hc => OutQ.elim (l := o' :: r) h (fun o ho => hc o (List.mem_cons_of_mem _ ho))
theorem OutQ.monoM {p q : (o : Out) → o.Y → Prop} : ∀ {l : List Out} {y : OutsV l}, OutQ l y p → (∀ o ∈ l, ∀ y, p o y → q o y) → OutQ l y q
  | [], y, _, _ => Empty.elim y
  | [o], y, h, hpq => hpq o (by simp) y h
  | o :: _ :: _, .inl y, h, hpq => hpq o (by simp) y h
  | _ :: o' :: r, .inr z, h, hpq => OutQ.monoM (l := o' :: r) h (fun o ho => hpq o (List.mem_cons_of_mem _ ho))
theorem OutP.mono {p q : Ex → St → Prop} {l : List Out} {y : OutsV l} (h : OutP l y p) (hpq : ∀ e st, p e st → q e st) : OutP l y q := OutQ.mono h fun _ _ => hpq _ _
theorem elimO_spec {K : Ex → St → Option α} : ∀ {l : List Out} {y : OutsV l}, elimO l y K = some x → OutP l y fun e st => K e st = some x
  | [], y, _ => Empty.elim y
  | [o], y, h => h
  | o :: _ :: _, .inl y, h => h
  | _ :: o' :: r, .inr z, h => elimO_spec (l := o' :: r) h

def outsOk (l : List Out) : Prop := ∀ o ∈ l, ∀ v, o.mk1 (o.un v) = v

theorem exB_spec {a b : Ex} (h : exB a b = true) : a = b := by
  cases a <;> cases b <;> simp [exB] at h ⊢
  exact h

theorem pickO_spec {e : Ex} {sl : List AV} {σ : List Ob} : ∀ {l : List Out} {y : OutsV l}, outsOk l → pickO l e sl σ = some y → OutQ l y fun o y => e = o.e ∧ o.R.get sl σ = some (o.mk1 y)
  | [], y, _, _ => Empty.elim y
  | [o], y, ho, h => by
    simp only [pickO] at h
    split at h
    · rename_i he
      obtain ⟨v, h1, h2⟩ := Option.bind_eq_some_iff.1 h
      simp only [Option.some.injEq] at h2
      exact ⟨exB_spec he, by rw [← h2, ho o (by simp)]; exact h1⟩
    · cases h
  | o :: o' :: r, y, ho, h => by
    simp only [pickO] at h
    split at h
    · rename_i he
      simp only [Bool.and_eq_true] at he
      obtain ⟨v, h1, h2⟩ := Option.bind_eq_some_iff.1 h
      simp only [Option.some.injEq] at h2
      subst h2
      exact ⟨exB_spec he.1, by rw [ho o (by simp)]; exact h1⟩
    · obtain ⟨z, h1, h2⟩ := Option.bind_eq_some_iff.1 h
      simp only [Option.some.injEq] at h2
      subst h2
      exact pickO_spec (l := o' :: r) (fun o ho' => ho o (List.mem_cons_of_mem _ ho')) h1

/-- A call's end. -/
def Ended (E : Env) (args : List Value) (w' : World) (en : Ending) (e : Ex) (st : St) : Prop :=
  match e, en with
  | .ret, .returned v => ∃ μ, Rel E st.slots st.σ μ ((v :: args).take st.slots.length) w'
  | .pan, .panicked ch => ∃ v, ch = [{ v := v, recovered := false }] ∧ ∃ μ, Rel E st.slots st.σ μ ((v :: args).take st.slots.length) w'
  | _, _ => False

/-- A contract that a function keeps. -/
structure Sat (P : Program) (g : FuncId) (N : Ent) : Prop where
  fn : ∃ fn, P.funcs[g]? = some fn ∧ (fn.name == "runtime.NumGoroutine") = false ∧ fn.body.isNone = false
  run : ∀ (x : N.A.V) (y : OutsV N.outs), N.f x = some y → ∀ (w : World) (Rb ok0 : Nat → Prop) (μ : Nat → Option Value) (args : List Value),
    Rel ⟨w, Rb, ok0⟩ (N.A.put x).slots (N.A.put x).σ μ args w →
    Calls P g args.toArray w fun en w' => OutP N.outs y (Ended ⟨w, Rb, ok0⟩ args w' en)

theorem plain_rv (ren : List Nat) : ∀ (f : Form) (x : f.V) (vs : List Value), plainF f = true → RVL ok w μ (putF ren f x) vs → RVL ok w μ' (putF ren f x) vs := by
  have one : ∀ {a : AV} {vs : List Value}, RVL ok w μ [a] vs → ∃ v, vs = [v] ∧ RV ok w μ a v := by
    intro a vs h
    obtain ⟨v, r, rfl, h1, h2⟩ := RVL.cons_iff.1 h
    simp only [RVL] at h2; subst h2
    exact ⟨v, rfl, h1⟩
  have mk1 : ∀ {a : AV} {v : Value}, RV ok w μ' a v → RVL ok w μ' [a] [v] := fun h => RVL.cons' h (RVL.nil_iff.2 rfl)
  intro f
  induction f with
  | v s => intro x vs _ h; obtain ⟨v, rfl, hv⟩ := one h; exact mk1 (by simpa only [RV] using hv)
  | agg l ih => intro x vs hp h; obtain ⟨v, rfl, hv⟩ := one h; refine mk1 ?_; simp only [RV] at hv ⊢; obtain ⟨cs, rfl, hr⟩ := hv; exact ⟨cs, rfl, ih x _ hp hr⟩
  | tup l ih => intro x vs hp h; obtain ⟨v, rfl, hv⟩ := one h; refine mk1 ?_; simp only [RV] at hv ⊢; obtain ⟨cs, rfl, hr⟩ := hv; exact ⟨cs, rfl, ih x _ hp hr⟩
  | cp l ih => intro x vs hp h; obtain ⟨v, rfl, hv⟩ := one h; refine mk1 ?_; simp only [RV] at hv ⊢; obtain ⟨b, off, cs, rfl, hb, hc, hr⟩ := hv; exact ⟨b, off, cs, rfl, hb, hc, ih x _ hp hr⟩
  | fn g l ih => intro x vs hp h; obtain ⟨v, rfl, hv⟩ := one h; refine mk1 ?_; simp only [RV] at hv ⊢; obtain ⟨cs, rfl, hr⟩ := hv; exact ⟨cs, rfl, ih x _ hp hr⟩
  | ifc T y ih =>
    intro x vs hp h; obtain ⟨v, rfl, hv⟩ := one h; refine mk1 ?_; simp only [RV] at hv ⊢
    obtain ⟨u, rfl, hr⟩ := hv
    refine ⟨u, rfl, ?_⟩
    cases hq : putF ren y x with
    | nil => trivial
    | cons b r =>
      rw [hq] at hr
      cases r with
      | nil =>
        have := ih x [u] (by cases y <;> first | exact hp | (simp [plainF] at hp; done)) (by rw [hq]; exact RVL.cons' hr (RVL.nil_iff.2 rfl))
        rw [hq] at this
        obtain ⟨u', e, g⟩ : ∃ u', [u] = [u'] ∧ RV ok w μ' b u' := by
          obtain ⟨v, r, e, h1, h2⟩ := RVL.cons_iff.1 this
          simp only [RVL] at h2; subst h2; exact ⟨v, e, h1⟩
        cases e; exact g
      | cons c r => exfalso; cases y <;> first | (simp [plainF] at hp; done) | (simp [putF] at hq; done)
  | boxr j off => intro x vs hp; simp [plainF] at hp
  | rowr j => intro x vs hp; simp [plainF] at hp
  | any => intro x vs _ h; obtain ⟨v, rfl, hv⟩ := one h; exact mk1 trivial
  | nili => intro x vs _ h; obtain ⟨v, rfl, hv⟩ := one h; exact mk1 (by simpa only [RV] using hv)
  | obox l ih => intro x vs hp; simp [plainF] at hp
  | orow T e => intro x vs hp; simp [plainF] at hp
  | nilL => intro x vs _ h; simpa [putF, RVL] using h
  | cons f g ih1 ih2 =>
    intro x vs hp h
    simp only [plainF, Bool.and_eq_true] at hp
    obtain ⟨v1, v2, rfl, h1, h2⟩ := RVL.split (show RVL ok w μ (putF ren f x.1 ++ putF ren g x.2) vs from h)
    exact (ih1 x.1 _ hp.1 h1).append (ih2 x.2 _ hp.2 h2)

theorem scal_rv : ∀ (d : Nat) {a : AV} {v : Value}, scal d a = true → RV ok w μ a v → RV ok' w μ a v
  | 0, _, _, h, _ => by simp [scal] at h
  | d + 1, a, v, h, hv => by
    have many : ∀ {l : List AV} {vs : List Value}, l.all (scal d) = true → RVL ok w μ l vs → RVL ok' w μ l vs := by
      intro l
      induction l with
      | nil => intro vs _ h; exact h
      | cons b l ih =>
        intro vs h hv
        simp only [List.all_cons, Bool.and_eq_true] at h
        obtain ⟨v, r, rfl, h1, h2⟩ := RVL.cons_iff.1 hv
        exact RVL.cons' (scal_rv d h.1 h1) (ih h.2 h2)
    cases a with
    | dat s y => cases s <;> simp [scal] at h <;> simpa only [RV, Sh.C] using hv
    | nil => simpa only [RV] using hv
    | agg l => simp only [RV] at hv ⊢; obtain ⟨cs, rfl, hr⟩ := hv; exact ⟨cs, rfl, many (by simpa [scal] using h) hr⟩
    | tup l => simp only [RV] at hv ⊢; obtain ⟨cs, rfl, hr⟩ := hv; exact ⟨cs, rfl, many (by simpa [scal] using h) hr⟩
    | _ => simp [scal] at h

/-- Where a state's values lie: the temporaries. -/
def Holds (E : Env) (st : St) (a : Act) (w : World) : Prop := ∃ μ, Rel E st.slots st.σ μ (a.tmps.toList.take st.slots.length) w

theorem evOp_rv {st : St} {a : Act} (h : RVL ok w μ st.slots (a.tmps.toList.take st.slots.length)) (y : Operand) : RV ok w μ (evOp st y) (a.eval y) := by
  cases y with
  | tmp t =>
    simp only [evOp, St.get, Act.eval]
    rcases Nat.lt_or_ge t st.slots.length with hi | hi
    · obtain ⟨v, g1, g2⟩ := h.get t _ (getD_of_lt (d := .any) hi)
      rw [List.getElem?_take, if_pos hi] at g1
      have : a.tmps.getD t undef = v := by
        rw [Array.getD_eq_getD_getElem?, ← Array.getElem?_toList, g1]; rfl
      rw [this]; exact g2
    · rw [List.getD_eq_getElem?_getD, List.getElem?_eq_none hi]; trivial
  | const v => exact RV.ofVal v
  | func f => simp only [evOp, Act.eval, RV]; exact ⟨#[], rfl, RVL.nil_iff.2 rfl⟩
  | global g => simp [evOp, Act.eval, RV]

theorem Rel.puts {st : St} {a : Act} (h : Rel E st.slots σ μ (a.tmps.toList.take st.slots.length) w) {av : AV} {v : Value} (hv : RV (okN E σ μ w) w μ av v) (d : Option Tmp) :
    Rel E (st.put d av).slots σ μ ((a.put d v).tmps.toList.take (st.put d av).slots.length) w := by
  cases d with
  | none => exact h
  | some i =>
    have := h.set (i := i) hv
    simp only [St.put, Act.put, List.length_set, Array.toList_setIfInBounds]
    rw [List.take_set]
    exact this

end
end Gv
