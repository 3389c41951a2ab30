/- Code: the theorem. -/
import Derived.Test.YtgkcdgbegkpmoaaGreatDoorGwDr6
namespace Gv
open Go Go.RowKit
set_option linter.unusedVariables false
set_option linter.unusedSectionVars false
set_option linter.unusedSimpArgs false

section
variable [GlobI] {E : Env} {avs : List AV} {slots : List AV} {σ σ' σ'' : List Ob} {μ μ' : Nat → Option Value} {vs : List Value} {w w' : World} {ok ok' : Nat → Prop} {α : Type} {x : α} {P : Program} {Q : Exit → Act → World → Prop}

/-- On from a way out. -/
def Goes (E : Env) (D : Act → Prop) (Q : Exit → Act → World → Prop) : Ex → St → Prop
  | .normal, st => ∀ a' w', Holds E st a' w' → D a' → Q .normal a' w'
  | .ret, st => ∀ a' w', Holds E st a' w' → D a' → Q .ret a' w'
  | .exit id, st => ∀ a' w', Holds E st a' w' → D a' → Q (.exit id) a' w'
  | .pan, st => ∀ pv a' w', HoldsP E st pv a' w' → D a' → Q (.panic [{ v := pv, recovered := false }]) a' w'

theorem Goes.mono {D D' : Act → Prop} {Q Q' : Exit → Act → World → Prop} {e : Ex} {st : St} (h : Goes E D Q e st) (hD : ∀ a, D' a → D a) (hQ : ∀ e a w, Q e a w → Q' e a w) : Goes E D' Q' e st := by
  cases e <;> simp only [Goes] at h ⊢
  · exact fun a w k1 k2 => hQ _ _ _ (h a w k1 (hD _ k2))
  · exact fun a w k1 k2 => hQ _ _ _ (h a w k1 (hD _ k2))
  · exact fun a w k1 k2 => hQ _ _ _ (h a w k1 (hD _ k2))
  · exact fun pv a w k1 k2 => hQ _ _ _ (h pv a w k1 (hD _ k2))
theorem Goes.to {D D' : Act → Prop} {Q : Exit → Act → World → Prop} {e : Ex} {st : St} (h : Goes E D Q e st) (hD : ∀ a, D' a → D a) : Goes E D' Q e st := h.mono hD (fun _ _ _ q => q)

/-- The temporaries before a place are left alone. -/
def dstOk (n : Nat) : Code → Bool
  | .region _ ops _ => ops.toList.all fun o => match o.dst with
    | some d => decide (n ≤ d)
    | none => true
  | .seq a b => dstOk n a && dstOk n b
  | .cond _ a b => dstOk n a && dstOk n b
  | .block _ a => dstOk n a
  | .loop a => dstOk n a
  | _ => true

structure SameC (n : Nat) (a a' : Act) : Prop where
  de : a'.defers = a.defers
  tm : ∀ i, i < n → a'.tmps[i]? = a.tmps[i]?

theorem SameC.refl (n : Nat) (a : Act) : SameC n a a := ⟨rfl, fun _ _ => rfl⟩
theorem SameC.trans {n : Nat} {a b c : Act} (h : SameC n a b) (h' : SameC n b c) : SameC n a c := ⟨h'.de.trans h.de, fun i hi => (h'.tm i hi).trans (h.tm i hi)⟩

theorem Same.toC {n : Nat} {r : List Oper} {a a' : Act} (h : Same r a a') (hd : (r.all fun o => match o.dst with | some d => decide (n ≤ d) | none => true) = true) : SameC n a a' := by
  refine ⟨h.1, fun i hi => h.2 i (fun o ho e => ?_)⟩
  have := List.all_eq_true.1 hd o ho
  rw [e] at this
  simp only [decide_eq_true_eq] at this
  omega

theorem setAll_len : ∀ (idx : List Nat) (xs l : List AV), (setAll idx xs l).length = l.length
  | [], _, _ => by simp [setAll]
  | _ :: _, [], _ => by simp [setAll]
  | i :: idx, x :: xs, l => by simp only [setAll]; rw [setAll_len]; simp

theorem Sig.put_len (s : Sig) (x : s.V) : (s.put x).slots.length = s.n := by
  simp only [Sig.put]; rw [setAll_len]; simp

theorem Holds.sig {st : St} {a : Act} (h : Holds E st a w) {s : Sig} {x : s.V} (hg : s.get st.slots st.σ = some x) : Holds E (s.put x) a w := by
  obtain ⟨μ, hr⟩ := h
  obtain ⟨⟨m, rd, x'⟩, h1, h2⟩ := Option.bind_eq_some_iff.1 hg
  simp only [Option.some.injEq] at h2; subst h2
  obtain ⟨us, k, hF, hn⟩ := hr.taken h1
  obtain ⟨e1, _, _⟩ := k.rel hF
  refine ⟨fun j => us[j]?, ?_⟩
  rw [Sig.put_len]
  rw [List.take_take, Nat.min_eq_left hn] at e1
  exact e1

theorem HoldsP.sig {st : St} {a : Act} {pv : Value} (h : HoldsP E st pv a w) {s : Sig} {x : s.V} (hg : s.get st.slots st.σ = some x) (hn0 : 0 < s.n) : HoldsP E (s.put x) pv a w := by
  obtain ⟨μ, hr⟩ := h
  obtain ⟨⟨m, rd, x'⟩, h1, h2⟩ := Option.bind_eq_some_iff.1 hg
  simp only [Option.some.injEq] at h2; subst h2
  obtain ⟨us, k, hF, hn⟩ := hr.taken h1
  obtain ⟨e1, _, _⟩ := k.rel hF
  refine ⟨fun j => us[j]?, ?_⟩
  rw [Sig.put_len]
  obtain ⟨q, hq⟩ : ∃ q, s.n = q + 1 := ⟨s.n - 1, by omega⟩
  rw [hq] at e1 ⊢
  rw [List.take_succ_cons, List.take_take, Nat.min_eq_left (by omega)] at e1
  exact e1

/-- What a piece of code keeps. -/
def Piece (P : Program) (n : Nat) (c : Code) (pc : Pc) : Prop :=
  ∀ (x : pc.A.V) (y : OutsV pc.outs), pc.f x = some y → ∀ (E : Env) (a : Act) (w : World) (Q : Exit → Act → World → Prop), Holds E (pc.A.put x) a w →
      OutP pc.outs y (Goes E (SameC n a) Q) → c.wp P Q a w

/-- The code at a place of a body. -/
inductive At (body : Code) : Nat → Code → Prop
  | root : At body 1 body
  | seqL {p a b} (h : At body p (.seq a b)) : At body (2 * p) a
  | seqR {p a b} (h : At body p (.seq a b)) : At body (2 * p + 1) b
  | condL {p c a b} (h : At body p (.cond c a b)) : At body (2 * p) a
  | condR {p c a b} (h : At body p (.cond c a b)) : At body (2 * p + 1) b
  | block {p id a} (h : At body p (.block id a)) : At body (2 * p) a
  | loop {p a} (h : At body p (.loop a)) : At body (2 * p) a

theorem At.pos {body c : Code} {p : Nat} (h : At body p c) : 1 ≤ p := by
  induction h with
  | root => exact Nat.le_refl _
  | _ => omega

theorem codeAt_mono {body : Code} : ∀ (k : Nat) (p : Nat) (c : Code), codeAt k body p = some c → codeAt (k + 1) body p = some c
  | 0, p, c, h => by simp [codeAt] at h
  | k + 1, p, c, h => by
    rw [codeAt] at h ⊢
    split at h
    · rename_i hp; rw [if_pos hp]; exact h
    · rename_i hp
      rw [if_neg hp]
      obtain ⟨d, h1, h2⟩ := Option.bind_eq_some_iff.1 h
      exact Option.bind_eq_some_iff.2 ⟨d, codeAt_mono k _ _ h1, h2⟩

theorem codeAt_le {body : Code} {k k' p : Nat} {c : Code} (h : codeAt k body p = some c) (hk : k ≤ k') : codeAt k' body p = some c := by
  obtain ⟨d, rfl⟩ : ∃ d, k' = k + d := ⟨k' - k, by omega⟩
  clear hk
  induction d with
  | zero => exact h
  | succ d ih => exact codeAt_mono _ _ _ ih

theorem At.code {body c : Code} {p : Nat} (h : At body p c) : ∃ k, codeAt k body p = some c := by
  have stepL : ∀ {p : Nat} {d c : Code}, 1 ≤ p → (∃ k, codeAt k body p = some d) → (match d with | .seq a b => some (if (2 * p) % 2 == 0 then a else b) | .cond _ a b => some (if (2 * p) % 2 == 0 then a else b) | .block _ a => some a | .loop a => some a | _ => none) = some c → ∃ k, codeAt k body (2 * p) = some c := by
    rintro p d c hp ⟨k, hk⟩ hd
    refine ⟨k + 1, ?_⟩
    rw [codeAt, if_neg (by simp; omega), show 2 * p / 2 = p by omega, hk]
    exact hd
  have stepR : ∀ {p : Nat} {d c : Code}, 1 ≤ p → (∃ k, codeAt k body p = some d) → (match d with | .seq a b => some (if (2 * p + 1) % 2 == 0 then a else b) | .cond _ a b => some (if (2 * p + 1) % 2 == 0 then a else b) | .block _ a => some a | .loop a => some a | _ => none) = some c → ∃ k, codeAt k body (2 * p + 1) = some c := by
    rintro p d c hp ⟨k, hk⟩ hd
    refine ⟨k + 1, ?_⟩
    rw [codeAt, if_neg (by simp; omega), show (2 * p + 1) / 2 = p by omega, hk]
    exact hd
  induction h with
  | root => exact ⟨1, by simp [codeAt]⟩
  | seqL h ih => exact stepL h.pos ih (by simp)
  | seqR h ih => exact stepR h.pos ih (by simp)
  | condL h ih => exact stepL h.pos ih (by simp)
  | condR h ih => exact stepR h.pos ih (by simp)
  | block h ih => exact stepL h.pos ih rfl
  | loop h ih => exact stepL h.pos ih rfl

theorem At.uniq {body c c' : Code} {p k : Nat} (h : At body p c) (hk : codeAt k body p = some c') : c = c' := by
  obtain ⟨k', hk'⟩ := h.code
  have h1 := codeAt_le hk (Nat.le_max_left k k')
  have h2 := codeAt_le hk' (Nat.le_max_right k k')
  rw [h1] at h2; cases h2; rfl

theorem HoldsP.len {st : St} {a : Act} {pv : Value} (h : HoldsP E st pv a w) : True := trivial

theorem evC_sound {C : Cfg} (hC : ∀ g l N, C.orc g l = some N → Sat C.P g N) (hm : C.P.follows .mixedOrders = true) {n : Nat} {body : Code} :
    ∀ (c : Code) (p : Nat) (st : St) (K : Ex → St → Option α) (x : α), evC C c p st K = some x → At body p c → dstOk n c = true → (∀ q c' pc, p ≤ q → At body q c' → C.pcs q = some pc → Piece C.P n c' pc) → ∀ (E : Env) (a : Act) (w : World) (Q : Exit → Act → World → Prop), Holds E st a w →
      (∀ e st', K e st' = some x → Goes E (SameC n a) Q e st') → c.wp C.P Q a w := by
  intro c
  -- a piece that has a contract of its own
  have piece : ∀ {c : Code} {p : Nat} {pc : Pc} {st : St} {K : Ex → St → Option α} {x : α}, C.pcs p = some pc → At body p c → (∀ q c' pc, p ≤ q → At body q c' → C.pcs q = some pc → Piece C.P n c' pc) →
      ((pc.A.get st.slots st.σ).bind fun x => (pc.f x).bind fun y => elimO pc.outs y K) = some x →
      ∀ (E : Env) (a : Act) (w : World) (Q : Exit → Act → World → Prop), Holds E st a w → (∀ e st', K e st' = some x → Goes E (SameC n a) Q e st') → c.wp C.P Q a w := by
    intro c p pc st K x hpc hat hp h E a w Q hH hK
    have hs := hp p c pc (Nat.le_refl _) hat hpc
    obtain ⟨z, h1, h⟩ := Option.bind_eq_some_iff.1 h
    obtain ⟨y, h2, h⟩ := Option.bind_eq_some_iff.1 h
    exact hs z y h2 E a w Q (hH.sig h1) ((elimO_spec h).mono fun e st k => hK e st k)
  induction c with
  | skip =>
    intro p st K x h hat hd hp E a w Q hH hK
    unfold evC at h
    split at h
    · rename_i hpc; exact piece hpc hat hp h E a w Q hH hK
    · exact wp_skip (hK .normal st h a w hH (SameC.refl _ _))
  | region id ops draw =>
    intro p st K x h hat hd hp E a w Q hH hK
    unfold evC at h
    split at h
    · rename_i hpc; exact piece hpc hat hp h E a w Q hH hK
    · cases draw with
      | false => exact region_sound hC h hH (fun a' w' st' k1 k2 k3 => hK .normal st' k1 a' w' k2 (k3.toC hd)) (fun a' w' st' pv k1 k2 k3 => hK .pan st' k1 pv a' w' k2 (k3.toC hd))
      | true => exact draw_sound hC hm h hH (fun a' w' st' k1 k2 k3 => hK .normal st' k1 a' w' k2 (k3.toC hd)) (fun a' w' st' pv k1 k2 k3 => hK .pan st' k1 pv a' w' k2 (k3.toC hd))
  | seq c1 c2 ih1 ih2 =>
    intro p st K x h hat hd hp E a w Q hH hK
    simp only [dstOk, Bool.and_eq_true] at hd
    unfold evC at h
    split at h
    · rename_i hpc; exact piece hpc hat hp h E a w Q hH hK
    · refine wp_seq (ih1 _ st _ x h (.seqL hat) hd.1 (fun q c' pc hq => hp q c' pc (by omega)) E a w _ hH (fun e st' k1 => ?_))
      cases e with
      | normal => exact fun a' w' k2 k3 => ih2 _ st' K x k1 (.seqR hat) hd.2 (fun q c' pc hq => hp q c' pc (by omega)) E a' w' Q k2 (fun e st'' q1 => (hK e st'' q1).to fun a hh => k3.trans hh)
      | ret => exact hK .ret st' k1
      | exit id => exact hK (.exit id) st' k1
      | pan => exact hK .pan st' k1
  | cond o c1 c2 ih1 ih2 =>
    intro p st K x h hat hd hp E a w Q hH hK
    simp only [dstOk, Bool.and_eq_true] at hd
    unfold evC at h
    split at h
    · rename_i hpc; exact piece hpc hat hp h E a w Q hH hK
    · obtain ⟨b, hb, h⟩ := Option.bind_eq_some_iff.1 h
      have hv : a.eval o = .bool b := by
        obtain ⟨μ, hr⟩ := hH
        exact asB_rv hb (evOp_rv hr.vals o)
      cases b with
      | true => exact wp_cond hv (ih1 _ st K x (by simpa using h) (.condL hat) hd.1 (fun q c' pc hq => hp q c' pc (by omega)) E a w Q hH hK)
      | false => exact wp_cond hv (ih2 _ st K x (by simpa using h) (.condR hat) hd.2 (fun q c' pc hq => hp q c' pc (by omega)) E a w Q hH hK)
  | block id c1 ih =>
    intro p st K x h hat hd hp E a w Q hH hK
    simp only [dstOk] at hd
    unfold evC at h
    split at h
    · rename_i hpc; exact piece hpc hat hp h E a w Q hH hK
    · refine wp_block (ih _ st _ x h (.block hat) hd (fun q c' pc hq => hp q c' pc (by omega)) E a w _ hH (fun e st' k1 => ?_))
      cases e with
      | normal => exact hK .normal st' k1
      | ret => exact hK .ret st' k1
      | pan => exact hK .pan st' k1
      | exit id' =>
        intro a' w' k2 k3
        simp only [Exit.inBlock]
        by_cases he : id' = id
        · subst he
          simp only [beq_self_eq_true, if_true] at k1 ⊢
          exact hK .normal st' k1 a' w' k2 k3
        · rw [if_neg he]
          have hne : (id' == id) = false := by simpa using he
          simp only [hne, Bool.false_eq_true, if_false] at k1
          exact hK (.exit id') st' k1 a' w' k2 k3
  | exit id =>
    intro p st K x h hat hd hp E a w Q hH hK
    unfold evC at h
    split at h
    · rename_i hpc; exact piece hpc hat hp h E a w Q hH hK
    · exact wp_exit (hK (.exit id) st h a w hH (SameC.refl _ _))
  | ret =>
    intro p st K x h hat hd hp E a w Q hH hK
    unfold evC at h
    split at h
    · rename_i hpc; exact piece hpc hat hp h E a w Q hH hK
    · exact wp_ret (hK .ret st h a w hH (SameC.refl _ _))
  | _ =>
    intro p st K x h hat hd hp E a w Q hH hK
    unfold evC at h
    split at h
    · rename_i hpc; exact piece hpc hat hp h E a w Q hH hK
    · cases h

end
end Gv
