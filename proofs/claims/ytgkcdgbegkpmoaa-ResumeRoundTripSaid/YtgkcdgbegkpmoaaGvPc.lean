/- Pieces of code, functions: the theorems. -/
import Derived.Test.YtgkcdgbegkpmoaaGvWp
namespace Gv
open Go Go.RowKit
set_option linter.unusedVariables false
set_option linter.unusedSimpArgs false

section
variable {E : Env} {avs : List AV} {slots : List AV} {σ σ' σ'' : List Ob} {μ μ' : Nat → Option Value} {vs : List Value} {w w' : World} {ok ok' : Nat → Prop} {α : Type} {x : α} {P : Program} {Q : Exit → Act → World → Prop} {a : Act}

/-- A loop, in its round. -/
def LoopIn (P : Program) (c : Code) (Q : Exit → Act → World → Prop) (a : Act) (w : World) : Prop :=
  ∀ (b : Frame) (k : List Item) (cs : List Frame), ∃ e a' w', Q e a' w' ∧ Arrives P (lone (b.at a (.code c :: .inLoop c :: k)) cs w) b k cs e a' w'

theorem loopIn_of {c : Code} (h : c.wp P (Exit.then (LoopIn P c Q) Q) a w) : LoopIn P c Q a w := by
  intro b k cs
  obtain ⟨e, a₁, w₁, hq, harr⟩ := h b (.inLoop c :: k) cs
  cases e with
  | normal =>
    obtain ⟨e₂, a₂, w₂, hq₂, harr₂⟩ := hq b k cs
    exact ⟨e₂, a₂, w₂, hq₂, .of_steps (Steps.trans harr (.one step_inLoop)) harr₂⟩
  | exit id => exact ⟨_, a₁, w₁, hq, .pass (x := .inLoop c) rfl (fun _ _ => .inl (by simp)) harr⟩
  | goto l => exact ⟨_, a₁, w₁, hq, .pass (x := .inLoop c) rfl (fun _ _ => .inl (by simp)) harr⟩
  | ret => exact ⟨_, a₁, w₁, hq, .pass (x := .inLoop c) rfl (fun _ _ => .inl (by simp)) harr⟩
  | panic ch => exact ⟨_, a₁, w₁, hq, .pass (x := .inLoop c) rfl (fun _ _ => .inl (by simp)) harr⟩
  | outgrown => exact ⟨_, a₁, w₁, hq, .pass (x := .inLoop c) rfl (fun _ _ => .inl (by simp)) harr⟩

theorem loop_of {c : Code} (h : LoopIn P c Q a w) : (Code.loop c).wp P Q a w :=
  fun b k cs => let ⟨e, a', w', hq, harr⟩ := h b k cs; ⟨e, a', w', hq, .of_steps (.one step_loop) harr⟩

theorem exB_spec {a b : Ex} (h : exB a b = true) : a = b := by
  cases a <;> cases b <;> simp [exB] at h ⊢
  exact h

theorem At.dst {body c : Code} {p n : Nat} (h : At body p c) (hd : dstOk n body = true) : dstOk n c = true := by
  induction h with
  | root => exact hd
  | seqL _ ih => simp only [dstOk, Bool.and_eq_true] at ih; exact ih.1
  | seqR _ ih => simp only [dstOk, Bool.and_eq_true] at ih; exact ih.2
  | condL _ ih => simp only [dstOk, Bool.and_eq_true] at ih; exact ih.1
  | condR _ ih => simp only [dstOk, Bool.and_eq_true] at ih; exact ih.2
  | block _ ih => simpa only [dstOk] using ih
  | loop _ ih => simpa only [dstOk] using ih

/-- The soundness of a piece, where those within are sound. -/
def Loc (C : Cfg) (n : Nat) (body : Code) (p : Nat) (pc : Pc) : Prop :=
  ∀ c, At body p c → (∀ q c' pc', p < q → At body q c' → C.pcs q = some pc' → Piece C.P n c' pc') → Piece C.P n c pc

theorem loc_loop1 {C : Cfg} (hC : ∀ g N, C.orc g = some N → Sat C.P g N) (hm : C.P.follows .mixedOrders = true) {n : Nat} {body : Code} (hd : dstOk n body = true) {p : Nat} {A : Sig} {e : Ex} {R : Sig} {Y : Type} {un : R.V → Y} {mk : Y → R.V} (f : Nat → A.V → Option Y)
    (h0 : ∀ x, f 0 x = none) (hev : ∀ q x, ((codeAt 60 body p).bind fun c => (loopOf c).bind fun c1 => evL1 C c1 p A e R Y un (f q) x) = f (q + 1) x) (hmk : ∀ v, mk (un v) = v) (k : Nat) :
    Loc C n body p (.one A e R Y (f k) mk) := by
  intro c hat hin
  have key : ∀ (q : Nat) (x : A.V) (y : Y), f q x = some y → ∃ c1, c = .loop c1 ∧ ∀ (E : Env) (a : Act) (w : World) (Q : Exit → Act → World → Prop), Holds E (A.put x) a w →
      (∀ a' w', Holds E (R.put (mk y)) a' w' → SameC n a a' → Q e.out a' w') → LoopIn C.P c1 Q a w := by
    intro q
    induction q with
    | zero => intro x y h; rw [h0] at h; cases h
    | succ q ih =>
      intro x y h
      rw [← hev] at h
      obtain ⟨c', hc', h⟩ := Option.bind_eq_some_iff.1 h
      have := hat.uniq hc'
      subst this
      obtain ⟨c1, hc1, h⟩ := Option.bind_eq_some_iff.1 h
      have hcl : c = .loop c1 := by
        cases c <;> simp [loopOf] at hc1
        rw [hc1]
      subst hcl
      refine ⟨c1, rfl, fun E a w Q hH hK => loopIn_of ?_⟩
      have hd1 := hat.dst hd
      simp only [dstOk] at hd1
      refine evC_sound hC hm c1 (2 * p) (A.put x) _ y h (.loop hat) hd1 (fun q' c'' pc' hq hat' hpc => hin q' c'' pc' (by have := hat.pos; omega) hat' hpc) E a w _ hH (fun e1 st' a' w' k1 k2 k3 => ?_)
      have out : ∀ e1, (if exB e1 e then (R.get st'.slots st'.σ).bind fun y => some (un y) else none) = some y → e1 ≠ .normal → Exit.then (LoopIn C.P c1 Q) Q e1.out a' w' := by
        intro e1 hh hne
        split at hh
        · rename_i hx
          have := exB_spec hx
          subst this
          obtain ⟨v, g1, g2⟩ := Option.bind_eq_some_iff.1 hh
          simp only [Option.some.injEq] at g2
          have hq := hK a' w' (by rw [← g2, hmk]; exact k2.sig g1) k3
          cases e1 with
          | normal => exact absurd rfl hne
          | ret => exact hq
          | exit id => exact hq
        · cases hh
      cases e1 with
      | normal =>
        obtain ⟨x', g1, g2⟩ := Option.bind_eq_some_iff.1 k1
        obtain ⟨c2, hc2, hL⟩ := ih x' y g2
        cases hc2
        exact hL E a' w' Q (k2.sig g1) (fun a'' w'' q1 q2 => hK a'' w'' q1 (k3.trans q2))
      | ret => exact out .ret k1 (by simp)
      | exit id => exact out (.exit id) k1 (by simp)
  intro x y h E a w Q hH hK
  obtain ⟨c1, rfl, hL⟩ := key k x y h
  exact loop_of (hL E a w Q hH hK)

theorem loc_loop2 {C : Cfg} (hC : ∀ g N, C.orc g = some N → Sat C.P g N) (hm : C.P.follows .mixedOrders = true) {n : Nat} {body : Code} (hd : dstOk n body = true) {p : Nat} {A : Sig} {e : Ex} {R : Sig} {Y : Type} {un : R.V → Y} {mk : Y → R.V}
    {e' : Ex} {R' : Sig} {Y' : Type} {un' : R'.V → Y'} {mk' : Y' → R'.V} (f : Nat → A.V → Option (Y ⊕ Y'))
    (h0 : ∀ x, f 0 x = none) (hev : ∀ q x, ((codeAt 60 body p).bind fun c => (loopOf c).bind fun c1 => evL2 C c1 p A e R Y un e' R' Y' un' (f q) x) = f (q + 1) x) (hmk : ∀ v, mk (un v) = v) (hmk' : ∀ v, mk' (un' v) = v) (k : Nat) :
    Loc C n body p (.two A e R Y mk e' R' Y' mk' (f k)) := by
  intro c hat hin
  have key : ∀ (q : Nat) (x : A.V) (y : Y ⊕ Y'), f q x = some y → ∃ c1, c = .loop c1 ∧ ∀ (E : Env) (a : Act) (w : World) (Q : Exit → Act → World → Prop), Holds E (A.put x) a w →
      (∀ y0, y = .inl y0 → ∀ a' w', Holds E (R.put (mk y0)) a' w' → SameC n a a' → Q e.out a' w') → (∀ y0, y = .inr y0 → ∀ a' w', Holds E (R'.put (mk' y0)) a' w' → SameC n a a' → Q e'.out a' w') → LoopIn C.P c1 Q a w := by
    intro q
    induction q with
    | zero => intro x y h; rw [h0] at h; cases h
    | succ q ih =>
      intro x y h
      rw [← hev] at h
      obtain ⟨c', hc', h⟩ := Option.bind_eq_some_iff.1 h
      have := hat.uniq hc'
      subst this
      obtain ⟨c1, hc1, h⟩ := Option.bind_eq_some_iff.1 h
      have hcl : c = .loop c1 := by
        cases c <;> simp [loopOf] at hc1
        rw [hc1]
      subst hcl
      refine ⟨c1, rfl, fun E a w Q hH hK hK' => loopIn_of ?_⟩
      have hd1 := hat.dst hd
      simp only [dstOk] at hd1
      refine evC_sound hC hm c1 (2 * p) (A.put x) _ y h (.loop hat) hd1 (fun q' c'' pc' hq hat' hpc => hin q' c'' pc' (by have := hat.pos; omega) hat' hpc) E a w _ hH (fun e1 st' a' w' k1 k2 k3 => ?_)
      have out : ∀ e1, (if exB e1 e then (R.get st'.slots st'.σ).bind fun y => some (.inl (un y)) else if exB e1 e' then (R'.get st'.slots st'.σ).bind fun y => some (.inr (un' y)) else none) = some y → e1 ≠ .normal → Exit.then (LoopIn C.P c1 Q) Q e1.out a' w' := by
        intro e1 hh hne
        have fin : Q e1.out a' w' → Exit.then (LoopIn C.P c1 Q) Q e1.out a' w' := by
          intro hq
          cases e1 with
          | normal => exact absurd rfl hne
          | ret => exact hq
          | exit id => exact hq
        split at hh
        · rename_i hx
          have := exB_spec hx
          subst this
          obtain ⟨v, g1, g2⟩ := Option.bind_eq_some_iff.1 hh
          simp only [Option.some.injEq] at g2
          exact fin (hK (un v) g2.symm a' w' (by rw [hmk]; exact k2.sig g1) k3)
        · split at hh
          · rename_i hx
            have := exB_spec hx
            subst this
            obtain ⟨v, g1, g2⟩ := Option.bind_eq_some_iff.1 hh
            simp only [Option.some.injEq] at g2
            exact fin (hK' (un' v) g2.symm a' w' (by rw [hmk']; exact k2.sig g1) k3)
          · cases hh
      cases e1 with
      | normal =>
        obtain ⟨x', g1, g2⟩ := Option.bind_eq_some_iff.1 k1
        obtain ⟨c2, hc2, hL⟩ := ih x' y g2
        cases hc2
        exact hL E a' w' Q (k2.sig g1) (fun y0 hy a'' w'' q1 q2 => hK y0 hy a'' w'' q1 (k3.trans q2)) (fun y0 hy a'' w'' q1 q2 => hK' y0 hy a'' w'' q1 (k3.trans q2))
      | ret => exact out .ret k1 (by simp)
      | exit id => exact out (.exit id) k1 (by simp)
  intro x y h E a w Q hH hK hK'
  obtain ⟨c1, rfl, hL⟩ := key k x y h
  exact loop_of (hL E a w Q hH hK hK')

theorem loc_one {C : Cfg} (hC : ∀ g N, C.orc g = some N → Sat C.P g N) (hm : C.P.follows .mixedOrders = true) {n : Nat} {body : Code} (hd : dstOk n body = true) {p : Nat} {A : Sig} {e : Ex} {R : Sig} {Y : Type} {un : R.V → Y} {mk : Y → R.V} (f : A.V → Option Y)
    (hev : ∀ x, ((codeAt 60 body p).bind fun c => evP1 C c p A e R Y un x) = f x) (hmk : ∀ v, mk (un v) = v) : Loc C n body p (.one A e R Y f mk) := by
  intro c hat hin x y h E a w Q hH hK
  rw [← hev] at h
  obtain ⟨c', hc', h⟩ := Option.bind_eq_some_iff.1 h
  have := hat.uniq hc'
  subst this
  refine evC_sound (C := { C with pcs := fun q => if q == p then none else C.pcs q }) hC hm c p (A.put x) _ y h hat (hat.dst hd) (fun q' c'' pc' hq hat' hpc => ?_) E a w _ hH (fun e1 st' a' w' k1 k2 k3 => ?_)
  · by_cases hqp : q' = p
    · subst hqp; simp at hpc
    · simp only [beq_iff_eq, hqp, if_false] at hpc
      exact hin q' c'' pc' (by omega) hat' hpc
  · split at k1
    · rename_i hx
      have := exB_spec hx
      subst this
      obtain ⟨v, g1, g2⟩ := Option.bind_eq_some_iff.1 k1
      simp only [Option.some.injEq] at g2
      exact hK a' w' (by rw [← g2, hmk]; exact k2.sig g1) k3
    · cases k1

theorem loc_two {C : Cfg} (hC : ∀ g N, C.orc g = some N → Sat C.P g N) (hm : C.P.follows .mixedOrders = true) {n : Nat} {body : Code} (hd : dstOk n body = true) {p : Nat} {A : Sig} {e : Ex} {R : Sig} {Y : Type} {un : R.V → Y} {mk : Y → R.V}
    {e' : Ex} {R' : Sig} {Y' : Type} {un' : R'.V → Y'} {mk' : Y' → R'.V} (f : A.V → Option (Y ⊕ Y'))
    (hev : ∀ x, ((codeAt 60 body p).bind fun c => evP2 C c p A e R Y un e' R' Y' un' x) = f x) (hmk : ∀ v, mk (un v) = v) (hmk' : ∀ v, mk' (un' v) = v) : Loc C n body p (.two A e R Y mk e' R' Y' mk' f) := by
  intro c hat hin x y h E a w Q hH hK hK'
  rw [← hev] at h
  obtain ⟨c', hc', h⟩ := Option.bind_eq_some_iff.1 h
  have := hat.uniq hc'
  subst this
  refine evC_sound (C := { C with pcs := fun q => if q == p then none else C.pcs q }) hC hm c p (A.put x) _ y h hat (hat.dst hd) (fun q' c'' pc' hq hat' hpc => ?_) E a w _ hH (fun e1 st' a' w' k1 k2 k3 => ?_)
  · by_cases hqp : q' = p
    · subst hqp; simp at hpc
    · simp only [beq_iff_eq, hqp, if_false] at hpc
      exact hin q' c'' pc' (by omega) hat' hpc
  · split at k1
    · rename_i hx
      have := exB_spec hx
      subst this
      obtain ⟨v, g1, g2⟩ := Option.bind_eq_some_iff.1 k1
      simp only [Option.some.injEq] at g2
      exact hK (un v) g2.symm a' w' (by rw [hmk]; exact k2.sig g1) k3
    · split at k1
      · rename_i hx
        have := exB_spec hx
        subst this
        obtain ⟨v, g1, g2⟩ := Option.bind_eq_some_iff.1 k1
        simp only [Option.some.injEq] at g2
        exact hK' (un' v) g2.symm a' w' (by rw [hmk']; exact k2.sig g1) k3
      · cases k1

/-- All the pieces of a body. -/
theorem all_pieces {C : Cfg} {n : Nat} {body : Code} {t : List (Nat × Pc)} (ht : C.pcs = look t) (h : ∀ z ∈ t, Loc C n body z.1 z.2) : ∀ q c pc, At body q c → C.pcs q = some pc → Piece C.P n c pc := by
  have spec : ∀ (t : List (Nat × Pc)) (q : Nat) (pc : Pc), look t q = some pc → (q, pc) ∈ t := by
    intro t
    induction t with
    | nil => intro q pc h; simp [look] at h
    | cons z t ih =>
      obtain ⟨m, a⟩ := z
      intro q pc h
      simp only [look] at h
      split at h
      · rename_i hm
        simp only [beq_iff_eq] at hm
        subst hm; cases h; simp
      · exact List.mem_cons_of_mem _ (ih q pc h)
  have bound : ∃ B, ∀ z ∈ t, z.1 < B := by
    clear ht h spec
    induction t with
    | nil => exact ⟨0, by simp⟩
    | cons z t ih =>
      obtain ⟨B, hB⟩ := ih
      refine ⟨max B (z.1 + 1), fun y hy => ?_⟩
      rcases List.mem_cons.1 hy with rfl | hy
      · omega
      · have := hB y hy; omega
  obtain ⟨B, hB⟩ := bound
  have main : ∀ (d q : Nat), B - q = d → ∀ c pc, At body q c → C.pcs q = some pc → Piece C.P n c pc := by
    intro d
    induction d using Nat.strongRecOn with
    | _ d ih =>
      intro q hq c pc hat hpc
      have hmem := spec t q pc (by rw [← ht]; exact hpc)
      have hlt := hB _ hmem
      exact h _ hmem c hat (fun q' c' pc' hqq hat' hpc' => ih (B - q') (by simp only at hlt; omega) q' rfl c' pc' hat' hpc')
  exact fun q c pc => main _ q rfl c pc

end
end Gv
