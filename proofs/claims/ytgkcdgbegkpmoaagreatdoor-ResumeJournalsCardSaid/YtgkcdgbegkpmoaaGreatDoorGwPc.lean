/- Pieces of code, functions: the theorems. -/
import Derived.Test.YtgkcdgbegkpmoaaGreatDoorGwWp
namespace Gv
open Go Go.RowKit
set_option linter.unusedVariables false
set_option linter.unusedSectionVars false
set_option linter.unusedSimpArgs false

section
variable [GlobI] {E : Env} {avs : List AV} {slots : List AV} {σ σ' σ'' : List Ob} {μ μ' : Nat → Option Value} {vs : List Value} {w w' : World} {ok ok' : Nat → Prop} {α : Type} {x : α} {P : Program} {Q : Exit → Act → World → Prop} {a : Act}

/-- A loop, in its round. -/
def LoopIn (P : Program) (c : Code) (Q : Exit → Act → World → Prop) (a : Act) (w : World) : Prop :=
  ∀ (b : Frame) (k : List Item) (cs : List Frame), ∃ e a' w', Q e a' w' ∧ Arrives P (lone (b.at a (.code c :: .inLoop c :: k)) cs w) b k cs e a' w'

theorem loopIn_of {c : Code} (h : c.wp P (Exit.then (LoopIn P c Q) Q) a w) : LoopIn P c Q a w := by
  intro b k cs
  obtain ⟨e, a₁, w₁, hq, harr⟩ := h b (.inLoop c :: k) cs
  cases e with
  | normal =>
    obtain ⟨e₂, a₂, w₂, hq₂, harr₂⟩ := hq b k cs
    exact ⟨e₂, a₂, w₂, hq₂, .of_steps (Steps.trans harr (.one step_inLoop)) harr₂⟩
  | exit id => exact ⟨_, a₁, w₁, hq, .pass (x := .inLoop c) rfl (fun _ _ => .inl (by simp)) harr⟩
  | goto l => exact ⟨_, a₁, w₁, hq, .pass (x := .inLoop c) rfl (fun _ _ => .inl (by simp)) harr⟩
  | ret => exact ⟨_, a₁, w₁, hq, .pass (x := .inLoop c) rfl (fun _ _ => .inl (by simp)) harr⟩
  | panic ch => exact ⟨_, a₁, w₁, hq, .pass (x := .inLoop c) rfl (fun _ _ => .inl (by simp)) harr⟩
  | outgrown => exact ⟨_, a₁, w₁, hq, .pass (x := .inLoop c) rfl (fun _ _ => .inl (by simp)) harr⟩

theorem loop_of {c : Code} (h : LoopIn P c Q a w) : (Code.loop c).wp P Q a w :=
  fun b k cs => let ⟨e, a', w', hq, harr⟩ := h b k cs; ⟨e, a', w', hq, .of_steps (.one step_loop) harr⟩

theorem At.dst {body c : Code} {p n : Nat} (h : At body p c) (hd : dstOk n body = true) : dstOk n c = true := by
  induction h with
  | root => exact hd
  | seqL _ ih => simp only [dstOk, Bool.and_eq_true] at ih; exact ih.1
  | seqR _ ih => simp only [dstOk, Bool.and_eq_true] at ih; exact ih.2
  | condL _ ih => simp only [dstOk, Bool.and_eq_true] at ih; exact ih.1
  | condR _ ih => simp only [dstOk, Bool.and_eq_true] at ih; exact ih.2
  | block _ ih => simpa only [dstOk] using ih
  | loop _ ih => simpa only [dstOk] using ih

/-- The soundness of a piece, where those within are sound. -/
def Loc (C : Cfg) (n : Nat) (body : Code) (p : Nat) (pc : Pc) : Prop :=
  ∀ c, At body p c → (∀ q c' pc', p < q → At body q c' → C.pcs q = some pc' → Piece C.P n c' pc') → Piece C.P n c pc

/-- Out of a piece: what fits, fits. -/
theorem pick_goes {outs : List Out} (ho : outsOk outs) (hn : outs.all (fun o => decide (0 < o.R.n)) = true) {e : Ex} {st : St} {y : OutsV outs} (h : pickO outs e st.slots st.σ = some y) {D : Act → Prop} (hO : OutP outs y (Goes E D Q)) : Goes E D Q e st := by
  refine (OutQ.and hO (pickO_spec ho h)).elim (fun o hmem y hh => ?_)
  obtain ⟨h1, h2, h3⟩ := hh
  subst h2
  have hp := List.all_eq_true.1 hn o hmem
  simp only [decide_eq_true_eq] at hp
  revert h1
  cases o.e <;> simp only [Goes]
  · exact fun h1 a w k1 k2 => h1 a w (k1.sig h3) k2
  · exact fun h1 a w k1 k2 => h1 a w (k1.sig h3) k2
  · exact fun h1 a w k1 k2 => h1 a w (k1.sig h3) k2
  · exact fun h1 pv a w k1 k2 => h1 pv a w (k1.sig h3 hp) k2

theorem loc_loop {C : Cfg} (hC : ∀ g l N, C.orc g l = some N → Sat C.P g N) (hm : C.P.follows .mixedOrders = true) {n : Nat} {body : Code} (hd : dstOk n body = true) {p : Nat} {A : Sig} {outs : List Out} (f : Nat → A.V → Option (OutsV outs))
    (h0 : ∀ x, f 0 x = none) (hev : ∀ q x, ((codeAt 60 body p).bind fun c => (loopOf c).bind fun c1 => evL C c1 p A outs (f q) x) = f (q + 1) x) (ho : outsOk outs) (hn : outs.all (fun o => decide (0 < o.R.n)) = true) (hnn : outs.all (fun o => !(exB o.e .normal)) = true) (k : Nat) :
    Loc C n body p ⟨A, outs, f k⟩ := by
  intro c hat hin
  have key : ∀ (q : Nat) (x : A.V) (y : OutsV outs), f q x = some y → ∃ c1, c = .loop c1 ∧ ∀ (E : Env) (a : Act) (w : World) (Q : Exit → Act → World → Prop), Holds E (A.put x) a w →
      OutP outs y (Goes E (SameC n a) Q) → LoopIn C.P c1 Q a w := by
    intro q
    induction q with
    | zero => intro x y h; rw [h0] at h; cases h
    | succ q ih =>
      intro x y h
      rw [← hev] at h
      obtain ⟨c', hc', h⟩ := Option.bind_eq_some_iff.1 h
      have := hat.uniq hc'
      subst this
      obtain ⟨c1, hc1, h⟩ := Option.bind_eq_some_iff.1 h
      have hcl : c = .loop c1 := by
        cases c <;> simp [loopOf] at hc1
        rw [hc1]
      subst hcl
      refine ⟨c1, rfl, fun E a w Q hH hK => loopIn_of ?_⟩
      have hd1 := hat.dst hd
      simp only [dstOk] at hd1
      refine evC_sound hC hm c1 (2 * p) (A.put x) _ y h (.loop hat) hd1 (fun q' c'' pc' hq hat' hpc => hin q' c'' pc' (by have := hat.pos; omega) hat' hpc) E a w _ hH (fun e1 st' k1 => ?_)
      cases e1 with
      | normal =>
        intro a' w' k2 k3
        obtain ⟨x', g1, g2⟩ := Option.bind_eq_some_iff.1 k1
        obtain ⟨c2, hc2, hL⟩ := ih x' y g2
        cases hc2
        exact hL E a' w' Q (k2.sig g1) (hK.mono fun e st hg => hg.to fun a hh => k3.trans hh)
      | ret => exact fun a' w' k2 k3 => pick_goes (Q := Q) ho hn k1 hK a' w' k2 k3
      | exit id => exact fun a' w' k2 k3 => pick_goes (Q := Q) ho hn k1 hK a' w' k2 k3
      | pan => exact fun pv a' w' k2 k3 => pick_goes (Q := Q) ho hn k1 hK pv a' w' k2 k3
  intro x y h E a w Q hH hK
  obtain ⟨c1, rfl, hL⟩ := key k x y h
  exact loop_of (hL E a w Q hH hK)

theorem loc_code {C : Cfg} (hC : ∀ g l N, C.orc g l = some N → Sat C.P g N) (hm : C.P.follows .mixedOrders = true) {n : Nat} {body : Code} (hd : dstOk n body = true) {p : Nat} {A : Sig} {outs : List Out} (f : A.V → Option (OutsV outs))
    (hev : ∀ x, ((codeAt 60 body p).bind fun c => evP C c p A outs x) = f x) (ho : outsOk outs) (hn : outs.all (fun o => decide (0 < o.R.n)) = true) : Loc C n body p ⟨A, outs, f⟩ := by
  intro c hat hin x y h E a w Q hH hK
  have h : f x = some y := h
  rw [← hev] at h
  obtain ⟨c', hc', h⟩ := Option.bind_eq_some_iff.1 h
  have := hat.uniq hc'
  subst this
  refine evC_sound (C := { C with pcs := fun q => if q == p then none else C.pcs q }) hC hm c p (A.put x) _ y h hat (hat.dst hd) (fun q' c'' pc' hq hat' hpc => ?_) E a w _ hH (fun e1 st' k1 => pick_goes ho hn k1 hK)
  by_cases hqp : q' = p
  · subst hqp; simp at hpc
  · simp only [beq_iff_eq, hqp, if_false] at hpc
    exact hin q' c'' pc' (by omega) hat' hpc

/-- All the pieces of a body. -/
theorem all_pieces {C : Cfg} {n : Nat} {body : Code} {t : List (Nat × Pc)} (ht : C.pcs = look t) (h : ∀ z ∈ t, Loc C n body z.1 z.2) : ∀ q c pc, At body q c → C.pcs q = some pc → Piece C.P n c pc := by
  have spec : ∀ (t : List (Nat × Pc)) (q : Nat) (pc : Pc), look t q = some pc → (q, pc) ∈ t := by
    intro t
    induction t with
    | nil => intro q pc h; simp [look] at h
    | cons z t ih =>
      obtain ⟨m, a⟩ := z
      intro q pc h
      simp only [look] at h
      split at h
      · rename_i hm
        simp only [beq_iff_eq] at hm
        subst hm; cases h; simp
      · exact List.mem_cons_of_mem _ (ih q pc h)
  have bound : ∃ B, ∀ z ∈ t, z.1 < B := by
    clear ht h spec
    induction t with
    | nil => exact ⟨0, by simp⟩
    | cons z t ih =>
      obtain ⟨B, hB⟩ := ih
      refine ⟨max B (z.1 + 1), fun y hy => ?_⟩
      rcases List.mem_cons.1 hy with rfl | hy
      · omega
      · have := hB y hy; omega
  obtain ⟨B, hB⟩ := bound
  have main : ∀ (d q : Nat), B - q = d → ∀ c pc, At body q c → C.pcs q = some pc → Piece C.P n c pc := by
    intro d
    induction d using Nat.strongRecOn with
    | _ d ih =>
      intro q hq c pc hat hpc
      have hmem := spec t q pc (by rw [← ht]; exact hpc)
      have hlt := hB _ hmem
      exact h _ hmem c hat (fun q' c' pc' hqq hat' hpc' => ih (B - q') (by simp only at hlt; omega) q' rfl c' pc' hat' hpc')
  exact fun q c pc => main _ q rfl c pc

end
end Gv
