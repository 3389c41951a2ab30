/- Regions in the order of the text. -/
import Derived.Test.YtgkcdgbegkpmoaaGreatDoorGwOp3
namespace Gv
open Go Go.RowKit
set_option linter.unusedVariables false
set_option linter.unusedSectionVars false
set_option linter.unusedSimpArgs false

section
variable [GlobI] {E : Env} {avs : List AV} {slots : List AV} {σ : List Ob} {μ μ' : Nat → Option Value} {vs : List Value} {w w' : World} {ok ok' : Nat → Prop} {α : Type} {x : α} {P : Program} {Q : Exit → Act → World → Prop}
variable {ops : Array Oper}

/-- A piece of a region's list, from a place on. -/
def Seg (ops : Array Oper) (i : Nat) (r : List Oper) : Prop := ∀ (k : Nat) o, r[k]? = some o → ops[i + k]? = some o

theorem Seg.head {i : Nat} {o : Oper} {r : List Oper} (h : Seg ops i (o :: r)) : ops[i]? = some o := h 0 o rfl
theorem Seg.tail {i : Nat} {o : Oper} {r : List Oper} (h : Seg ops i (o :: r)) : Seg ops (i + 1) r := fun k o' hk => by
  have := h (k + 1) o' (by simpa using hk)
  rwa [Nat.add_assoc, Nat.add_comm 1 k]
theorem Seg.left {i : Nat} {l r : List Oper} (h : Seg ops i (l ++ r)) : Seg ops i l := fun k o hk => h k o (by
  rw [List.getElem?_append_left (List.getElem?_eq_some_iff.1 hk).1]; exact hk)
theorem Seg.right {i : Nat} {l r : List Oper} (h : Seg ops i (l ++ r)) : Seg ops (i + l.length) r := fun k o hk => by
  have := h (l.length + k) o (by rw [List.getElem?_append_right (by omega)]; simpa using hk)
  rwa [← Nat.add_assoc] at this

theorem wpOps_step {i : Nat} {o : Oper} {rest : List Nat} {a : Act} (ho : ops[i]? = some o)
    (h1 : Region.wanted o (yielded ops a.tmps) = true → o.wp P a w (wpOps P ops Q rest) Q) (h2 : Region.wanted o (yielded ops a.tmps) = false → wpOps P ops Q rest (a.put o.dst undef) w) : wpOps P ops Q (i :: rest) a w := by
  simp only [wpOps, ho]
  cases hw : Region.wanted o (yielded ops a.tmps) with
  | true => simp only [if_true]; exact .inl (h1 hw)
  | false => simp only [Bool.false_eq_true, if_false]; exact h2 hw

/-- What the tokens and objects say, at a state's slots. -/
def HR (E : Env) (σ : List Ob) (μ : Nat → Option Value) (st : St) (a : Act) (w : World) : Prop := Rel E st.slots σ μ (a.tmps.toList.take st.slots.length) w

theorem HR.put {st : St} {a : Act} (h : HR E σ μ st a w) {av : AV} {v : Value} (hv : RV (okN E σ μ w) w μ av v) (d : Option Tmp) : HR E σ μ (st.put d av) (a.put d v) w := Rel.puts h hv d
theorem HR.below {st : St} {a : Act} (h : HR E σ μ st a w) (hB : Below w.heap.size w w') : HR E σ μ st a w' := Rel.below h hB
theorem HR.holds {st : St} {a : Act} (h : HR E st.σ μ st a w) : Holds E st a w := ⟨μ, h⟩

theorem yielded_put {j s : Nat} {a : Act} {d : Option Tmp} {v : Value} (hj : dstOf ops j = some s) (hd : d ≠ some s) : yielded ops (a.put d v).tmps j = yielded ops a.tmps j := by
  unfold dstOf at hj
  unfold yielded
  rw [hj]
  cases d with
  | none => rfl
  | some d =>
    have hne : d ≠ s := fun e => hd (by rw [e])
    simp [Act.put, Array.getElem?_setIfInBounds_ne hne]

theorem yielded_undef {j s : Nat} {a : Act} (hj : dstOf ops j = some s) (h : a.tmps[s]? = none ∨ a.tmps[s]? = some undef) : yielded ops a.tmps j = none := by
  unfold dstOf at hj
  unfold yielded
  rw [hj]
  rcases h with h | h <;> simp [h, undef]

theorem asB_spec {a : AV} {b : Bool} (h : asB a = some b) : a = .dat .bool b := by
  unfold asB at h
  split at h
  · simp only [Option.some.injEq] at h; subst h; rfl
  · cases h

theorem asB_rv {a : AV} {b : Bool} {v : Value} (h : asB a = some b) (hv : RV ok w μ a v) : v = .bool b := by
  have := asB_spec h; subst this
  simp only [RV, Sh.C, List.cons.injEq, and_true] at hv
  exact hv

/-- The condition's value lies in its temporary. -/
theorem get_bool {st : St} {a : Act} (h : HR E σ μ st a w) {s : Nat} {b : Bool} (hb : asB (st.get s) = some b) : a.tmps[s]? = some (.bool b) := by
  rcases Nat.lt_or_ge s st.slots.length with hi | hi
  · obtain ⟨v, g1, g2⟩ := (show RVL _ w μ st.slots _ from h.vals).get s _ (getD_of_lt (d := .any) hi)
    rw [List.getElem?_take, if_pos hi] at g1
    rw [← Array.getElem?_toList, g1, asB_rv hb g2]
  · rw [St.get, List.getD_eq_getElem?_getD, List.getElem?_eq_none hi] at hb; simp [asB] at hb

theorem yielded_bool {a : Act} {j s : Nat} {b : Bool} (hj : dstOf ops j = some s) (h : a.tmps[s]? = some (.bool b)) : yielded ops a.tmps j = some b := by
  unfold dstOf at hj
  unfold yielded
  rw [hj]; simp [h]

theorem HR.know {st : St} {a : Act} (h : HR E σ μ st a w) {s : Nat} {b : Bool} (hb : asB (st.get s) = some b) : HR E σ μ (st.put (some s) (.dat .bool b)) a w := by
  have hv := get_bool h hb
  have := h
  unfold HR at this ⊢
  simp only [St.put, List.length_set]
  refine { this with vals := this.vals.setSame (fun v hg => ?_) }
  rw [List.getElem?_take] at hg
  split at hg
  · rw [Array.getElem?_toList, hv] at hg; cases hg; simp [RV, Sh.C]
  · cases hg

/-- The guards that are known to hold. -/
def Kn (ops : Array Oper) (kn : List (Nat × Bool)) (r : List Oper) (a : Act) : Prop :=
  ∀ g ∈ kn, ∃ s, dstOf ops g.1 = some s ∧ yielded ops a.tmps g.1 = some g.2 ∧ ∀ o ∈ r, o.dst ≠ some s

theorem gOk_wanted {kn : List (Nat × Bool)} {r : List Oper} {a : Act} {o : Oper} (hk : Kn ops kn r a) (h : gOk kn o.guard = true) : Region.wanted o (yielded ops a.tmps) = true := by
  unfold Region.wanted
  cases hg : o.guard with
  | none => rfl
  | some g =>
    obtain ⟨j, want⟩ := g
    rw [hg] at h
    simp only [gOk, List.any_eq_true, gEq, Bool.and_eq_true, beq_iff_eq] at h
    obtain ⟨⟨j', want'⟩, hm, h1, h2⟩ := h
    simp only at h1 h2; subst h1 h2
    obtain ⟨s, _, h3, _⟩ := hk _ hm
    simp only at h3
    simp [h3]

/-- What operations leave: everything that they do not put down. -/
structure Kept (E : Env) (ops : Array Oper) (σ : List Ob) (μ : Nat → Option Value) (r : List Oper) (a : Act) (w : World) (a' : Act) (w' : World) : Prop where
  fr : ∀ st, HR E σ μ st a w → HR E σ μ (anys r st) a' w'
  ye : ∀ j s, dstOf ops j = some s → (∀ o ∈ r, o.dst ≠ some s) → yielded ops a'.tmps j = yielded ops a.tmps j
  tm : ∀ s, (∀ o ∈ r, o.dst ≠ some s) → a'.tmps[s]? = a.tmps[s]?
  de : a'.defers = a.defers

theorem Kept.refl (a : Act) (w : World) : Kept E ops σ μ [] a w a w := ⟨fun _ h => h, fun _ _ _ _ => rfl, fun _ _ => rfl, rfl⟩

theorem Kept.one {o : Oper} {a : Act} {v : Value} (hB : Below w.heap.size w w') : Kept E ops σ μ [o] a w (a.put o.dst v) w' :=
  ⟨fun st h => (h.below hB).put (av := .any) trivial o.dst, fun j s hj hs => yielded_put hj (hs o (by simp)), fun s hs => by
    have := hs o (by simp)
    cases hd : o.dst with
    | none => rfl
    | some d =>
      have hne : d ≠ s := fun e => this (by rw [hd, e])
      simp [Act.put, Array.getElem?_setIfInBounds_ne hne], by cases o.dst <;> rfl⟩

theorem Kept.trans {r r' : List Oper} {a a1 a2 : Act} {w w1 w2 : World} (h : Kept E ops σ μ r a w a1 w1) (h' : Kept E ops σ μ r' a1 w1 a2 w2) : Kept E ops σ μ (r ++ r') a w a2 w2 :=
  ⟨fun st hh => by rw [anys, List.foldl_append]; exact h'.fr _ (h.fr st hh), fun j s hj hs => (h'.ye j s hj (fun o ho => hs o (by simp [ho]))).trans (h.ye j s hj (fun o ho => hs o (by simp [ho]))),
    fun s hs => (h'.tm s (fun o ho => hs o (by simp [ho]))).trans (h.tm s (fun o ho => hs o (by simp [ho]))), h'.de.trans h.de⟩

theorem Kn.kept {kn : List (Nat × Bool)} {r r' : List Oper} {a a' : Act} (hk : Kn ops kn (r ++ r') a) (h : Kept E ops σ μ r a w a' w') : Kn ops kn r' a' := by
  intro g hg
  obtain ⟨s, h1, h2, h3⟩ := hk g hg
  exact ⟨s, h1, by rw [h.ye _ s h1 (fun o ho => h3 o (by simp [ho]))]; exact h2, fun o ho => h3 o (by simp [ho])⟩

theorem splitPick_spec {kn : List (Nat × Bool)} {s : Nat} : ∀ {l g r : List Oper} {p : Oper}, splitPick kn s l = some (g, p, r) → l = g ++ p :: r ∧ gOk kn p.guard = true ∧ ∃ x y, p.op = .pick (.tmp s) x y
  | [], g, r, p, h => by simp [splitPick] at h
  | o :: l, g, r, p, h => by
    have rec' : ((splitPick kn s l).bind fun x => some (o :: x.1, x.2.1, x.2.2)) = some (g, p, r) → o :: l = g ++ p :: r ∧ gOk kn p.guard = true ∧ ∃ x y, p.op = .pick (.tmp s) x y := by
      intro h
      obtain ⟨⟨g', p', r'⟩, h1, h⟩ := Option.bind_eq_some_iff.1 h
      simp only [Option.some.injEq, Prod.mk.injEq] at h
      obtain ⟨rfl, rfl, rfl⟩ := h
      obtain ⟨h2, h3⟩ := splitPick_spec h1
      exact ⟨by rw [h2]; rfl, h3⟩
    simp only [splitPick] at h
    split at h
    · rename_i t x y hop
      split at h
      · rename_i hc
        simp only [Bool.and_eq_true, beq_iff_eq] at hc
        simp only [Option.some.injEq, Prod.mk.injEq] at h
        obtain ⟨rfl, rfl, rfl⟩ := h
        exact ⟨rfl, hc.2, x, y, by rw [hop, hc.1]⟩
      · exact rec' h
    · exact rec' h

/-- A group that is not wanted. -/
theorem skips_sound {j : Nat} {want : Bool} {s : Nat} (hj : dstOf ops j = some s) : ∀ (g : List Oper) (ds : List Nat) (i : Nat) (rest : List Nat) (a : Act) (w : World), skips ops (j, want) ds g = true → (g.all fun o => !dIs o.dst s) = true → Seg ops i g →
    (∃ b, yielded ops a.tmps j = some b ∧ b ≠ want) → (∀ d ∈ ds, a.tmps[d]? = none ∨ a.tmps[d]? = some undef) →
    (∀ a', Kept E ops σ μ g a w a' w → wpOps P ops Q rest a' w) → wpOps P ops Q (List.range' i g.length ++ rest) a w
  | [], ds, i, rest, a, w, _, _, _, _, _, hK => hK a (Kept.refl a w)
  | o :: g, ds, i, rest, a, w, hs, hall, hseg, hy, hds, hK => by
    simp only [skips, Bool.and_eq_true] at hs
    simp only [List.all_cons, Bool.and_eq_true] at hall
    obtain ⟨hs1, hs2⟩ := hs
    have hds' : o.dst ≠ some s := by
      intro e
      have := hall.1
      simp [e, dIs] at this
    have hnot : Region.wanted o (yielded ops a.tmps) = false := by
      unfold Region.wanted
      cases hg : o.guard with
      | none => rw [hg] at hs1; cases hs1
      | some h =>
        obtain ⟨j', want'⟩ := h
        rw [hg] at hs1
        simp only [Bool.or_eq_true] at hs1
        simp only
        rcases hs1 with hs1 | hs1
        · simp only [gEq, Bool.and_eq_true, beq_iff_eq] at hs1
          obtain ⟨rfl, rfl⟩ := hs1
          obtain ⟨b, hb, hne⟩ := hy
          rw [hb]
          simp [hne]
        · cases hd : dstOf ops j' with
          | none =>
            unfold dstOf at hd
            simp [yielded, hd]
          | some d =>
            rw [hd] at hs1
            simp only at hs1
            rw [yielded_undef hd (hds d (by simpa using hs1))]
            rfl
    rw [List.length_cons, List.range'_succ, List.cons_append]
    refine wpOps_step hseg.head (fun h => by rw [hnot] at h; cases h) (fun _ => ?_)
    have hk1 : Kept E ops σ μ [o] a w (a.put o.dst undef) w := Kept.one (Below.refl _ _)
    refine skips_sound hj g _ (i + 1) rest _ w hs2 hall.2 hseg.tail ?_ ?_ (fun a' hk => hK a' (hk1.trans hk))
    · obtain ⟨b, hb, hne⟩ := hy
      exact ⟨b, by rw [yielded_put hj hds']; exact hb, hne⟩
    · have old : ∀ d ∈ ds, (a.put o.dst undef).tmps[d]? = none ∨ (a.put o.dst undef).tmps[d]? = some undef := by
        intro d hd
        cases ho : o.dst with
        | none => exact hds d hd
        | some e =>
          by_cases he : e = d
          · subst he
            rcases hds e hd with h | h
            · left; simp only [Act.put, Array.getElem?_setIfInBounds, if_true]
              rw [Array.getElem?_eq_none_iff] at h
              rw [if_neg (by omega)]
            · right
              have hlt := (Array.getElem?_eq_some_iff.1 h).1
              simp [Act.put, hlt]
          · rw [show (a.put (some e) undef).tmps[d]? = a.tmps[d]? from by simp [Act.put, Array.getElem?_setIfInBounds_ne he]]
            exact hds d hd
      intro d hd
      cases ho : o.dst with
      | none => rw [ho] at hd; have := old d hd; rwa [ho] at this
      | some e =>
        rw [ho] at hd
        rcases List.mem_cons.1 hd with rfl | hd
        · rcases Nat.lt_or_ge d a.tmps.size with h | h
          · right; simp [Act.put, h]
          · left; simp [Act.put]; omega
        · have := old d hd; rwa [ho] at this

end
end Gv
