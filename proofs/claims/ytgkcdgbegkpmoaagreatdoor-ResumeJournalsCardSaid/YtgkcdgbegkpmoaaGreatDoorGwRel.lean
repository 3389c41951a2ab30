/- What an abstract state says of a world: the relation, and what keeps it. -/
import Derived.Test.YtgkcdgbegkpmoaaGreatDoorGwCode
import Derived.Laws.AppendOwn
import Derived.Below
namespace Gv
open Go

/-- Cells in a block, from a place on. -/
def CellsAt (w : World) (b off : Nat) (cs : List Value) : Prop := ∀ j v, cs[j]? = some v → w.cell? ⟨b, off + j, none⟩ = some v

inductive NodeC (ok : Nat → Prop) (w : World) : Nd → List Value → Prop
  | nil (tag kind n : Int) (s : ByteArray) (a : Option Addr) (c : Nat) : NodeC ok w ⟨tag, kind, n, s, []⟩ [.int .i64 tag, .int .i64 kind, .int .i64 n, .string s, .slice a 0 c]
  | mk (tag kind n : Int) (s : ByteArray) (kids : List Nd) (b off c : Nat) (cs : Nat → List Value) (hok : ok b) (hc : kids.length ≤ c)
      (hlen : ∀ i, i < kids.length → (cs i).length = 5) (hcells : ∀ i, i < kids.length → CellsAt w b (off + i * 5) (cs i))
      (hk : ∀ i x, kids[i]? = some x → NodeC ok w x (cs i)) :
      NodeC ok w ⟨tag, kind, n, s, kids⟩ [.int .i64 tag, .int .i64 kind, .int .i64 n, .string s, .slice (some ⟨b, off, none⟩) kids.length c]

/-- Data of a shape, read off cells. -/
def Sh.C (ok : Nat → Prop) (w : World) : (s : Sh) → s.T → List Value → Prop
  | .int k, n, cs => cs = [.int k n]
  | .bool, b, cs => cs = [.bool b]
  | .str, s, cs => cs = [.string s]
  | .sl e, l, cs => ∃ a c, cs = [.slice a l.length c] ∧ l.length ≤ c ∧
      (l = [] ∨ ∃ b off, a = some ⟨b, off, none⟩ ∧ ok b ∧ ∀ i x, l[i]? = some x → ∃ cs, cs.length = e.size ∧ CellsAt w b (off + i * e.size) cs ∧ Sh.C ok w e x cs)
  | .pr a b, x, cs => ∃ c1 c2, cs = c1 ++ c2 ∧ Sh.C ok w a x.1 c1 ∧ Sh.C ok w b x.2 c2
  | .node, n, cs => NodeC ok w n cs

theorem NodeC.len {ok : Nat → Prop} {w : World} {n : Nd} {cs : List Value} (h : NodeC ok w n cs) : cs.length = 5 := by
  cases h <;> rfl

theorem Sh.C_len {ok : Nat → Prop} {w : World} : ∀ {s : Sh} {x : s.T} {cs : List Value}, Sh.C ok w s x cs → cs.length = s.size
  | .int _, _, _, h => by simp only [Sh.C] at h; subst h; rfl
  | .bool, _, _, h => by simp only [Sh.C] at h; subst h; rfl
  | .str, _, _, h => by simp only [Sh.C] at h; subst h; rfl
  | .sl _, _, _, h => by simp only [Sh.C] at h; obtain ⟨_, _, rfl, _⟩ := h; rfl
  | .pr a b, _, _, h => by
    simp only [Sh.C] at h; obtain ⟨c1, c2, rfl, h1, h2⟩ := h
    rw [List.length_append, Sh.C_len h1, Sh.C_len h2]; rfl
  | .node, _, _, h => by simp only [Sh.C] at h; rw [h.len]; rfl

/-- A world in which the blocks that count hold what they held. -/
structure Kp (ok ok' : Nat → Prop) (w w' : World) : Prop where
  imp : ∀ b, ok b → ok' b
  same : ∀ b, ok b → w'.heap[b]? = w.heap[b]?

theorem CellsAt.kp {w w' : World} {b off : Nat} {cs : List Value} (h : CellsAt w b off cs) (hs : w'.heap[b]? = w.heap[b]?) : CellsAt w' b off cs :=
  fun j v hj => (World.cell?_of_block (w := w) (w' := w') (a := ⟨b, off + j, none⟩) hs).trans (h j v hj)

theorem NodeC.kp {ok ok' : Nat → Prop} {w w' : World} (k : Kp ok ok' w w') {n : Nd} {cs : List Value} (h : NodeC ok w n cs) : NodeC ok' w' n cs := by
  induction h with
  | nil => exact .nil ..
  | mk tag kind n s kids b off c cs hok hc hlen hcells hk ih =>
    exact .mk tag kind n s kids b off c cs (k.imp b hok) hc hlen (fun i hi => (hcells i hi).kp (k.same b hok)) ih

theorem Sh.C_kp {ok ok' : Nat → Prop} {w w' : World} (k : Kp ok ok' w w') : ∀ {s : Sh} {x : s.T} {cs : List Value}, Sh.C ok w s x cs → Sh.C ok' w' s x cs
  | .int _, _, _, h => h
  | .bool, _, _, h => h
  | .str, _, _, h => h
  | .sl e, l, _, h => by
    simp only [Sh.C] at h ⊢
    obtain ⟨a, c, rfl, hc, h⟩ := h
    refine ⟨a, c, rfl, hc, ?_⟩
    rcases h with h | ⟨b, off, rfl, hb, h⟩
    · exact .inl h
    · refine .inr ⟨b, off, rfl, k.imp b hb, fun i x hx => ?_⟩
      obtain ⟨cs, hl, hcs, hC⟩ := h i x hx
      exact ⟨cs, hl, hcs.kp (k.same b hb), Sh.C_kp k hC⟩
  | .pr a b, _, _, h => by
    simp only [Sh.C] at h ⊢
    obtain ⟨c1, c2, rfl, h1, h2⟩ := h
    exact ⟨c1, c2, rfl, Sh.C_kp k h1, Sh.C_kp k h2⟩
  | .node, _, _, h => by simp only [Sh.C] at h ⊢; exact h.kp k

mutual
/-- What an abstract value says of a value. -/
def RV (ok : Nat → Prop) (w : World) (μ : Nat → Option Value) : AV → Value → Prop
  | .any, _ => True
  | .dat s x, v => Sh.C ok w s x [v]
  | .nil, v => v = .slice none 0 0
  | .agg l, v => ∃ cs, v = .agg cs ∧ RVL ok w μ l cs.toList
  | .tup l, v => ∃ cs, v = .tuple cs ∧ RVL ok w μ l cs.toList
  | .box t off, v => ∃ b, μ t = some (.pointer (some ⟨b, 0, none⟩)) ∧ v = .pointer (some ⟨b, off, none⟩)
  | .row t, v => μ t = some v ∧ ∃ a n c, v = .slice a n c
  | .cptr l, v => ∃ b off cs, v = .pointer (some ⟨b, off, none⟩) ∧ ok b ∧ CellsAt w b off cs ∧ RVL ok w μ l cs
  | .rptr t i sz off, v => ∃ b n c, μ t = some (.slice (some ⟨b, 0, none⟩) n c) ∧ i < n ∧ v = .pointer (some ⟨b, i * sz + off, none⟩)
  | .fn f l, v => ∃ vs, v = .func (.func f) #[] vs ∧ RVL ok w μ l vs.toList
  | .ifc T a, v => ∃ x, v = .iface T x ∧ RV ok w μ a x
  | .cst c, v => v = c ∧ (∀ x, c ≠ .agg x) ∧ (∀ x, c ≠ .tuple x)
def RVL (ok : Nat → Prop) (w : World) (μ : Nat → Option Value) : List AV → List Value → Prop
  | [], vs => vs = []
  | a :: l, vs => ∃ v r, vs = v :: r ∧ RV ok w μ a v ∧ RVL ok w μ l r
end

section
variable {ok ok' : Nat → Prop} {w w' : World} {μ μ' : Nat → Option Value}

mutual
theorem RV.kp (k : Kp ok ok' w w') (m : ∀ t v, μ t = some v → μ' t = some v) : ∀ {a : AV} {v : Value}, RV ok w μ a v → RV ok' w' μ' a v
  | .any, _, _ => trivial
  | .dat _ _, _, h => by simp only [RV] at h ⊢; exact Sh.C_kp k h
  | .nil, _, h => by simp only [RV] at h ⊢; exact h
  | .agg _, _, h => by simp only [RV] at h ⊢; obtain ⟨cs, e, h⟩ := h; exact ⟨cs, e, RVL.kp k m h⟩
  | .tup _, _, h => by simp only [RV] at h ⊢; obtain ⟨cs, e, h⟩ := h; exact ⟨cs, e, RVL.kp k m h⟩
  | .box _ _, _, h => by simp only [RV] at h ⊢; obtain ⟨b, e, h⟩ := h; exact ⟨b, m _ _ e, h⟩
  | .row _, _, h => by simp only [RV] at h ⊢; exact ⟨m _ _ h.1, h.2⟩
  | .cptr _, _, h => by simp only [RV] at h ⊢; obtain ⟨b, off, cs, e, hb, hc, h⟩ := h; exact ⟨b, off, cs, e, k.imp b hb, hc.kp (k.same b hb), RVL.kp k m h⟩
  | .rptr _ _ _ _, _, h => by simp only [RV] at h ⊢; obtain ⟨b, n, c, e, h⟩ := h; exact ⟨b, n, c, m _ _ e, h⟩
  | .fn _ _, _, h => by simp only [RV] at h ⊢; obtain ⟨cs, e, h⟩ := h; exact ⟨cs, e, RVL.kp k m h⟩
  | .ifc _ _, _, h => by simp only [RV] at h ⊢; obtain ⟨x, e, h⟩ := h; exact ⟨x, e, RV.kp k m h⟩
  | .cst _, _, h => by simp only [RV] at h ⊢; exact h
theorem RVL.kp (k : Kp ok ok' w w') (m : ∀ t v, μ t = some v → μ' t = some v) : ∀ {l : List AV} {vs : List Value}, RVL ok w μ l vs → RVL ok' w' μ' l vs
  | [], _, h => by simp only [RVL] at h ⊢; exact h
  | _ :: _, _, h => by simp only [RVL] at h ⊢; obtain ⟨v, r, e, h1, h2⟩ := h; exact ⟨v, r, e, RV.kp k m h1, RVL.kp k m h2⟩
end

theorem RVL.len : ∀ {l : List AV} {vs : List Value}, RVL ok w μ l vs → l.length = vs.length
  | [], _, h => by simp only [RVL] at h; subst h; rfl
  | _ :: _, _, h => by simp only [RVL] at h; obtain ⟨v, r, rfl, _, h⟩ := h; simp [h.len]

theorem RVL.nil_iff {vs : List Value} : RVL ok w μ [] vs ↔ vs = [] := by simp only [RVL]
theorem RVL.cons_iff {a : AV} {l : List AV} {vs : List Value} : RVL ok w μ (a :: l) vs ↔ ∃ v r, vs = v :: r ∧ RV ok w μ a v ∧ RVL ok w μ l r := by simp only [RVL]
theorem RVL.cons' {a : AV} {l : List AV} {v : Value} {vs : List Value} (h : RV ok w μ a v) (h' : RVL ok w μ l vs) : RVL ok w μ (a :: l) (v :: vs) := RVL.cons_iff.2 ⟨v, vs, rfl, h, h'⟩

theorem RVL.append : ∀ {l l' : List AV} {vs vs' : List Value}, RVL ok w μ l vs → RVL ok w μ l' vs' → RVL ok w μ (l ++ l') (vs ++ vs')
  | [], _, _, _, h, h' => by simp only [RVL] at h; subst h; exact h'
  | _ :: _, _, _, _, h, h' => by obtain ⟨v, r, rfl, h1, h2⟩ := RVL.cons_iff.1 h; exact RVL.cons' h1 (h2.append h')

theorem RVL.split : ∀ {l l' : List AV} {vs : List Value}, RVL ok w μ (l ++ l') vs → ∃ v1 v2, vs = v1 ++ v2 ∧ RVL ok w μ l v1 ∧ RVL ok w μ l' v2
  | [], _, vs, h => ⟨[], vs, rfl, RVL.nil_iff.2 rfl, h⟩
  | _ :: _, _, _, h => by
    obtain ⟨v, r, rfl, h1, h2⟩ := RVL.cons_iff.1 h
    obtain ⟨v1, v2, rfl, h3, h4⟩ := RVL.split h2
    exact ⟨v :: v1, v2, rfl, RVL.cons' h1 h3, h4⟩

theorem RVL.get : ∀ {l : List AV} {vs : List Value}, RVL ok w μ l vs → ∀ (i : Nat) (a : AV), l[i]? = some a → ∃ v, vs[i]? = some v ∧ RV ok w μ a v
  | [], _, _, i, a, h => by simp at h
  | _ :: _, _, h, i, a, hi => by
    obtain ⟨v, r, rfl, h1, h2⟩ := RVL.cons_iff.1 h
    cases i with
    | zero => simp at hi; subst hi; exact ⟨v, rfl, h1⟩
    | succ i => exact h2.get i a (by simpa using hi)

theorem RVL.drop {l : List AV} {vs : List Value} (h : RVL ok w μ l vs) (n : Nat) : RVL ok w μ (l.drop n) (vs.drop n) := by
  induction n generalizing l vs with
  | zero => simpa using h
  | succ n ih =>
    cases l with
    | nil => simp only [RVL] at h; subst h; simp [RVL]
    | cons a l => obtain ⟨v, r, rfl, h1, h2⟩ := RVL.cons_iff.1 h; simpa using ih h2

theorem RVL.take {l : List AV} {vs : List Value} (h : RVL ok w μ l vs) (n : Nat) : RVL ok w μ (l.take n) (vs.take n) := by
  induction n generalizing l vs with
  | zero => simp [RVL]
  | succ n ih =>
    cases l with
    | nil => simp only [RVL] at h; subst h; simp [RVL]
    | cons a l => obtain ⟨v, r, rfl, h1, h2⟩ := RVL.cons_iff.1 h; simpa using RVL.cons' h1 (ih h2)

theorem RVL.of_get : ∀ {l : List AV} {vs : List Value}, l.length = vs.length → (∀ (i : Nat) (a : AV) (v : Value), l[i]? = some a → vs[i]? = some v → RV ok w μ a v) → RVL ok w μ l vs
  | [], vs, h, _ => by cases vs <;> simp_all [RVL]
  | a :: l, [], h, _ => by simp at h
  | a :: l, v :: vs, h, g => RVL.cons' (g 0 a v rfl rfl) (RVL.of_get (by simpa using h) fun i a' v' h1 h2 => g (i + 1) a' v' (by simpa using h1) (by simpa using h2))

/-- An element's cells, one by one. -/
theorem cellsOf_rv : ∀ {s : Sh} {x : s.T} {cs : List Value}, Sh.C ok w s x cs → RVL ok w μ (cellsOf s x) cs
  | .int _, _, _, h => by have hh := h; simp only [Sh.C] at h; subst h; exact RVL.cons' (by simpa only [RV] using hh) (RVL.nil_iff.2 rfl)
  | .bool, _, _, h => by have hh := h; simp only [Sh.C] at h; subst h; exact RVL.cons' (by simpa only [RV] using hh) (RVL.nil_iff.2 rfl)
  | .str, _, _, h => by have hh := h; simp only [Sh.C] at h; subst h; exact RVL.cons' (by simpa only [RV] using hh) (RVL.nil_iff.2 rfl)
  | .sl _, _, _, h => by have hh := h; simp only [Sh.C] at h; obtain ⟨a, c, rfl, _⟩ := h; exact RVL.cons' (by simpa only [RV] using hh) (RVL.nil_iff.2 rfl)
  | .pr a b, x, _, h => by simp only [Sh.C] at h; obtain ⟨c1, c2, rfl, h1, h2⟩ := h; exact (cellsOf_rv h1).append (cellsOf_rv h2)
  | .node, x, _, h => by
    simp only [Sh.C] at h
    cases h with
    | nil tag kind n s a c =>
      refine RVL.cons' ?_ (RVL.cons' ?_ (RVL.cons' ?_ (RVL.cons' ?_ (RVL.cons' ?_ (RVL.nil_iff.2 rfl)))))
      · simp [RV, Sh.C]
      · simp [RV, Sh.C]
      · simp [RV, Sh.C]
      · simp [RV, Sh.C]
      · simp [RV, Sh.C]
    | mk tag kind n s kids b off c cs hok hc hlen hcells hk =>
      refine RVL.cons' ?_ (RVL.cons' ?_ (RVL.cons' ?_ (RVL.cons' ?_ (RVL.cons' ?_ (RVL.nil_iff.2 rfl)))))
      · simp [RV, Sh.C]
      · simp [RV, Sh.C]
      · simp [RV, Sh.C]
      · simp [RV, Sh.C]
      · simp only [RV, Sh.C]
        refine ⟨_, _, rfl, hc, .inr ⟨b, off, rfl, hok, fun i x hx => ?_⟩⟩
        have hi : i < kids.length := by
          rcases Nat.lt_or_ge i kids.length with h | h
          · exact h
          · rw [List.getElem?_eq_none h] at hx; cases hx
        exact ⟨cs i, hlen i hi, hcells i hi, hk i x hx⟩

/-- And back. -/
theorem asDat_rv {s : Sh} {a : AV} {x : s.T} {v : Value} (h : asDat s a = some x) (hv : RV ok w μ a v) : Sh.C ok w s x [v] := by
  cases a with
  | dat s' x' =>
    simp only [asDat] at h
    split at h
    · rename_i e; subst e; simp only [castT, Option.some.injEq] at h; subst h; simpa only [RV] using hv
    · cases h
  | nil =>
    cases s <;> simp only [asDat] at h <;> try cases h
    simp only [RV] at hv
    subst hv
    simp only [Sh.C]
    exact ⟨none, 0, rfl, Nat.le_refl _, .inl (by simp)⟩
  | _ => simp [asDat] at h

end
end Gv
