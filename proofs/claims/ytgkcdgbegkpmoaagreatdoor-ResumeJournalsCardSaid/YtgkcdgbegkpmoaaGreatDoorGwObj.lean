/- Objects, states and worlds. -/
import Derived.Test.YtgkcdgbegkpmoaaGreatDoorGwRel
namespace Gv
open Go
set_option linter.unusedSectionVars false

/-- What a package variable that the program lays holds, where there is one: the first cell of the first block. -/
class GlobI where
  c : Option Value

section
variable {ok ok' : Nat → Prop} {w w' : World} {μ μ' : Nat → Option Value}

theorem NodeC.of_kids {tag kind n : Int} {s : ByteArray} {kids : List Nd} {v : Value} (h : Sh.C ok w (.sl .node) kids [v]) :
    NodeC ok w ⟨tag, kind, n, s, kids⟩ [.int .i64 tag, .int .i64 kind, .int .i64 n, .string s, v] := by
  simp only [Sh.C, List.cons.injEq, and_true] at h
  obtain ⟨a, c, rfl, hc, h⟩ := h
  rcases h with rfl | ⟨b, off, rfl, hb, h⟩
  · exact .nil ..
  · have hcs : ∀ i, ∃ cs : List Value, i < kids.length → cs.length = 5 ∧ CellsAt w b (off + i * 5) cs ∧ ∀ x, kids[i]? = some x → NodeC ok w x cs := by
      intro i
      by_cases hi : i < kids.length
      · obtain ⟨cs, h1, h2, h3⟩ := h i kids[i] (by simp [hi])
        exact ⟨cs, fun _ => ⟨h1, h2, fun x hx => by simp [hi] at hx; subst hx; exact h3⟩⟩
      · exact ⟨[], fun h => absurd h hi⟩
    refine .mk tag kind n s kids b off c (fun i => (hcs i).choose) hb hc (fun i hi => ((hcs i).choose_spec hi).1) (fun i hi => ((hcs i).choose_spec hi).2.1) (fun i x hx => ?_)
    have hi : i < kids.length := by
      rcases Nat.lt_or_ge i kids.length with h | h
      · exact h
      · rw [List.getElem?_eq_none h] at hx; cases hx
    exact ((hcs i).choose_spec hi).2.2 x hx

theorem ofCells_rv : ∀ {s : Sh} {l : List AV} {x : s.T} {r : List AV} {vs : List Value}, ofCells s l = some (x, r) → RVL ok w μ l vs →
    ∃ v1 v2, vs = v1 ++ v2 ∧ Sh.C ok w s x v1 ∧ RVL ok w μ r v2
  | .pr a b, l, x, r, vs, h, hv => by
    simp only [ofCells, Option.bind_eq_some_iff] at h
    obtain ⟨⟨x1, l1⟩, h1, ⟨x2, l2⟩, h2, h3⟩ := h
    simp only [Option.some.injEq, Prod.mk.injEq] at h3
    obtain ⟨rfl, rfl⟩ := h3
    obtain ⟨v1, v2, rfl, c1, r1⟩ := ofCells_rv h1 hv
    obtain ⟨v3, v4, rfl, c2, r2⟩ := ofCells_rv h2 r1
    exact ⟨v1 ++ v3, v4, by simp, by simp only [Sh.C]; exact ⟨v1, v3, rfl, c1, c2⟩, r2⟩
  | .node, l, x, r, vs, h, hv => by
    match l, h, hv with
    | a :: b :: c :: d :: e :: l, h, hv =>
      simp only [ofCells, Option.bind_eq_some_iff] at h
      obtain ⟨x0, h0, x1, h1, x2, h2, x3, h3, x4, h4, h5⟩ := h
      simp only [Option.some.injEq, Prod.mk.injEq] at h5
      obtain ⟨rfl, rfl⟩ := h5
      obtain ⟨v0, _, rfl, g0, hv0⟩ := RVL.cons_iff.1 hv
      obtain ⟨v1, _, rfl, g1, hv1⟩ := RVL.cons_iff.1 hv0
      obtain ⟨v2, _, rfl, g2, hv2⟩ := RVL.cons_iff.1 hv1
      obtain ⟨v3, _, rfl, g3, hv3⟩ := RVL.cons_iff.1 hv2
      obtain ⟨v4, vs, rfl, g4, hv4⟩ := RVL.cons_iff.1 hv3
      have e0 := asDat_rv h0 g0
      have e1 := asDat_rv h1 g1
      have e2 := asDat_rv h2 g2
      have e3 := asDat_rv h3 g3
      have e4 := asDat_rv h4 g4
      simp only [Sh.C, List.cons.injEq, and_true] at e0 e1 e2 e3
      subst e0 e1 e2 e3
      exact ⟨[_, _, _, _, v4], vs, rfl, by simp only [Sh.C]; exact NodeC.of_kids e4, hv4⟩
    | [], h, _ => simp [ofCells] at h
    | [_], h, _ => simp [ofCells] at h
    | [_, _], h, _ => simp [ofCells] at h
    | [_, _, _], h, _ => simp [ofCells] at h
    | [_, _, _, _], h, _ => simp [ofCells] at h
  | .int k, a :: l, x, r, vs, h, hv => by
    simp only [ofCells, Option.bind_eq_some_iff, Option.some.injEq, Prod.mk.injEq] at h
    obtain ⟨y, h1, rfl, rfl⟩ := h
    obtain ⟨v, vs, rfl, g, hv⟩ := RVL.cons_iff.1 hv
    exact ⟨[v], vs, rfl, asDat_rv h1 g, hv⟩
  | .bool, a :: l, x, r, vs, h, hv => by
    simp only [ofCells, Option.bind_eq_some_iff, Option.some.injEq, Prod.mk.injEq] at h
    obtain ⟨y, h1, rfl, rfl⟩ := h
    obtain ⟨v, vs, rfl, g, hv⟩ := RVL.cons_iff.1 hv
    exact ⟨[v], vs, rfl, asDat_rv h1 g, hv⟩
  | .str, a :: l, x, r, vs, h, hv => by
    simp only [ofCells, Option.bind_eq_some_iff, Option.some.injEq, Prod.mk.injEq] at h
    obtain ⟨y, h1, rfl, rfl⟩ := h
    obtain ⟨v, vs, rfl, g, hv⟩ := RVL.cons_iff.1 hv
    exact ⟨[v], vs, rfl, asDat_rv h1 g, hv⟩
  | .sl e, a :: l, x, r, vs, h, hv => by
    simp only [ofCells, Option.bind_eq_some_iff, Option.some.injEq, Prod.mk.injEq] at h
    obtain ⟨y, h1, rfl, rfl⟩ := h
    obtain ⟨v, vs, rfl, g, hv⟩ := RVL.cons_iff.1 hv
    exact ⟨[v], vs, rfl, asDat_rv h1 g, hv⟩
  | .int _, [], _, _, _, h, _ => by simp [ofCells] at h
  | .bool, [], _, _, _, h, _ => by simp [ofCells] at h
  | .str, [], _, _, _, h, _ => by simp [ofCells] at h
  | .sl _, [], _, _, _, h, _ => by simp [ofCells] at h

/-- The elements of a row, in a block from its head on. -/
def Elems (ok : Nat → Prop) (w : World) (b : Nat) (e : Sh) (l : List e.T) : Prop :=
  ∀ (i : Nat) x, l[i]? = some x → ∃ cs, cs.length = e.size ∧ CellsAt w b (i * e.size) cs ∧ Sh.C ok w e x cs

/-- A row's value: a slice from a block's head on, with room behind; or one without any room. -/
def RowV (ok : Nat → Prop) (w : World) (T : TypeId) (e : Sh) (v : Value) (l : List e.T) : Prop :=
  ∃ a c, v = .slice a l.length c ∧ ((c = 0 ∧ l = []) ∨
    (0 < c ∧ ∃ b cur, a = some ⟨b, 0, none⟩ ∧ w.heap[b]? = some (.cells cur T (0, 0)) ∧ l.length ≤ c ∧ c ≤ maxLen ∧ cur.size = c * e.size ∧ Elems ok w b e l))

/-- The block of a token's value. -/
def blk : Value → Option Nat
  | .pointer (some a) => some a.block
  | .slice (some a) _ c => if c = 0 then none else some a.block
  | _ => none

def isOwn : Ob → Bool
  | .box o _ => o
  | .row o _ _ _ => o
  | .gone => false

def ownB (σ : List Ob) (μ : Nat → Option Value) (t b : Nat) : Prop := ∃ o v, σ[t]? = some o ∧ isOwn o = true ∧ μ t = some v ∧ blk v = some b

/-- What an object says of a world. -/
def ObR (ok : Nat → Prop) (w : World) (μ : Nat → Option Value) (t : Nat) : Ob → Prop
  | .box own cells => ∃ b vs T, μ t = some (.pointer (some ⟨b, 0, none⟩)) ∧ w.heap[b]? = some (.cells vs T (0, 0)) ∧ RVL ok w μ cells vs.toList ∧ (own = false → ok b)
  | .row own T e l => ∃ v, μ t = some v ∧ RowV ok w T e v l ∧ (own = false → ∀ b, blk v = some b → ok b)
  | .gone => True

/-- Where a call began: its world, the blocks that were handed over to be written, the blocks that may be read. -/
structure Env where
  B : World
  Rb : Nat → Prop
  ok0 : Nat → Prop

structure Env.Ok (E : Env) : Prop where
  lt : ∀ b, E.ok0 b → b < E.B.heap.size ∧ ¬ E.Rb b
  rb : ∀ b, E.Rb b → b < E.B.heap.size

def okN (E : Env) (σ : List Ob) (μ : Nat → Option Value) (w : World) (b : Nat) : Prop :=
  b < w.heap.size ∧ (E.ok0 b ∨ E.B.heap.size ≤ b ∨ E.Rb b) ∧ ∀ t, ¬ ownB σ μ t b

variable [GlobI]
/-- What has not turned since the call began. -/
structure Frm (E : Env) (w : World) : Prop where
  os : w.os = E.B.os
  tape : w.tape = E.B.tape
  output : w.output = E.B.output
  size : E.B.heap.size ≤ w.heap.size
  block : ∀ b, b < E.B.heap.size → ¬ E.Rb b → w.heap[b]? = E.B.heap[b]?
  glob : ∀ c, GlobI.c = some c → 0 < E.B.heap.size ∧ ¬ E.Rb 0 ∧ E.B.cell? ⟨0, 0, none⟩ = some c

structure Rel (E : Env) (avs : List AV) (σ : List Ob) (μ : Nat → Option Value) (vs : List Value) (w : World) : Prop where
  vals : RVL (okN E σ μ w) w μ avs vs
  objs : ∀ t o, σ[t]? = some o → ∀ v, μ t = some v → ObR (okN E σ μ w) w μ t o
  dist : ∀ t t' b, ownB σ μ t b → ownB σ μ t' b → t = t'
  own : ∀ t b, ownB σ μ t b → b < w.heap.size ∧ (E.B.heap.size ≤ b ∨ E.Rb b)
  dom : ∀ t v, μ t = some v → t < σ.length
  frm : Frm E w

theorem okN.not_own {E : Env} {σ : List Ob} {b t : Nat} (h : okN E σ μ w b) : ¬ ownB σ μ t b := h.2.2 t

theorem Elems.kp {b : Nat} {e : Sh} {l : List e.T} (k : Kp ok ok' w w') (hs : w'.heap[b]? = w.heap[b]?) (h : Elems ok w b e l) : Elems ok' w' b e l := by
  intro i x hx
  obtain ⟨cs, h1, h2, h3⟩ := h i x hx
  exact ⟨cs, h1, h2.kp hs, Sh.C_kp k h3⟩

theorem RowV.kp {T : TypeId} {e : Sh} {v : Value} {l : List e.T} (k : Kp ok ok' w w') (hs : ∀ b, blk v = some b → w'.heap[b]? = w.heap[b]?) (h : RowV ok w T e v l) : RowV ok' w' T e v l := by
  obtain ⟨a, c, rfl, h⟩ := h
  refine ⟨a, c, rfl, ?_⟩
  rcases h with h | ⟨hc, b, cur, rfl, h1, h2, h3, h4, h5⟩
  · exact .inl h
  · have hb := hs b (by simp [blk]; omega)
    exact .inr ⟨hc, b, cur, rfl, hb.trans h1, h2, h3, h4, h5.kp k hb⟩

/-- An object stays what it is where its own block is unchanged. -/
theorem ObR.kp {t : Nat} {o : Ob} (k : Kp ok ok' w w') (m : ∀ t v, μ t = some v → μ' t = some v) (hs : ∀ v b, μ t = some v → blk v = some b → w'.heap[b]? = w.heap[b]?) (h : ObR ok w μ t o) : ObR ok' w' μ' t o := by
  cases o with
  | box own cells =>
    obtain ⟨b, vs, T, h1, h2, h3, h4⟩ := h
    exact ⟨b, vs, T, m _ _ h1, (hs _ b h1 rfl).trans h2, h3.kp k m, fun e => k.imp b (h4 e)⟩
  | row own T e l =>
    obtain ⟨v, h1, h2, h3⟩ := h
    exact ⟨v, m _ _ h1, h2.kp k (fun b hb => hs v b h1 hb), fun e b hb => k.imp b (h3 e b hb)⟩
  | gone => trivial

/-- The block of an own token is a block of the world. -/
theorem ObR.blk_lt {t : Nat} {o : Ob} {v : Value} {b : Nat} (h : ObR ok w μ t o) (ho : o ≠ .gone) (hm : μ t = some v) (hb : blk v = some b) : b < w.heap.size := by
  cases o with
  | box own cells =>
    obtain ⟨b', vs, T, h1, h2, _⟩ := h
    rw [h1] at hm; cases hm
    simp [blk] at hb; subst hb
    exact (Array.getElem?_eq_some_iff.1 h2).1
  | row own T e l =>
    obtain ⟨v', h1, ⟨a, c, rfl, h2⟩, _⟩ := h
    rw [h1] at hm; cases hm
    rcases h2 with ⟨rfl, _⟩ | ⟨hc, b', cur, rfl, h3, _⟩
    · cases a <;> simp [blk] at hb
    · simp only [blk] at hb; split at hb
      · cases hb
      · cases hb; exact (Array.getElem?_eq_some_iff.1 h3).1
  | gone => exact absurd rfl ho

end
end Gv
