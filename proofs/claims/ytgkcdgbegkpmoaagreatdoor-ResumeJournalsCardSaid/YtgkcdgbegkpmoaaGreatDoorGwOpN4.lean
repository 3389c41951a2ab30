/- The operations that change nothing, each: the interpreter's value is the model's. -/
import Derived.Test.YtgkcdgbegkpmoaaGreatDoorGwOpN3
import Derived.Laws.Tables
namespace Gv
open Go
set_option linter.unusedVariables false
set_option linter.unusedSectionVars false
set_option linter.unusedSimpArgs false

section
variable [GlobI] {ok : Nat → Prop} {w : World} {μ : Nat → Option Value} {P : Program} {α : Type} {K : AV → Option α} {x : α} {σ : List Ob}

theorem RV.ofVal (v : Value) : RV ok w μ (ofVal v) v := by
  cases v with
  | int k n => exact RV.mkInt _ _
  | bool b => exact RV.mkBool _
  | string s => exact RV.mkStr _
  | slice a n c =>
    simp only [Gv.ofVal]
    split
    · rename_i h; simp only [Bool.and_eq_true, beq_iff_eq] at h; obtain ⟨⟨h0, rfl⟩, rfl⟩ := h; cases a <;> simp_all [RV]
    · simp [RV]
  | agg l => simp [Gv.ofVal, RV]
  | tuple l => simp [Gv.ofVal, RV]
  | _ => simp [Gv.ofVal, RV]

theorem RVL.ofVals : ∀ (l : List Value), RVL ok w μ (l.map Gv.ofVal) l
  | [] => by simp [RVL]
  | v :: l => RVL.cons' (RV.ofVal v) (RVL.ofVals l)

theorem NodeC.one {n : Nd} {cs : List Value} (h : NodeC ok w n cs) : ∀ v ∈ cs, v.oneCell' = true := by
  cases h <;> simp [Value.oneCell']

theorem Sh.C_one : ∀ {s : Sh} {x : s.T} {cs : List Value}, Sh.C ok w s x cs → ∀ v ∈ cs, v.oneCell' = true
  | .int _, _, _, h => by simp only [Sh.C] at h; subst h; simp [Value.oneCell']
  | .bool, _, _, h => by simp only [Sh.C] at h; subst h; simp [Value.oneCell']
  | .str, _, _, h => by simp only [Sh.C] at h; subst h; simp [Value.oneCell']
  | .sl _, _, _, h => by simp only [Sh.C] at h; obtain ⟨_, _, rfl, _⟩ := h; simp [Value.oneCell']
  | .pr a b, _, _, h => by
    simp only [Sh.C] at h; obtain ⟨c1, c2, rfl, h1, h2⟩ := h
    intro v hv
    rcases List.mem_append.1 hv with hv | hv
    · exact Sh.C_one h1 v hv
    · exact Sh.C_one h2 v hv
  | .node, _, _, h => by simp only [Sh.C] at h; exact h.one

theorem RV.one {a : AV} {v : Value} (hl : leaf a = true) (h : RV ok w μ a v) : v.oneCell' = true := by
  cases a with
  | any => simp [leaf] at hl
  | agg => simp [leaf] at hl
  | tup => simp [leaf] at hl
  | dat s x => simp only [RV] at h; exact Sh.C_one h v (by simp)
  | nil => simp only [RV] at h; subst h; rfl
  | box t off => simp only [RV] at h; obtain ⟨b, _, rfl⟩ := h; rfl
  | row t => simp only [RV] at h; obtain ⟨_, a, n, c, rfl⟩ := h; rfl
  | cptr l => simp only [RV] at h; obtain ⟨b, off, cs, rfl, _⟩ := h; rfl
  | rptr t i sz off => simp only [RV] at h; obtain ⟨b, n, c, _, _, rfl⟩ := h; rfl
  | fn f l => simp only [RV] at h; obtain ⟨vs, rfl, _⟩ := h; rfl
  | ifc T a => simp only [RV] at h; obtain ⟨x, rfl, _⟩ := h; rfl
  | cst c => simp only [RV] at h; obtain ⟨rfl, h1, h2⟩ := h; cases v <;> first | rfl | exact absurd rfl (h1 _) | exact absurd rfl (h2 _)

theorem cells_one {v : Value} (h : v.oneCell' = true) : v.cells = #[v] := by
  cases v <;> first | rfl | simp [Value.oneCell'] at h

theorem avCells_rv {a : AV} {l : List AV} {v : Value} (h : avCells a = some l) (hv : RV ok w μ a v) : RVL ok w μ l v.cells.toList := by
  by_cases hl : leaf a = true
  · have hc := cells_one (hv.one hl)
    have : l = [a] := by
      unfold avCells at h
      split at h
      · simp [leaf] at hl
      · simp [hl] at h; exact h.symm
    subst this
    rw [hc]
    exact RVL.cons' hv (by simp [RVL])
  · cases a <;> simp [leaf] at hl <;> simp [avCells, leaf] at h
    subst h
    simp only [RV] at hv
    obtain ⟨cs, rfl, hv⟩ := hv
    exact hv

theorem foldl_set_toList : ∀ (l : List Value) (k off : Nat) (cells : Array Value), off + k + l.length ≤ cells.size →
    ((l.zipIdx k).foldl (fun cs (p : Value × Nat) => cs.setIfInBounds (off + p.2) p.1) cells).toList = cells.toList.take (off + k) ++ l ++ cells.toList.drop (off + k + l.length)
  | [], k, off, cells, _ => by simp
  | v :: l, k, off, cells, h => by
    simp only [List.length_cons] at h
    simp only [List.zipIdx_cons, List.foldl_cons]
    rw [foldl_set_toList l (k + 1) off _ (by simp; omega)]
    have hlt : off + k < cells.toList.length := by simp; omega
    simp only [Array.toList_setIfInBounds, List.length_cons]
    rw [show off + (k + 1) = off + k + 1 by omega, show off + k + 1 + l.length = off + k + (l.length + 1) by omega]
    rw [List.take_add_one, List.take_set_of_le (Nat.le_refl _), List.drop_set_of_lt (by omega)]
    rw [List.getElem?_set_self hlt]
    simp

theorem splice_rvl {cells new : List AV} {cs ns : List Value} (h : RVL ok w μ cells cs) (hn : RVL ok w μ new ns) (off : Nat) :
    RVL ok w μ (splice cells off new) (cs.take off ++ ns ++ cs.drop (off + ns.length)) := by
  unfold splice
  rw [← hn.len]
  exact ((h.take off).append hn).append (h.drop _)

theorem fillA_sound {ρ : Operand → AV} {ρ' : Operand → Value} {pl : List (Nat × Nat)} (hρ : ∀ y, RV ok w μ (ρ y) (ρ' y)) : ∀ (parts : List (Nat × Operand)) {cells cells' : List AV} {cs : Array Value},
    fillA ρ pl cells parts = some cells' → RVL ok w μ cells cs.toList →
    ∃ cs', Instr.fill (pl.toArray[·]?) cs (parts.map fun (i, x) => (i, ρ' x)) = some cs' ∧ RVL ok w μ cells' cs'.toList
  | [], cells, cells', cs, h, hr => by simp only [fillA, Option.some.injEq] at h; subst h; exact ⟨cs, rfl, hr⟩
  | (i, y) :: r, cells, cells', cs, h, hr => by
    simp only [fillA] at h
    obtain ⟨p, hp, h⟩ := Option.bind_eq_some_iff.1 h
    obtain ⟨new, hn, h⟩ := Option.bind_eq_some_iff.1 h
    split at h
    · rename_i hc
      simp only [Bool.and_eq_true, beq_iff_eq, decide_eq_true_eq] at hc
      have hnew := avCells_rv hn (hρ y)
      have hl1 := hnew.len
      have hl2 := hr.len
      have e := foldl_set_toList (ρ' y).cells.toList 0 p.1 cs (by simp at hl1 hl2 ⊢; omega)
      have hr' : RVL ok w μ (splice cells p.1 new) ((ρ' y).cells.zipIdx.foldl (fun cs (p' : Value × Nat) => cs.setIfInBounds (p.1 + p'.2) p'.1) cs).toList := by
        rw [← Array.foldl_toList, Array.toList_zipIdx, e]
        simpa using splice_rvl hr hnew p.1
      obtain ⟨cs', h1, h2⟩ := fillA_sound hρ r h hr'
      refine ⟨cs', ?_, h2⟩
      have hsz : (ρ' y).cells.size = p.2 := by simp at hl1; omega
      have hfit : p.1 + (ρ' y).cells.size ≤ cs.size := by simp at hl1 hl2; omega
      simp only [List.map_cons, Instr.fill, List.getElem?_toArray, hp]
      rw [if_neg (by simp [hsz]; omega)]
      simpa using h1
    · cases h

theorem ObR.cells {t : Nat} {own : Bool} {cells : List AV} {b : Nat} (h : ObR ok w μ t (.box own cells)) (hm : μ t = some (.pointer (some ⟨b, 0, none⟩))) (off : Nat) :
    ∃ cs, CellsAt w b off cs ∧ RVL ok w μ (cells.drop off) cs := by
  obtain ⟨b', vs, T, h1, h2, h3, _⟩ := h
  rw [hm] at h1; cases h1
  exact ⟨_, CellsAt.of_block h2 off, h3.drop off⟩

/-- An own row's element. -/
theorem ObR.elem {t : Nat} {own : Bool} {T : TypeId} {e : Sh} {l : List e.T} {b n c i : Nat} (h : ObR ok w μ t (.row own T e l)) (hm : μ t = some (.slice (some ⟨b, 0, none⟩) n c)) (hi : i < n) :
    n = l.length ∧ ∃ cs, cs.length = e.size ∧ CellsAt w b (i * e.size) cs ∧ Sh.C ok w e (l.getD i e.dflt) cs := by
  obtain ⟨v, h1, ⟨a, c', rfl, h2⟩, _⟩ := h
  rw [hm] at h1
  simp only [Option.some.injEq, Value.slice.injEq] at h1
  obtain ⟨rfl, rfl, rfl⟩ := h1
  rcases h2 with ⟨_, rfl⟩ | ⟨_, b', cur, hb, _, _, _, _, h5⟩
  · simp at hi
  · simp only [Option.some.injEq, Addr.mk.injEq, and_true] at hb
    subst hb
    exact ⟨rfl, h5 i _ (getD_of_lt hi)⟩

end
end Gv
