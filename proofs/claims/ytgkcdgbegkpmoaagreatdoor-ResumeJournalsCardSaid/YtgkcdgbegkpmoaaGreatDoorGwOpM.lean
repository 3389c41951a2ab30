/- The operations that write. -/
import Derived.Test.YtgkcdgbegkpmoaaGreatDoorGwOpA
import Derived.Laws.CopyRow
namespace Gv
open Go Go.RowKit
set_option linter.unusedVariables false
set_option linter.unusedSectionVars false
set_option linter.unusedSimpArgs false

section
variable [GlobI] {E : Env} {avs : List AV} {σ : List Ob} {μ μ' : Nat → Option Value} {vs : List Value} {w w' : World} {ok ok' : Nat → Prop} {α : Type} {x : α} {P : Program}

theorem RVL.one {l : List AV} {vs : List Value} (h : RVL ok w μ l vs) (hl : l.all leaf = true) : ∀ v ∈ vs, v.oneCell' = true := by
  induction l generalizing vs with
  | nil => simp only [RVL] at h; subst h; simp
  | cons a l ih =>
    obtain ⟨v, r, rfl, h1, h2⟩ := RVL.cons_iff.1 h
    simp only [List.all_cons, Bool.and_eq_true] at hl
    intro u hu
    rcases List.mem_cons.1 hu with rfl | hu
    · exact h1.one hl.1
    · exact ih h2 hl.2 u hu

theorem run_storeVar {T : TypeId} {k : Nat} (hk : szT P T = some k) {b off : Nat} {v : Value} {cur : Array Value} {U : TypeId} (hg : w.heap[b]? = some (.cells cur U (0, 0)))
    (hs : v.cells.size = k) (hl : off + k ≤ cur.size) (h1 : ∀ u ∈ v.cells.toList, u.oneCell' = true) :
    (storeVar T ⟨b, off, none⟩ v).run P w = .ok () (w.setRow b (cur.toList.take off ++ v.cells.toList ++ cur.toList.drop (off + v.cells.toList.length)).toArray) := by
  have hst := run_storeCells_at P b off U v.cells.toList 0 cur w hg (by simp; omega) h1
  simp only [Nat.add_zero] at hst
  simp only [storeVar, Sem.run_bind, run_sizeOf' hk, Result.andThen_ok]
  rw [if_neg (by simp [hs])]
  exact hst

theorem ownB_box {t b : Nat} {cells : List AV} (ht : σ[t]? = some (.box true cells)) (hm : μ t = some (.pointer (some ⟨b, 0, none⟩))) : ownB σ μ t b := ⟨_, _, ht, rfl, hm, rfl⟩

/-- A store into an own box. -/
theorem Rel.storeBox (h : Rel E avs σ μ vs w) {t b off : Nat} {cells new : List AV} (ht : σ[t]? = some (.box true cells)) (hm : μ t = some (.pointer (some ⟨b, 0, none⟩)))
    {T : TypeId} {k : Nat} (hk : szT P T = some k) {v : Value} (hnew : RVL (okN E σ μ w) w μ new v.cells.toList) (hlen : new.length = k) (hleaf : new.all leaf = true) (hfit : off + k ≤ cells.length) :
    ∃ w', (storeVar T ⟨b, off, none⟩ v).run P w = .ok () w' ∧ Rel E avs (σ.set t (.box true (splice cells off new))) μ vs w' := by
  obtain ⟨b', cur, U, h1, h2, h3, _⟩ := h.objs t _ ht _ hm
  rw [hm] at h1; cases h1
  have hl := h3.len
  have hn := hnew.len
  simp only [Array.length_toList] at hl hn
  refine ⟨_, run_storeVar hk h2 (by omega) (by omega) (hnew.one hleaf), ?_⟩
  refine h.write ht rfl rfl (ownB_box ht hm) rfl rfl rfl (by simp) (fun q hq => setRow_other w b q _ hq) (fun kp => ?_)
  refine ⟨b, _, U, hm, setRow_heap w b cur _ U _ h2, ?_, fun e => by cases e⟩
  exact (splice_rvl h3 hnew off).kp kp (fun _ _ e => e)

theorem CellsAt.setRow {b off : Nat} {cs cur' : List Value} {cur : Array Value} {U : TypeId} {fr : Nat × Nat} (hg : w.heap[b]? = some (.cells cur U fr)) (h : ∀ (j : Nat) (v : Value), cs[j]? = some v → cur'[off + j]? = some v) :
    CellsAt (w.setRow b cur'.toArray) b off cs := by
  intro j v hv
  rw [cell_setRow_same w b _ cur _ U fr hg]
  simpa using h j v hv

theorem CellsAt.get {b off : Nat} {cs : List Value} {cur : Array Value} {U : TypeId} {fr : Nat × Nat} (h : CellsAt w b off cs) (hg : w.heap[b]? = some (.cells cur U fr)) (j : Nat) (v : Value) (hj : cs[j]? = some v) : cur[off + j]? = some v := by
  have := h j v hj
  simpa [World.cell?, hg] using this

/-- A store into an own row's element. -/
theorem Rel.storeRow (h : Rel E avs σ μ vs w) {t b i off n c : Nat} {T' : TypeId} {e : Sh} {l : List e.T} (ht : σ[t]? = some (.row true T' e l)) (hm : μ t = some (.slice (some ⟨b, 0, none⟩) n c)) (hi : i < n)
    {T : TypeId} {k : Nat} (hk : szT P T = some k) {new : List AV} {v : Value} (hnew : RVL (okN E σ μ w) w μ new v.cells.toList) (hlen : new.length = k) (hone : ∀ u ∈ v.cells.toList, u.oneCell' = true) (hfit : off + k ≤ e.size)
    {y : e.T} (hy : ofCells e (splice (cellsOf e (l.getD i e.dflt)) off new) = some (y, [])) :
    ∃ w', (storeVar T ⟨b, i * e.size + off, none⟩ v).run P w = .ok () w' ∧ Rel E avs (σ.set t (.row true T' e (l.set i y))) μ vs w' := by
  have hob := h.objs t _ ht _ hm
  obtain ⟨hn, cs, hcl, hcs, hC⟩ := hob.elem hm hi
  obtain ⟨v', h1, ⟨a, c', rfl, h2⟩, _⟩ := hob
  rw [hm] at h1
  simp only [Option.some.injEq, Value.slice.injEq] at h1
  obtain ⟨rfl, hn', rfl⟩ := h1
  rcases h2 with ⟨_, rfl⟩ | ⟨hc0, b', cur, hb, hg, hlc, hcm, hcur, hel⟩
  · simp at hn'; omega
  · simp only [Option.some.injEq, Addr.mk.injEq, and_true] at hb
    subst hb
    have hnl := hnew.len
    simp only [Array.length_toList] at hnl
    have hib : i * e.size + e.size ≤ cur.size := by
      rw [hcur]
      have : (i + 1) * e.size ≤ c * e.size := Nat.mul_le_mul_right _ (by omega)
      rw [Nat.add_mul, Nat.one_mul] at this
      exact this
    refine ⟨_, run_storeVar hk hg (by omega) (by omega) hone, ?_⟩
    have hown : ownB σ μ t b := ⟨_, _, ht, rfl, hm, by simp [blk]; omega⟩
    refine h.write ht rfl rfl hown rfl rfl rfl (by simp) (fun q hq => setRow_other w b q _ hq) (fun kp => ?_)
    refine ⟨_, hm, ⟨_, c, by rw [List.length_set, ← hn'], .inr ⟨hc0, b, _, rfl, setRow_heap w b cur _ T' _ hg, by rw [List.length_set]; exact hlc, hcm, ?_, ?_⟩⟩, fun e => by cases e⟩
    · simp only [List.size_toArray, List.length_append, List.length_take, List.length_drop, Array.length_toList]
      rw [← hcur]; omega
    · intro q z hq
      by_cases hqi : q = i
      · subst hqi
        have hz : z = y := by
          rw [List.getElem?_set] at hq
          simp only [if_true] at hq
          split at hq
          · cases hq; rfl
          · cases hq
        subst hz
        have hr := splice_rvl (cellsOf_rv (μ := μ) hC) hnew off
        obtain ⟨v1, v2, e1, e2, e3⟩ := ofCells_rv hy (hr.kp kp (fun _ _ e => e))
        have := RVL.nil_iff.1 e3; subst this
        rw [List.append_nil] at e1
        refine ⟨v1, Sh.C_len e2, ?_, e2⟩
        rw [← e1]
        refine CellsAt.setRow hg (fun j u hu => ?_)
        -- the new cells of the element
        have hcg := fun j u => hcs.get hg j u
        rw [List.append_assoc] at hu ⊢
        have htl : (cs.take off).length = off := by simp; omega
        have htl' : (cur.toList.take (q * e.size + off)).length = q * e.size + off := by simp; omega
        rcases Nat.lt_or_ge j off with hj | hj
        · rw [List.getElem?_append_left (by rw [htl]; exact hj), List.getElem?_take, if_pos hj] at hu
          rw [List.getElem?_append_left (by rw [htl']; omega), List.getElem?_take, if_pos (by omega)]
          simpa using hcg j u hu
        · rw [List.getElem?_append_right (by rw [htl]; exact hj), htl] at hu
          rw [List.getElem?_append_right (by rw [htl']; omega), htl', show q * e.size + j - (q * e.size + off) = j - off by omega]
          rcases Nat.lt_or_ge (j - off) v.cells.toList.length with hj2 | hj2
          · rw [List.getElem?_append_left hj2] at hu ⊢; exact hu
          · rw [List.getElem?_append_right hj2] at hu ⊢
            rw [List.getElem?_drop] at hu ⊢
            have hcc := hcg _ u hu
            rw [← Array.getElem?_toList] at hcc
            rw [show q * e.size + off + v.cells.toList.length + (j - off - v.cells.toList.length) = q * e.size + (off + v.cells.toList.length + (j - off - v.cells.toList.length)) by omega]
            exact hcc
      · rw [List.getElem?_set_ne (Ne.symm hqi)] at hq
        obtain ⟨cs', g1, g2, g3⟩ := hel q z hq
        refine ⟨cs', g1, ?_, Sh.C_kp kp g3⟩
        refine CellsAt.setRow hg (fun j u hu => ?_)
        have hcc := g2.get hg j u hu
        rw [← Array.getElem?_toList] at hcc
        have hj : j < e.size := by
          rw [← g1]
          rcases Nat.lt_or_ge j cs'.length with h | h
          · exact h
          · rw [List.getElem?_eq_none h] at hu; cases hu
        rw [List.append_assoc]
        have htl' : (cur.toList.take (i * e.size + off)).length = i * e.size + off := by simp; omega
        rcases Nat.lt_or_gt_of_ne hqi with hlt | hgt
        · have : (q + 1) * e.size ≤ i * e.size := Nat.mul_le_mul_right _ (by omega)
          rw [Nat.add_mul, Nat.one_mul] at this
          rw [List.getElem?_append_left (by rw [htl']; omega), List.getElem?_take, if_pos (by omega)]
          exact hcc
        · have : (i + 1) * e.size ≤ q * e.size := Nat.mul_le_mul_right _ (by omega)
          rw [Nat.add_mul, Nat.one_mul] at this
          rw [List.getElem?_append_right (by rw [htl']; omega), htl', List.getElem?_append_right (by simp; omega), List.getElem?_drop]
          rw [show i * e.size + off + v.cells.toList.length + (q * e.size + j - (i * e.size + off) - v.cells.toList.length) = q * e.size + j by simp; omega]
          exact hcc

end
end Gv
