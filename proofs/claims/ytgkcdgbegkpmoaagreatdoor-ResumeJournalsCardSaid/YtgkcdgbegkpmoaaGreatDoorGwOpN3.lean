/- The operations that change nothing: memory, fields, elements, cuts. -/
import Derived.Test.YtgkcdgbegkpmoaaGreatDoorGwOpN2
import Derived.Laws.Slices
namespace Gv
open Go
set_option linter.unusedVariables false
set_option linter.unusedSectionVars false
set_option linter.unusedSimpArgs false

section
variable [GlobI] {ok : Nat → Prop} {w : World} {μ : Nat → Option Value} {P : Program} {α : Type} {K : AV → Option α} {x : α} {σ : List Ob}

theorem add_none (b off n : Nat) : (⟨b, off, none⟩ : Addr).add n = ⟨b, off + n, none⟩ := by
  unfold Addr.add; split <;> simp_all

theorem CellsAt.drop {b off : Nat} {cs : List Value} (h : CellsAt w b off cs) (n : Nat) : CellsAt w b (off + n) (cs.drop n) := by
  intro j v hj
  rw [List.getElem?_drop] at hj
  have := h (n + j) v hj
  rw [Nat.add_assoc]; exact this

theorem CellsAt.of_block {b : Nat} {vs : Array Value} {T : TypeId} {fr : Nat × Nat} (h : w.heap[b]? = some (.cells vs T fr)) (off : Nat) : CellsAt w b off (vs.toList.drop off) := by
  intro j v hj
  rw [List.getElem?_drop] at hj
  simp only [World.cell?, h]
  simpa using hj

theorem run_loadVar_agg {T : TypeId} {d : TypeDesc} (hu : P.underlying T = some d) (ha : aggT P T = true) {n : Nat} (hs : szT P T = some n) {b off : Nat} {cs : List Value} (hc : CellsAt w b off cs) (hl : n ≤ cs.length) :
    (loadVar T ⟨b, off, none⟩).run P w = .ok (.agg (cs.take n).toArray) w := by
  have hlen : (cs.take n).length = n := by simp; omega
  have e := run_loadCells_list (P := P) w ⟨b, off, none⟩ (cs.take n) (fun j v hv => by
    rw [add_none]
    refine hc j v ?_
    rw [List.getElem?_take] at hv
    split at hv
    · exact hv
    · cases hv)
  rw [hlen] at e
  simp only [loadVar, Sem.run_bind, run_isAgg hu, ha, Result.andThen_ok, if_true, run_sizeOf' hs, e, Sem.run_pure]

theorem run_loadVar_one {T : TypeId} {d : TypeDesc} (hu : P.underlying T = some d) (ha : aggT P T = false) {b off : Nat} {v : Value} (hc : w.cell? ⟨b, off, none⟩ = some v) :
    (loadVar T ⟨b, off, none⟩).run P w = .ok v w := by
  simp only [loadVar, Sem.run_bind, run_isAgg hu, ha, Result.andThen_ok, Bool.false_eq_true, if_false, run_load, hc]

theorem takeT_sound {T : TypeId} {cells : List AV} {av : AV} {b off : Nat} {cs : List Value} (h : takeT P T cells = some av) (hr : RVL ok w μ cells cs) (hc : CellsAt w b off cs) :
    ∃ v, RV ok w μ av v ∧ (loadVar T ⟨b, off, none⟩).run P w = .ok v w := by
  unfold takeT at h
  split at h
  · cases h
  · rename_i d hu
    split at h
    · rename_i ha
      obtain ⟨n, hn, h⟩ := Option.bind_eq_some_iff.1 h
      split at h
      · rename_i hl
        cases h
        exact ⟨_, by simp only [RV]; exact ⟨_, rfl, by simpa using hr.take n⟩, run_loadVar_agg hu ha hn hc (by rw [← hr.len]; exact hl)⟩
      · cases h
    · rename_i ha
      cases cells with
      | nil => simp at h
      | cons a l =>
        simp at h; subst h
        obtain ⟨v, r, rfl, h1, _⟩ := RVL.cons_iff.1 hr
        exact ⟨v, h1, run_loadVar_one hu (by simpa using ha) (by simpa using hc 0 v rfl)⟩

theorem takeT_val {T : TypeId} {cells : List AV} {av : AV} {cs : List Value} {k : Nat} (h : takeT P T cells = some av) (hr : RVL ok w μ cells cs) (hk : szT P T = some k) (h0 : 0 < k) :
    RV ok w μ av (valOf P T (cs.take k)) := by
  unfold takeT at h
  split at h
  · cases h
  · rename_i d hu
    split at h
    · rename_i ha
      obtain ⟨n, hn, h⟩ := Option.bind_eq_some_iff.1 h
      split at h
      · rename_i hl
        cases h
        rw [hk] at hn; cases hn
        simp only [valOf, ha, if_true, RV]
        exact ⟨_, rfl, by simpa using hr.take k⟩
      · cases h
    · rename_i ha
      cases cells with
      | nil => simp at h
      | cons a l =>
        simp at h; subst h
        obtain ⟨v, r, rfl, h1, _⟩ := RVL.cons_iff.1 hr
        obtain ⟨k, rfl⟩ : ∃ m, k = m + 1 := ⟨k - 1, by omega⟩
        simpa [valOf, ha] using h1

theorem fldT_spec {T : TypeId} {f : Nat} {p : Nat × TypeId} (h : fldT P T f = some p) : ∃ fs x, P.underlying T = some (.struct fs) ∧ fs[f]? = some x ∧ x.offset = p.1 ∧ x.type = p.2 := by
  unfold fldT at h
  split at h
  · rename_i fs hu
    obtain ⟨x, hx, h⟩ := Option.bind_eq_some_iff.1 h
    cases h
    exact ⟨fs, x, hu, hx, rfl, rfl⟩
  · cases h

theorem elemT_spec {T E : TypeId} (h : elemT P T = some E) : P.underlying T = some (.slice E) := by
  unfold elemT at h
  split at h
  · rename_i e hu; cases h; exact hu
  · cases h

theorem run_fieldAt {T : TypeId} {f : Nat} {p : Nat × TypeId} {n : Nat} (h : fldT P T f = some p) (hn : szT P p.2 = some n) (h0 : n ≠ 0) (b off : Nat) :
    (Instr.fieldAt T (.pointer (some ⟨b, off, none⟩)) f).run P w = .ok (.pointer (some ⟨b, off + p.1, none⟩)) w := by
  obtain ⟨fs, x, hu, hx, e1, e2⟩ := fldT_spec h
  have hs := run_sizeOf' (P := P) (e2 ▸ hn) w
  simp only [Instr.fieldAt, Sem.run_bind, run_underlying hu, Result.andThen_ok, hx, Instr.sureAddr, Sem.run_pure, fieldPlace, hs, h0, if_false, Sem.run_ite, add_none, e1]

theorem run_field {T : TypeId} {f : Nat} {p : Nat × TypeId} {k : Nat} (h : fldT P T f = some p) (hk : szT P p.2 = some k) (h0 : 0 < k) {d : TypeDesc} (hu : P.underlying p.2 = some d) (cs : List Value) (hl : p.1 + k ≤ cs.length) :
    (Instr.field T (.agg cs.toArray) f).run P w = .ok (valOf P p.2 ((cs.drop p.1).take k)) w := by
  obtain ⟨fs, x, hT, hx, e1, e2⟩ := fldT_spec h
  simp only [Instr.field, Sem.run_bind, run_underlying hT, Result.andThen_ok, hx, asAgg, Sem.run_pure]
  rw [e1, e2]
  exact run_part hu hk cs p.1 hl h0 w

theorem run_indexAt_slice {T E : TypeId} (h : elemT P T = some E) {n : Nat} (hn : szT P E = some n) {k : IntKind} {j : Int} {len c b off : Nat} (h0 : 0 ≤ j) (h1 : j < len) :
    (Instr.indexAt T (.slice (some ⟨b, off, none⟩) len c) (.int k j)).run P w = .ok (.pointer (some ⟨b, off + j.toNat * n, none⟩)) w := by
  have hu := elemT_spec h
  have hs := run_sizeOf' hn w
  simp only [Instr.indexAt, Sem.run_bind, run_underlying hu, Result.andThen_ok, asIntOf, Sem.run_pure, Sem.run_ite, h0, h1, and_self, if_true, hs, add_none]

theorem inB_spec {i : Int} {n : Nat} (h : inB i n = true) : 0 ≤ i ∧ i < n := by
  simpa [inB] using h

theorem getD_of_lt {β : Type} {l : List β} {i : Nat} {d : β} (h : i < l.length) : l[i]? = some (l.getD i d) := by
  simp [List.getD, List.getElem?_eq_getElem h]

theorem run_sliceBounds_plain (b : Bool) (len cap : Nat) (lo hi : Option Value) (i j : Int) (hlo : (lo = none ∧ i = 0) ∨ ∃ k, lo = some (.int k i)) (hhi : (hi = none ∧ j = len) ∨ ∃ k, hi = some (.int k j))
    (h0 : 0 ≤ i) (h1 : i ≤ j) (h2 : j ≤ len) (h3 : len ≤ cap) : (Instr.sliceBounds b len cap lo hi none).run P w = .ok (i.toNat, j.toNat, cap) w := by
  have hb : ∀ (k : IntKind) (n : Int) (y : Nat) c, 0 ≤ n → n ≤ y → (Instr.sliceBound (.int k n) y c).run P w = .ok n.toNat w := fun k n y c g0 g1 => by
    simp [Instr.sliceBound, asIntOf, g0, g1]
  rcases hlo with ⟨rfl, rfl⟩ | ⟨k, rfl⟩ <;> rcases hhi with ⟨rfl, rfl⟩ | ⟨k', rfl⟩
  · simp [Instr.sliceBounds]
  · simp [Instr.sliceBounds, hb k' j cap _ (by omega) (by omega)]
  · simp [Instr.sliceBounds, hb k i len _ h0 (by omega)]
  · simp [Instr.sliceBounds, hb k' j cap _ (by omega) (by omega), hb k i j.toNat _ h0 (by omega)]

end
end Gv
