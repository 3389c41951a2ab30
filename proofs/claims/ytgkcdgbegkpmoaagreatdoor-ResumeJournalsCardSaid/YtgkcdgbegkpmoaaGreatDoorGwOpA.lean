/- Reading own memory as data; the operations that make something new. -/
import Derived.Test.YtgkcdgbegkpmoaaGreatDoorGwOpN5
import Derived.Laws.MakeOwn
namespace Gv
open Go Go.RowKit
set_option linter.unusedVariables false
set_option linter.unusedSectionVars false
set_option linter.unusedSimpArgs false

section
variable [GlobI] {ok ok' : Nat → Prop} {w w' : World} {μ μ' : Nat → Option Value} {α : Type} {x : α} {σ : List Ob}

theorem mapO_some {β γ : Type} {f : β → Option γ} : ∀ {l : List β} {r : List γ}, mapO f l = some r → r.length = l.length ∧ ∀ (i : Nat) b, l[i]? = some b → ∃ c, r[i]? = some c ∧ f b = some c
  | [], r, h => by simp only [mapO, Option.some.injEq] at h; subst h; simp
  | b :: l, r, h => by
    simp only [mapO] at h
    obtain ⟨c, h1, h⟩ := Option.bind_eq_some_iff.1 h
    obtain ⟨cs, h2, h⟩ := Option.bind_eq_some_iff.1 h
    simp only [Option.some.injEq] at h; subst h
    obtain ⟨g1, g2⟩ := mapO_some h2
    refine ⟨by simp [g1], fun i b' hb => ?_⟩
    cases i with
    | zero => simp at hb; subst hb; exact ⟨c, rfl, h1⟩
    | succ i => simpa using g2 i b' (by simpa using hb)

theorem closeRd_sound (hob : ∀ t ob, σ[t]? = some ob → ∀ v, μ t = some v → ObR ok w μ t ob) : ∀ (d : Nat) {a a' : AV} {v : Value}, closeRd σ d a = some a' →
    (∀ t ∈ ownToks σ d a, ∀ ob, σ[t]? = some ob → ob ≠ .gone → ∀ v b, μ t = some v → blk v = some b → ok b) → RV ok w μ a v → RV ok w μ a' v
  | 0, _, _, _, h, _, _ => by simp [closeRd] at h
  | d + 1, a, a', v, h, hfr, hv => by
    have many : ∀ {l l' : List AV} {vs : List Value}, mapO (closeRd σ d) l = some l' → (∀ t ∈ (l.map (ownToks σ d)).flatten, ∀ ob, σ[t]? = some ob → ob ≠ .gone → ∀ v b, μ t = some v → blk v = some b → ok b) → RVL ok w μ l vs → RVL ok w μ l' vs := by
      intro l
      induction l with
      | nil => intro l' vs h _ hv; simp only [mapO, Option.some.injEq] at h; subst h; exact hv
      | cons b l ih =>
        intro l' vs h hf hv
        simp only [mapO] at h
        obtain ⟨c, h1, h⟩ := Option.bind_eq_some_iff.1 h
        obtain ⟨cs, h2, h⟩ := Option.bind_eq_some_iff.1 h
        simp only [Option.some.injEq] at h; subst h
        obtain ⟨v, r, rfl, g1, g2⟩ := RVL.cons_iff.1 hv
        exact RVL.cons' (closeRd_sound hob d h1 (fun t ht => hf t (by simp [ht])) g1) (ih h2 (fun t ht => hf t (by simp only [List.map_cons, List.flatten_cons, List.mem_append]; exact .inr ht)) g2)
    cases a with
    | dat s x => simp only [closeRd, Option.some.injEq] at h; subst h; exact hv
    | nil => simp only [closeRd, Option.some.injEq] at h; subst h; exact hv
    | any => simp only [closeRd, Option.some.injEq] at h; subst h; exact hv
    | cst c => simp only [closeRd, Option.some.injEq] at h; subst h; exact hv
    | agg l =>
      simp only [closeRd] at h
      obtain ⟨l', h1, h2⟩ := Option.bind_eq_some_iff.1 h
      simp only [Option.some.injEq] at h2; subst h2
      simp only [RV] at hv ⊢
      obtain ⟨cs, e, hr⟩ := hv
      exact ⟨cs, e, many h1 (by simpa only [ownToks] using hfr) hr⟩
    | tup l =>
      simp only [closeRd] at h
      obtain ⟨l', h1, h2⟩ := Option.bind_eq_some_iff.1 h
      simp only [Option.some.injEq] at h2; subst h2
      simp only [RV] at hv ⊢
      obtain ⟨cs, e, hr⟩ := hv
      exact ⟨cs, e, many h1 (by simpa only [ownToks] using hfr) hr⟩
    | cptr l =>
      simp only [closeRd] at h
      obtain ⟨l', h1, h2⟩ := Option.bind_eq_some_iff.1 h
      simp only [Option.some.injEq] at h2; subst h2
      simp only [RV] at hv ⊢
      obtain ⟨b, off, cs, e, hb, hc, hr⟩ := hv
      exact ⟨b, off, cs, e, hb, hc, many h1 (by simpa only [ownToks] using hfr) hr⟩
    | fn f l =>
      simp only [closeRd] at h
      obtain ⟨l', h1, h2⟩ := Option.bind_eq_some_iff.1 h
      simp only [Option.some.injEq] at h2; subst h2
      simp only [RV] at hv ⊢
      obtain ⟨cs, e, hr⟩ := hv
      exact ⟨cs, e, many h1 (by simpa only [ownToks] using hfr) hr⟩
    | ifc T b =>
      simp only [closeRd] at h
      obtain ⟨b', h1, h2⟩ := Option.bind_eq_some_iff.1 h
      simp only [Option.some.injEq] at h2; subst h2
      simp only [RV] at hv ⊢
      obtain ⟨y, e, hr⟩ := hv
      exact ⟨y, e, closeRd_sound hob d h1 (by simpa only [ownToks] using hfr) hr⟩
    | box t off =>
      simp only [closeRd] at h
      simp only [RV] at hv
      obtain ⟨b, hm, rfl⟩ := hv
      split at h
      · rename_i own cells ht
        obtain ⟨l', h1, h2⟩ := Option.bind_eq_some_iff.1 h
        simp only [Option.some.injEq] at h2; subst h2
        obtain ⟨cs, hc, hr⟩ := (hob t _ ht _ hm).cells hm off
        have hsub : ∀ t' ∈ ((cells.drop off).map (ownToks σ d)).flatten, ∀ ob, σ[t']? = some ob → ob ≠ .gone → ∀ v b, μ t' = some v → blk v = some b → ok b := by
          intro t' ht'
          refine hfr t' ?_
          simp only [ownToks, ht, List.mem_cons]
          right
          simp only [List.mem_flatten, List.mem_map] at ht' ⊢
          obtain ⟨l, ⟨c, hc, rfl⟩, hl⟩ := ht'
          exact ⟨_, ⟨c, List.mem_of_mem_drop hc, rfl⟩, hl⟩
        have hb : ok b := hfr t (by simp [ownToks]) _ ht (by simp) _ b hm rfl
        simp only [RV]
        exact ⟨b, off, cs, rfl, hb, hc, many h1 hsub hr⟩
      · cases h
    | row t =>
      simp only [closeRd] at h
      simp only [RV] at hv
      obtain ⟨hm, _⟩ := hv
      split at h
      · rename_i own T e l ht
        simp only [Option.some.injEq] at h; subst h
        obtain ⟨v', h1, ⟨a, c, rfl, h2⟩, _⟩ := hob t _ ht _ hm
        rw [hm] at h1; cases h1
        simp only [RV, Sh.C]
        rcases h2 with ⟨rfl, rfl⟩ | ⟨hc, b, cur, rfl, g1, g2, g3, g4, g5⟩
        · exact ⟨a, 0, rfl, Nat.le_refl _, .inl (by simp)⟩
        · refine ⟨_, c, rfl, g2, .inr ⟨b, 0, rfl, hfr t (by simp [ownToks]) _ ht (by simp) _ b hm (by simp [blk]; omega), fun i x hx => ?_⟩⟩
          obtain ⟨cs, k1, k2, k3⟩ := g5 i x hx
          exact ⟨cs, k1, by rw [Nat.zero_add]; exact k2, k3⟩
      · cases h
    | rptr t i sz off => simp [closeRd] at h

theorem ObR.weak {t : Nat} {o : Ob} (hi : ∀ b, ok b → ok' b) (h : ObR ok w μ t o) : ObR ok' w μ t o := by
  have k : Kp ok ok' w w := ⟨hi, fun _ _ => rfl⟩
  exact h.kp k (fun _ _ e => e) (fun _ _ _ _ => rfl)

theorem RV.weak {a : AV} {v : Value} (hi : ∀ b, ok b → ok' b) (h : RV ok w μ a v) : RV ok' w μ a v := h.kp ⟨hi, fun _ _ => rfl⟩ (fun _ _ e => e)

/-- Frozen tokens are not own. -/
theorem freeze_get (σ : List Ob) (l : List Nat) (t : Nat) : (freeze σ l)[t]? = if t ∈ l then (σ[t]?).map frz else σ[t]? := by
  induction l generalizing σ with
  | nil => simp [freeze]
  | cons s r ih =>
    simp only [freeze, ih, List.getElem?_modify, List.mem_cons]
    by_cases h1 : t = s
    · subst h1
      by_cases h2 : t ∈ r
      · simp only [h2, if_true, or_true]
        cases σ[t]? with
        | none => rfl
        | some o => cases o <;> rfl
      · simp only [h2, if_false, if_true, true_or]
        rfl
    · have h3 : ¬ s = t := fun e => h1 e.symm
      by_cases h2 : t ∈ r <;> simp [h1, h2, h3] <;> (cases σ[t]? <;> rfl)

theorem bytes_empty {s : ByteArray} (h : s.size = 0) : s = (⟨#[]⟩ : ByteArray) := by
  obtain ⟨⟨l⟩⟩ := s
  cases l with
  | nil => rfl
  | cons a l => simp [ByteArray.size] at h

theorem ownToks_freeze (σ : List Ob) (l : List Nat) : ∀ (d : Nat) (a : AV), ownToks (freeze σ l) d a = ownToks σ d a
  | 0, _ => rfl
  | d + 1, a => by
    have ih : ownToks (freeze σ l) d = ownToks σ d := funext (ownToks_freeze σ l d)
    cases a <;> simp only [ownToks, ih]
    rename_i t off
    rw [freeze_get]
    by_cases hm : t ∈ l
    · rw [if_pos hm]
      cases σ[t]? with
      | none => rfl
      | some o => cases o <;> rfl
    · rw [if_neg hm]

theorem freeze_own {σ : List Ob} {l : List Nat} {t : Nat} (ht : t ∈ l) {ob : Ob} (h : (freeze σ l)[t]? = some ob) : isOwn ob = false := by
  rw [freeze_get, if_pos ht] at h
  obtain ⟨o, _, rfl⟩ := Option.map_eq_some_iff.1 h
  exact frz_own o

theorem ObR.frozen_ok {t : Nat} {ob : Ob} (h : ObR ok w μ t ob) (hi : isOwn ob = false) (hg : ob ≠ .gone) {v : Value} {b : Nat} (hm : μ t = some v) (hb : blk v = some b) : ok b := by
  cases ob with
  | gone => exact absurd rfl hg
  | box own cells => obtain ⟨b', vs', T, h1, h2, h3, h4⟩ := h; rw [hm] at h1; cases h1; simp [blk] at hb; subst hb; exact h4 (by simpa [isOwn] using hi)
  | row own T e' l => obtain ⟨v', h1, h2, h3⟩ := h; rw [hm] at h1; cases h1; exact h3 (by simpa [isOwn] using hi) b hb

theorem zok_sound : ∀ {e : Sh} {cs r : List Value}, zok e cs = some r → ∃ zs, cs = zs ++ r ∧ Sh.C ok w e e.dflt zs := by
  intro e
  induction e with
  | int k =>
    intro cs r h
    simp only [zok] at h
    split at h
    · split at h
      · rename_i hk
        simp only [Bool.and_eq_true, beq_iff_eq] at hk
        cases h
        obtain ⟨rfl, rfl⟩ := hk
        exact ⟨[_], rfl, by simp [Sh.C, Sh.dflt]⟩
      · cases h
    · cases h
  | bool =>
    intro cs r h
    simp only [zok] at h
    split at h
    · rename_i b _
      cases b
      · simp at h; subst h; exact ⟨[_], rfl, by simp [Sh.C, Sh.dflt]⟩
      · simp at h
    · cases h
  | str =>
    intro cs r h
    simp only [zok] at h
    split at h
    · split at h
      · rename_i hs
        cases h
        have := bytes_empty (beq_iff_eq.1 hs); subst this
        exact ⟨[_], rfl, by simp [Sh.C, Sh.dflt]⟩
      · cases h
    · cases h
  | sl e ih =>
    intro cs r h
    simp only [zok] at h
    split at h
    · split at h
      · rename_i hs
        cases h
        have := beq_iff_eq.1 hs; subst this
        refine ⟨[_], rfl, ?_⟩
        simp only [Sh.C, Sh.dflt]
        exact ⟨_, _, rfl, Nat.zero_le _, .inl (by simp)⟩
      · cases h
    · cases h
  | pr a b iha ihb =>
    intro cs r h
    simp only [zok] at h
    obtain ⟨r1, h1, h2⟩ := Option.bind_eq_some_iff.1 h
    obtain ⟨z1, rfl, c1⟩ := iha h1
    obtain ⟨z2, rfl, c2⟩ := ihb h2
    exact ⟨z1 ++ z2, by simp, by simp only [Sh.C, Sh.dflt]; exact ⟨z1, z2, rfl, c1, c2⟩⟩
  | node =>
    intro cs r h
    simp only [zok] at h
    split at h
    · split at h
      · rename_i hs
        simp only [Bool.and_eq_true, beq_iff_eq] at hs
        cases h
        obtain ⟨⟨⟨⟨⟨⟨⟨rfl, rfl⟩, rfl⟩, rfl⟩, rfl⟩, rfl⟩, hs⟩, rfl⟩ := hs
        have := bytes_empty hs; subst this
        refine ⟨[_, _, _, _, _], rfl, ?_⟩
        simp only [Sh.C, Sh.dflt]
        exact .nil ..
      · cases h
    · cases h

structure ElOk (P : Program) (E : TypeId) (e : Sh) (i : ElI) : Prop where
  ex : ∃ ti z, P.info? E = some ti ∧ ti.zero = some z ∧ ti.size = e.size ∧ ti.bytes = i.bytes ∧ z.cells.size = e.size ∧ ∀ (ok : Nat → Prop) (w : World), Sh.C ok w e e.dflt z.cells.toList
  pos : 0 < e.size
  bpos : 0 < i.bytes

theorem elOk_spec {P : Program} {E : TypeId} {e : Sh} {i : ElI} (h : elOk P E e = some i) : ElOk P E e i := by
  unfold elOk at h
  obtain ⟨ti, h1, h⟩ := Option.bind_eq_some_iff.1 h
  obtain ⟨z, h2, h⟩ := Option.bind_eq_some_iff.1 h
  split at h
  · rename_i hc
    simp only [Bool.and_eq_true, beq_iff_eq, decide_eq_true_eq] at hc
    split at h
    · rename_i hz
      cases h
      refine ⟨⟨ti, z, h1, h2, hc.1.1.1, rfl, hc.1.1.2, fun ok w => ?_⟩, hc.1.2, hc.2⟩
      obtain ⟨zs, e1, e2⟩ := zok_sound (ok := ok) (w := w) hz
      rw [List.append_nil] at e1
      rw [e1]; exact e2
    · cases h
  · cases h


/-- A new token: where it lies, what it holds. -/
structure NewOk (P : Program) (ok : Nat → Prop) (w : World) (μ : Nat → Option Value) (n : Nat) (ob : Ob) (s : Sem Next) (v : Value) (w' : World) : Prop where
  run : s.run P w = .ok (.value v) w'
  below : Below w.heap.size w w'
  blk : ∀ b, blk v = some b → w.heap.size ≤ b ∧ b < w'.heap.size
  own : isOwn ob = true
  ob : ∀ (ok' : Nat → Prop) (μ' : Nat → Option Value), Kp ok ok' w w' → (∀ t u, μ t = some u → μ' t = some u) → μ' n = some v → ObR ok' w' μ' n ob

theorem below_alloc (w : World) (o : Obj) : Below w.heap.size w (w.alloc o) := (Below.refl _ _).alloc (Nat.le_refl _) o

theorem heap_new (w : World) (o : Obj) : (w.alloc o).heap[w.heap.size]? = some o := by
  show (w.heap.push o)[w.heap.size]? = some o
  simp

theorem box_new {P : Program} {T : TypeId} {cells : List AV} {vs : Array Value} {s : Sem Next} {n : Nat} (hr : RVL ok w μ cells vs.toList)
    (hrun : s.run P w = .ok (.value (.pointer (some ⟨w.heap.size, 0, none⟩))) (w.alloc (.cells vs T (0, 0)))) :
    NewOk P ok w μ n (.box true cells) s (.pointer (some ⟨w.heap.size, 0, none⟩)) (w.alloc (.cells vs T (0, 0))) where
  run := hrun
  below := below_alloc w _
  blk b hb := by simp only [Gv.blk, Option.some.injEq] at hb; subst hb; exact ⟨Nat.le_refl _, by show _ < (w.heap.push _).size; simp⟩
  own := rfl
  ob ok' μ' k m hm := ⟨w.heap.size, vs, T, hm, heap_new w _, hr.kp k m, fun e => by cases e⟩

theorem row_new {P : Program} {T : TypeId} {e : Sh} {l : List e.T} {vs : Array Value} {s : Sem Next} {n c : Nat} (hc : l.length ≤ c) (hm : c ≤ maxLen) (hs : vs.size = c * e.size)
    (hl : ∀ (i : Nat) x, l[i]? = some x → ∃ cs : List Value, cs.length = e.size ∧ (∀ (j : Nat) (v : Value), cs[j]? = some v → vs[i * e.size + j]? = some v) ∧ Sh.C ok w e x cs)
    (hrun : s.run P w = .ok (.value (.slice (some ⟨w.heap.size, 0, none⟩) l.length c)) (w.alloc (.cells vs T (0, 0)))) :
    NewOk P ok w μ n (.row true T e l) s (.slice (some ⟨w.heap.size, 0, none⟩) l.length c) (w.alloc (.cells vs T (0, 0))) where
  run := hrun
  below := below_alloc w _
  blk b hb := by
    simp only [Gv.blk] at hb
    split at hb
    · cases hb
    · simp only [Option.some.injEq] at hb; subst hb; exact ⟨Nat.le_refl _, by show _ < (w.heap.push _).size; simp⟩
  own := rfl
  ob ok' μ' k m hm' := by
    refine ⟨_, hm', ⟨_, c, rfl, ?_⟩, fun e => by cases e⟩
    by_cases h0 : c = 0
    · exact .inl ⟨h0, List.eq_nil_of_length_eq_zero (by omega)⟩
    · refine .inr ⟨by omega, w.heap.size, vs, rfl, heap_new w _, hc, hm, hs, fun i x hx => ?_⟩
      obtain ⟨cs, h1, h2, h3⟩ := hl i x hx
      refine ⟨cs, h1, fun j v hv => ?_, Sh.C_kp k h3⟩
      simp only [World.cell?, heap_new]
      simpa using h2 j v hv

theorem madeCells_get (z : Array Value) (n j : Nat) (hj : j < n) (hz : 0 < z.size) : (madeCells z n)[j]? = z[j % z.size]? := by
  have : j % z.size < z.size := Nat.mod_lt _ hz
  simp [madeCells, hj, this]

theorem fill_seq (size : Nat) : ∀ (ps : List Value) (k : Nat) (cells : Array Value), (k + ps.length) * size ≤ cells.size → (∀ v ∈ ps, v.cells.size = size) →
    ∃ cells' : Array Value, Instr.fill (fun i => some (i * size, size)) cells ((List.range' k ps.length).zip ps) = some cells' ∧ cells'.size = cells.size ∧ (∀ (j : Nat), j < k * size → cells'[j]? = cells[j]?) ∧
      ∀ (i : Nat) (v : Value), ps[i]? = some v → ∀ (j : Nat) (c : Value), v.cells.toList[j]? = some c → cells'[(k + i) * size + j]? = some c
  | [], k, cells, _, _ => ⟨cells, by simp [Instr.fill], rfl, fun _ _ => rfl, fun i v h => by simp at h⟩
  | v :: ps, k, cells, hs, hv => by
    have hvs : v.cells.size = size := hv v (by simp)
    simp only [List.length_cons] at hs
    have hk : k * size + size ≤ cells.size := by
      have : (k + 1) * size ≤ (k + (ps.length + 1)) * size := Nat.mul_le_mul_right _ (by omega)
      rw [Nat.add_mul, Nat.one_mul] at this; omega
    have e := foldl_set_toList v.cells.toList 0 (k * size) cells (by simp [hvs]; omega)
    simp only [Nat.add_zero, Array.length_toList, hvs] at e
    obtain ⟨c', h1, h2, h3, h4⟩ := fill_seq size ps (k + 1) ((v.cells.toList.zipIdx 0).foldl (fun cs (p : Value × Nat) => cs.setIfInBounds (k * size + p.2) p.1) cells)
      (by rw [← Array.length_toList, e]; simp [hvs]; have := hs; rw [show k + 1 + ps.length = k + (ps.length + 1) by omega]; omega) (fun v hv' => hv v (by simp [hv']))
    have hget : ∀ (j : Nat), ((v.cells.toList.zipIdx 0).foldl (fun cs (p : Value × Nat) => cs.setIfInBounds (k * size + p.2) p.1) cells)[j]? = (cells.toList.take (k * size) ++ v.cells.toList ++ cells.toList.drop (k * size + size))[j]? := by
      intro j; rw [← e, Array.getElem?_toList]
    refine ⟨c', ?_, ?_, ?_, ?_⟩
    · simp only [List.length_cons, List.range'_succ, List.zip_cons_cons, Instr.fill, hvs]
      rw [if_neg (by simp; omega), ← Array.foldl_toList, Array.toList_zipIdx]
      exact h1
    · rw [h2, ← Array.length_toList, e]; simp [hvs]; omega
    · intro j hj
      rw [h3 j (by rw [Nat.add_mul]; omega), hget, List.append_assoc, List.getElem?_append_left (by simp; omega), List.getElem?_take, if_pos hj, Array.getElem?_toList]
    · intro i u hu j c hc
      cases i with
      | zero =>
        simp at hu; subst hu
        have hj : j < size := by
          rcases Nat.lt_or_ge j v.cells.toList.length with h | h
          · simpa [hvs] using h
          · rw [List.getElem?_eq_none h] at hc; cases hc
        rw [h3 _ (by rw [Nat.add_zero, Nat.add_mul]; omega), hget, List.append_assoc, List.getElem?_append_right (by simp; omega), List.getElem?_append_left (by simp [hvs]; omega)]
        simp only [List.length_take, Array.length_toList, Nat.add_zero]
        rw [show k * size + j - min (k * size) cells.size = j by omega]
        exact hc
      | succ i =>
        have := h4 i u (by simpa using hu) j c hc
        rw [show k + (i + 1) = k + 1 + i by omega]; exact this

theorem zip_fst_snd {β γ δ : Type} (f : γ → δ) : ∀ (l : List (β × γ)), l.map (fun p => (p.1, f p.2)) = (l.map (·.1)).zip (l.map fun p => f p.2)
  | [] => rfl
  | p :: l => by simp [zip_fst_snd f l]

/-- The operations that make something new. -/
theorem opA_sound {C : Cfg} {st : St} {ρ : Operand → AV} {o : Oper} {K : AV → St → Option α} (h : opA C st ρ o K = some x) :
    ∃ toks av ob, K av ⟨st.slots, freeze st.σ toks ++ [ob]⟩ = some x ∧ ∀ (ok : Nat → Prop) (w : World) (μ : Nat → Option Value) (ev : Operand → Value) (hρ : ∀ y, RV ok w μ (ρ y) (ev y))
      (hob : ∀ t ob, (freeze st.σ toks)[t]? = some ob → ∀ v, μ t = some v → ObR ok w μ t ob),
      ∃ v w', NewOk C.P ok w μ st.σ.length ob (execOp ev o) v w' ∧ ∀ (ok' : Nat → Prop) (μ' : Nat → Option Value), μ' st.σ.length = some v → RV ok' w' μ' av v := by
  obtain ⟨dst, op, ty, pos, after, guard⟩ := o
  cases op <;> simp only [opA] at h <;> try (cases h; done)
  case alloc T =>
    obtain ⟨i, hi, h⟩ := Option.bind_eq_some_iff.1 h
    obtain ⟨z, hz, h⟩ := Option.bind_eq_some_iff.1 h
    refine ⟨[], _, _, h, fun ok w μ ev hρ hob => ⟨_, _, box_new (T := T) (vs := z.cells) (RVL.ofVals _) ?_, fun ok' μ' hm => ?_⟩⟩
    · simp [execOp, Instr.alloc, zeroValue, typeInfo, hi, hz, newVar, newRow]
    · simp only [RV]; exact ⟨_, hm, rfl⟩
  case box T y =>
    obtain ⟨cells, hc, h⟩ := Option.bind_eq_some_iff.1 h
    obtain ⟨k, hk, h⟩ := Option.bind_eq_some_iff.1 h
    split at h
    · refine ⟨[], _, _, h, fun ok w μ ev hρ hob => ⟨_, _, box_new (T := T) (vs := (ev y).cells) (avCells_rv hc (hρ y)) ?_, fun ok' μ' hm => ?_⟩⟩
      · simp [execOp, Instr.box, newVar, newRow]
      · simp only [RV]; exact ⟨_, hm, rfl⟩
    · cases h
  case makeSlice T a b =>
    obtain ⟨E, hE, h⟩ := Option.bind_eq_some_iff.1 h
    obtain ⟨e, he, h⟩ := Option.bind_eq_some_iff.1 h
    obtain ⟨i, hi, h⟩ := Option.bind_eq_some_iff.1 h
    have hel := elOk_spec hi
    obtain ⟨⟨ti, z, g1, g2, g3, g4, g5, g6⟩, hp, hbp⟩ := hel
    split at h
    · rename_i k n k' m ea eb
      rcases cond_some h with ⟨hb, hK⟩ | ⟨_, h⟩
      · simp only [Bool.and_eq_true, decide_eq_true_eq, fits] at hb
        obtain ⟨n, rfl⟩ : ∃ n' : Int, n' = n := ⟨n, rfl⟩
        obtain ⟨m, rfl⟩ : ∃ n' : Int, n' = m := ⟨m, rfl⟩
        have q1 : (0 : Int) ≤ n := hb.1
        have q2 : n ≤ m := hb.2.1
        have q3 : m.toNat * i.bytes ≤ 140737488355328 := hb.2.2
        have q4 : m.toNat ≤ 140737488355328 := Nat.le_trans (Nat.le_mul_of_pos_right _ hbp) q3
        refine ⟨[], _, _, hK, fun ok w μ ev hρ hob => ?_⟩
        have ha := hρ a; rw [ea] at ha; have ha := ha.int
        have hb' := hρ b; rw [eb] at hb'; have hb' := hb'.int
        have hbytes : (ti.bytes : Int) * m ≤ 281474976710656 := by
          have e : m = (m.toNat : Int) := by omega
          rw [e, g4, ← Int.natCast_mul, Nat.mul_comm]
          omega
        have hrun := run_make (P := C.P) w T E ti z (elemT_spec hE) g1 g2 k k' n m q1 q2 hbytes (by omega)
        rw [g3] at hrun
        have hlen : (List.replicate n.toNat e.dflt).length = n.toNat := by simp
        refine ⟨_, _, row_new (c := m.toNat) (vs := madeCells z.cells (m.toNat * e.size)) (T := E) (by rw [hlen]; omega) (by simp only [maxLen]; omega) (size_madeCells _ _) (fun q x hx => ?_) ?_, fun ok' μ' hm => ?_⟩
        · have hq : q < n.toNat ∧ x = e.dflt := by
            rw [List.getElem?_replicate] at hx
            split at hx
            · rename_i hq; cases hx; exact ⟨hq, rfl⟩
            · cases hx
          obtain ⟨hq, rfl⟩ := hq
          refine ⟨z.cells.toList, by simpa using g5, fun j v hv => ?_, g6 _ _⟩
          have hj : j < e.size := by
            rw [← g5]
            rcases Nat.lt_or_ge j z.cells.size with h | h
            · exact h
            · rw [List.getElem?_eq_none (by simpa using h)] at hv; cases hv
          have hlt : q * e.size + j < m.toNat * e.size := by
            have : (q + 1) * e.size ≤ m.toNat * e.size := Nat.mul_le_mul_right _ (by omega)
            rw [Nat.add_mul, Nat.one_mul] at this
            omega
          rw [madeCells_get _ _ _ hlt (by omega), g5, Nat.mul_comm q, Nat.mul_add_mod, Nat.mod_eq_of_lt hj]
          simpa using hv
        · simp only [execOp, ha, hb', Sem.run_bind, hrun, Result.andThen_ok, Sem.run_pure, hlen]
        · simp only [RV]; exact ⟨hm, _, _, _, rfl⟩
      · cases h
    · cases h
  case buildSlice T len parts =>
    obtain ⟨E, hE, h⟩ := Option.bind_eq_some_iff.1 h
    obtain ⟨e, he, h⟩ := Option.bind_eq_some_iff.1 h
    obtain ⟨i, hi, h⟩ := Option.bind_eq_some_iff.1 h
    obtain ⟨⟨ti, z, g1, g2, g3, g4, g5, g6⟩, hp, hbp⟩ := elOk_spec hi
    split at h
    · rename_i hc
      simp only [Bool.and_eq_true, beq_iff_eq, decide_eq_true_eq] at hc
      obtain ⟨l, hl, hK⟩ := Option.bind_eq_some_iff.1 h
      refine ⟨(parts.toList.map fun (p : Nat × Operand) => ownToks st.σ 6 (ρ p.2)).flatten, _, _, hK, fun ok w μ ev hρ hob => ?_⟩
      obtain ⟨hl1, hl2⟩ := mapO_some hl
      have hplen : parts.toList.length = len := by have := congrArg List.length hc.1; simpa using this
      have hllen : l.length = len := by rw [hl1, hplen]
      -- each part's cells
      have hpart : ∀ (q : Nat) p, parts.toList[q]? = some p → ∃ y, l[q]? = some y ∧ Sh.C ok w e y (ev p.2).cells.toList := by
        intro q p hq
        obtain ⟨y, hy, hf⟩ := hl2 q p hq
        obtain ⟨a, k1, hf⟩ := Option.bind_eq_some_iff.1 hf
        obtain ⟨cs, k2, hf⟩ := Option.bind_eq_some_iff.1 hf
        obtain ⟨yr, k3, hf⟩ := Option.bind_eq_some_iff.1 hf
        split at hf
        · rename_i hemp
          cases hf
          have hrv : RV ok w μ a (ev p.2) := by
            refine closeRd_sound hob 6 k1 (fun t ht ob hob1 hg v b hv hb => ?_) (hρ p.2)
            rw [ownToks_freeze] at ht
            have hmem : t ∈ ((parts.toList.map fun (p : Nat × Operand) => ownToks st.σ 6 (ρ p.2)).flatten) := by
              rw [List.mem_flatten]
              exact ⟨_, List.mem_map.2 ⟨p, List.mem_of_getElem? hq, rfl⟩, ht⟩
            exact (hob t ob hob1 v hv).frozen_ok (freeze_own hmem hob1) hg hv hb
          obtain ⟨v1, v2, e1, e2, e3⟩ := ofCells_rv (s := e) (x := yr.1) (r := yr.2) k3 (avCells_rv k2 hrv)
          have : yr.2 = [] := by simpa using hemp
          rw [this] at e3
          have := RVL.nil_iff.1 e3; subst this
          rw [List.append_nil] at e1
          exact ⟨yr.1, hy, by rw [e1]; exact e2⟩
        · cases hf
      have hvals : ∀ v ∈ (parts.toList.map fun p => ev p.2), v.cells.size = e.size := by
        intro v hv
        obtain ⟨p, hp1, rfl⟩ := List.mem_map.1 hv
        obtain ⟨q, hq⟩ := List.getElem?_of_mem hp1
        obtain ⟨y, _, hy⟩ := hpart q p hq
        have := Sh.C_len hy
        simpa using this
      have hu := elemT_spec hE
      have hsz : szT C.P E = some e.size := by simp [szT, g1, g3]
      obtain ⟨cells', f1, f2, f3, f4⟩ := fill_seq e.size (parts.toList.map fun p => ev p.2) 0 ((Array.range (len * e.size)).map ((if len * e.size = 0 then #[] else z.cells)[· % (if len * e.size = 0 then #[] else z.cells).size]!)) (by simp [← hplen]) hvals
      have hparts : (parts.map fun (i, x) => (i, ev x)).toList = (List.range' 0 (parts.toList.map fun p => ev p.2).length).zip (parts.toList.map fun p => ev p.2) := by
        rw [Array.toList_map, zip_fst_snd ev parts.toList, hc.1, List.length_map, hplen, List.range_eq_range']
      have hrun : (Instr.buildSlice T len (parts.map fun (i, x) => (i, ev x))).run C.P w = .ok (.slice (some ⟨w.heap.size, 0, none⟩) len len) (w.alloc (.cells cells' E (0, 0))) := by
        have hbig : ¬ (2 ^ 24 < len * e.size) := by have := hc.2; omega
        simp only [Instr.buildSlice, Sem.run_bind, run_underlying hu, Result.andThen_ok, run_sizeOf' hsz, hparts]
        rw [if_neg (show ¬ (len * e.size > 2 ^ 24) from hbig)]
        by_cases h0 : len * e.size = 0
        · simp only [if_pos h0] at f1 ⊢
          simp only [Sem.run_bind, Sem.run_pure, Result.andThen_ok, f1, newRow, run_newObj]
          rfl
        · simp only [if_neg h0] at f1 ⊢
          simp only [zeroValue, typeInfo, Sem.run_bind, run_program, Sem.run_pure, Result.andThen_ok, g1, g2, f1, newRow, run_newObj]
          rfl
      have hlen' : len ≤ maxLen := by
        have h1 : len ≤ len * e.size := Nat.le_mul_of_pos_right _ hp
        have := hc.2; simp only [maxLen]; omega
      subst hllen
      refine ⟨_, _, row_new (c := l.length) (vs := cells') (T := E) (Nat.le_refl _) hlen' (by rw [f2]; simp) (fun q y hq => ?_) ?_, fun ok' μ' hm => ?_⟩
      · have hlt : q < parts.toList.length := by
          rw [hplen]
          rcases Nat.lt_or_ge q l.length with h | h
          · exact h
          · rw [List.getElem?_eq_none h] at hq; cases hq
        have hpq : parts.toList[q]? = some (parts.toList[q]) := List.getElem?_eq_getElem hlt
        obtain ⟨y', hy, hC⟩ := hpart q _ hpq
        rw [hq] at hy; cases hy
        refine ⟨_, Sh.C_len hC, fun j v hv => ?_, hC⟩
        have := f4 q (ev parts.toList[q].2) (by rw [List.getElem?_map, hpq]; rfl) j v hv
        simpa using this
      · simp only [execOp, Sem.run_bind, hrun, Result.andThen_ok, Sem.run_pure]
      · simp only [RV]; exact ⟨hm, _, _, _, rfl⟩
    · cases h

end
end Gv
