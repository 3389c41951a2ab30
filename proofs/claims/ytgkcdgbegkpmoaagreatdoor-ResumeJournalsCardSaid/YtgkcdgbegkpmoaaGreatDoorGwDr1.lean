/- Regions of drawn order: what comes before what. -/
import Derived.Test.YtgkcdgbegkpmoaaGreatDoorGwReg3
import Derived.Test.YtgkcdgbegkpmoaaGreatDoorGwNat
import Derived.Orders
namespace Gv
open Go Go.RowKit
set_option linter.unusedVariables false
set_option linter.unusedSectionVars false
set_option linter.unusedSimpArgs false

section
variable [GlobI] {α : Type} {x : α} {P : Program} {Q : Exit → Act → World → Prop} {w : World} {a : Act}
variable {ops : Array Oper}

theorem one_shift_bit (k j : Nat) : (1 <<< k).testBit j = decide (k = j) := by
  rw [Nat.one_shiftLeft, Nat.testBit_two_pow]

theorem depsM_bit {o : Oper} {j : Nat} : (depsM o).testBit j = true ↔ ∃ e ∈ o.after, Region.binds .any e = true ∧ e.on = j := by
  have key : ∀ (l : List Edge) (m : Nat), (l.foldl (fun m e => if Region.binds .any e then m ||| (1 <<< e.on) else m) m).testBit j = true ↔ m.testBit j = true ∨ ∃ e ∈ l, Region.binds .any e = true ∧ e.on = j := by
    intro l
    induction l with
    | nil => intro m; simp
    | cons e l ih =>
      intro m
      rw [List.foldl_cons, ih]
      by_cases hb : Region.binds .any e = true
      · simp only [hb, if_true, Nat.testBit_or, Bool.or_eq_true, one_shift_bit, decide_eq_true_eq, List.mem_cons]
        constructor
        · rintro ((h | h) | ⟨e', h1, h2⟩)
          · exact .inl h
          · exact .inr ⟨e, .inl rfl, hb, h⟩
          · exact .inr ⟨e', .inr h1, h2⟩
        · rintro (h | ⟨e', rfl | h1, h2, h3⟩)
          · exact .inl (.inl h)
          · exact .inl (.inr h3)
          · exact .inr ⟨e', h1, h2, h3⟩
      · simp only [hb, List.mem_cons]
        constructor
        · rintro (h | ⟨e', h1, h2⟩)
          · exact .inl h
          · exact .inr ⟨e', .inr h1, h2⟩
        · rintro (h | ⟨e', rfl | h1, h2, h3⟩)
          · exact .inl h
          · exact absurd h2 hb
          · exact .inr ⟨e', h1, h2, h3⟩
  rw [depsM, key]
  simp

/-- A set of operations with all that comes before them. -/
def Down (ops : Array Oper) (L : Nat → Prop) : Prop := ∀ (j : Nat) o, ops[j]? = some o → L j → ∀ i, (depsM o).testBit i = true → L i

def Reach (ops : Array Oper) (o : Oper) (i : Nat) : Prop := ∀ L : Nat → Prop, Down ops L → (∀ j, (depsM o).testBit j = true → L j) → L i

theorem closes_spec : ∀ (r : List Oper) (acc : List Nat) (pre : List Oper), ops.toList = pre ++ r → acc.length = pre.length → (∀ (k : Nat) o s, ops[k]? = some o → acc[k]? = some s → ∀ i, s.testBit i = true → Reach ops o i) →
    (closes r acc).length = ops.size ∧ ∀ (k : Nat) o s, ops[k]? = some o → (closes r acc)[k]? = some s → ∀ i, s.testBit i = true → Reach ops o i
  | [], acc, pre, h, hl, hr => by
    simp only [closes]
    exact ⟨by rw [hl]; have := congrArg List.length h; simp at this; omega, hr⟩
  | o :: r, acc, pre, h, hl, hr => by
    simp only [closes]
    have ho : ops[pre.length]? = some o := by rw [← Array.getElem?_toList, h, List.getElem?_append_right (Nat.le_refl _)]; simp
    refine closes_spec r _ (pre ++ [o]) (by rw [h]; simp) (by simp [hl]) (fun k o' s hk hs i hi => ?_)
    rcases Nat.lt_or_ge k acc.length with hlt | hge
    · rw [List.getElem?_append_left hlt] at hs
      exact hr k o' s hk hs i hi
    · rw [List.getElem?_append_right hge] at hs
      cases hz : k - acc.length with
      | succ n => rw [hz] at hs; simp at hs
      | zero =>
        have hk' : k = pre.length := by omega
        subst hk'
        rw [ho] at hk; cases hk
        rw [hz] at hs
        simp only [List.getElem?_cons_zero, Option.some.injEq] at hs
        subst hs
        have key : ∀ (l : List Nat) (s : Nat), (∀ i ∈ l, i < acc.length) → (∀ i, s.testBit i = true → Reach ops o i) → ∀ i, (l.foldl (fun s i => if s.testBit i then s ||| acc.getD i 0 else s) s).testBit i = true → Reach ops o i := by
          intro l
          induction l with
          | nil => intro s _ hs i hi; exact hs i hi
          | cons q l ih =>
            intro s hlt hs i hi
            rw [List.foldl_cons] at hi
            refine ih _ (fun i hi => hlt i (List.mem_cons_of_mem _ hi)) (fun i hi => ?_) i hi
            split at hi
            · rename_i hq
              rw [Nat.testBit_or, Bool.or_eq_true] at hi
              rcases hi with hi | hi
              · exact hs i hi
              · intro L hL hd
                have hqL := hs q hq L hL hd
                have hql := hlt q (by simp)
                have hqo : ops[q]? = some (ops[q]'(by have := congrArg List.length h; simp at this; omega)) := Array.getElem?_eq_getElem _
                have hqs : acc[q]? = some (acc.getD q 0) := getD_of_lt hql
                exact hr q _ _ hqo hqs i hi L hL (fun j hj => hL q _ hqo hqL j hj)
            · exact hs i hi
        exact key _ _ (fun i hi => by simpa using hi) (fun i hi => fun L _ hd => hd i hi) i hi

/-- All that lies behind a place comes behind all that lies before it. -/
def Cut (ops : Array Oper) (m : Nat) : Prop := ∀ (k : Nat) o, m ≤ k → ops[k]? = some o → ∀ i, i < m → Reach ops o i

theorem cutAt_spec {cl : List Nat} (hl : cl.length = ops.size) (hr : ∀ (k : Nat) o s, ops[k]? = some o → cl[k]? = some s → ∀ i, s.testBit i = true → Reach ops o i) {m : Nat} (h : cutAt cl m = true) : Cut ops m := by
  intro k o hmk ho i hi
  have hk : k < cl.length := by rw [hl]; exact (Array.getElem?_eq_some_iff.1 ho).1
  have hs : cl[k]? = some cl[k] := List.getElem?_eq_getElem hk
  refine hr k o _ ho hs i ?_
  simp only [cutAt, List.all_eq_true] at h
  have hm : cl[k] ∈ cl.drop m := by
    refine List.mem_of_getElem? (i := k - m) ?_
    rw [List.getElem?_drop, show m + (k - m) = k by omega]; exact hs
  have := h _ hm
  simp only [beq_iff_eq] at this
  have hb := congrArg (fun n => Nat.testBit n i) this
  simp only [Nat.testBit_and, Nat.testBit_two_pow_sub_one, hi, decide_true, Bool.and_true] at hb
  exact hb

/-- Blocks, one behind the other. -/
def BOk (ops : Array Oper) : Nat → List (List Oper) → Prop
  | _, [] => True
  | m, b :: bs => Seg ops m b ∧ Cut ops (m + b.length) ∧ BOk ops (m + b.length) bs

theorem blocks_spec {cl : List Nat} (hl : cl.length = ops.size) (hr : ∀ (k : Nat) o s, ops[k]? = some o → cl[k]? = some s → ∀ i, s.testBit i = true → Reach ops o i) :
    ∀ (r cur : List Oper) (m m0 : Nat), m = m0 + cur.length → ops.size = m + r.length → Seg ops m0 (cur ++ r) → BOk ops m0 (blocks cl m r cur) ∧ (blocks cl m r cur).flatten = cur ++ r
  | [], cur, m, m0, hm, hn, hs => by
    simp only [blocks]
    cases cur with
    | nil => simp [BOk]
    | cons o cur =>
      simp only [List.isEmpty_cons, Bool.false_eq_true, if_false]
      refine ⟨⟨by simpa using hs, fun k o' hk ho => ?_, trivial⟩, by simp⟩
      have := (Array.getElem?_eq_some_iff.1 ho).1
      simp at hn hm hk; omega
  | o :: r, cur, m, m0, hm, hn, hs => by
    simp only [blocks]
    have hs' : Seg ops m0 ((cur ++ [o]) ++ r) := by simpa using hs
    split
    · rename_i hc
      obtain ⟨h1, h2⟩ := blocks_spec hl hr r [] (m + 1) (m + 1) (by simp) (by simp at hn; omega) (by have := hs'.right; rw [show m0 + (cur ++ [o]).length = m + 1 by simp; omega] at this; simpa using this)
      have hcut := cutAt_spec hl hr hc
      have e : m0 + (cur ++ [o]).length = m + 1 := by simp; omega
      exact ⟨⟨hs'.left, by rw [e]; exact hcut, by rw [e]; exact h1⟩, by simp [h2]⟩
    · obtain ⟨h1, h2⟩ := blocks_spec hl hr r (cur ++ [o]) (m + 1) m0 (by simp; omega) (by simp at hn; omega) hs'
      exact ⟨h1, by simp [h2]⟩

theorem back_spec : ∀ (r : List Oper) (m : Nat), back m r = true → ∀ (k : Nat) o, r[k]? = some o → ∀ j, (depsM o).testBit j = true → j < m + k
  | [], m, _, k, o, h => by simp at h
  | q :: r, m, hb, k, o, h => by
    simp only [back, Bool.and_eq_true, decide_eq_true_eq] at hb
    intro j hj
    cases k with
    | zero =>
      simp at h; subst h
      rcases Nat.lt_or_ge j m with hlt | hge
      · omega
      · have := Nat.testBit_lt_two_pow (Nat.lt_of_lt_of_le hb.1 (Nat.pow_le_pow_right (by omega) hge))
        rw [hj] at this; cases this
    | succ k =>
      have := back_spec r (m + 1) hb.2 k o (by simpa using h) j hj
      omega

/-- What has been done, by what has not. -/
structure Lst (ops : Array Oper) (m len : Nat) (U : List Nat) (listed : Array Bool) : Prop where
  size : listed.size = ops.size
  fit : m + len ≤ ops.size
  val : ∀ i, i < ops.size → listed[i]? = some (decide (i < m + len ∧ i ∉ U))
  sub : ∀ i ∈ U, m ≤ i ∧ i < m + len
  down : Down ops fun i => listed.getD i false = true

theorem Lst.getD {m len : Nat} {U : List Nat} {listed : Array Bool} (h : Lst ops m len U listed) {i : Nat} (hi : i < ops.size) (d : Bool) : listed.getD i d = decide (i < m + len ∧ i ∉ U) := by
  rw [Array.getD_eq_getD_getElem?, h.val i hi]; rfl

theorem Lst.ready {m len : Nat} {U : List Nat} {listed : Array Bool} (h : Lst ops m len U listed) (hU : U ≠ []) (hc : Cut ops (m + len)) {j : Nat} (hj : j ∈ Region.ready .any ops listed) : j ∈ U := by
  obtain ⟨h0, o, ho, hall⟩ := mem_ready.1 hj
  have hlt := (Array.getElem?_eq_some_iff.1 ho).1
  rw [h.getD hlt] at h0
  simp only [decide_eq_false_iff_not] at h0
  rcases Nat.lt_or_ge j (m + len) with hjl | hjl
  · exact Decidable.byContradiction fun hn => h0 ⟨hjl, hn⟩
  · exfalso
    obtain ⟨u, hu⟩ := List.exists_mem_of_ne_nil U hU
    have hul := h.sub u hu
    have := hc j o hjl ho u hul.2 _ h.down (fun i hi => by
      obtain ⟨e, he, hb, rfl⟩ := depsM_bit.1 hi
      exact hall e he hb)
    rw [h.getD (by have := h.fit; omega)] at this
    simp at this
    exact this.2 hu

theorem Lst.some {m len : Nat} {U : List Nat} {listed : Array Bool} (h : Lst ops m len U listed) (hU : U ≠ []) (hb : back 0 ops.toList = true) : Region.ready .any ops listed ≠ [] := by
  -- the least that has not been done
  have least : ∃ u ∈ U, ∀ v ∈ U, u ≤ v := by
    clear h
    induction U with
    | nil => exact absurd rfl hU
    | cons x U ih =>
      by_cases hx : U = []
      · subst hx; exact ⟨x, by simp, by simp⟩
      · obtain ⟨u, hu, hv⟩ := ih hx
        rcases Nat.le_total x u with hle | hle
        · exact ⟨x, by simp, fun v hv' => by
            rcases List.mem_cons.1 hv' with rfl | hv'
            · exact Nat.le_refl _
            · exact Nat.le_trans hle (hv v hv')⟩
        · exact ⟨u, by simp [hu], fun v hv' => by
            rcases List.mem_cons.1 hv' with rfl | hv'
            · exact hle
            · exact hv v hv'⟩
  obtain ⟨u, hu, hmin⟩ := least
  have hul := h.sub u hu
  have hlt : u < ops.size := by have := h.fit; omega
  have : u ∈ Region.ready .any ops listed := by
    refine mem_ready.2 ⟨by rw [h.getD hlt]; simp [hu], ops[u], Array.getElem?_eq_getElem hlt, fun e he hbd => ?_⟩
    have hbit : (depsM ops[u]).testBit e.on = true := depsM_bit.2 ⟨e, he, hbd, rfl⟩
    have hlt2 := back_spec ops.toList 0 hb u ops[u] (by simp [hlt]) e.on hbit
    rw [h.getD (by omega)]
    simp only [decide_eq_true_eq]
    refine ⟨by omega, fun hm => ?_⟩
    have := hmin _ hm; omega
  intro e
  rw [e] at this
  cases this

theorem Lst.step {m len : Nat} {U : List Nat} {listed : Array Bool} (h : Lst ops m len U listed) (hn : U.Nodup) {j : Nat} (hj : j ∈ Region.ready .any ops listed) (hjU : j ∈ U) : Lst ops m len (U.erase j) (listed.setIfInBounds j true) := by
  obtain ⟨h0, o, ho, hall⟩ := mem_ready.1 hj
  refine ⟨by simp [h.size], h.fit, fun i hi => ?_, fun i hi => h.sub i (List.mem_of_mem_erase hi), ?_⟩
  · by_cases e : j = i
    · subst e
      have := (h.sub j hjU)
      rw [Array.getElem?_setIfInBounds_self, if_pos (by rw [h.size]; exact hi)]
      simp only [Option.some.injEq]
      symm
      rw [decide_eq_true_eq]
      exact ⟨this.2, fun hm => hn.not_mem_erase hm⟩
    · rw [Array.getElem?_setIfInBounds_ne e, h.val i hi]
      congr 1
      simp only [decide_eq_decide]
      rw [List.mem_erase_of_ne (Ne.symm e)]
  · intro k o' hk hL i hi
    by_cases e : k = j
    · subst e
      rw [ho] at hk; cases hk
      obtain ⟨e', he, hb, rfl⟩ := depsM_bit.1 hi
      exact getD_set_true (hall e' he hb)
    · rw [getD_set_ne false (Ne.symm e)] at hL
      exact getD_set_true (h.down k o' hk hL i hi)

/-- A block done, the next begins. -/
theorem Lst.next {m len len' : Nat} {listed : Array Bool} (h : Lst ops m len [] listed) (hf : m + len + len' ≤ ops.size) : Lst ops (m + len) len' (List.range' (m + len) len') listed := by
  refine ⟨h.size, hf, fun i hi => ?_, fun i hi => by rw [List.mem_range'_1] at hi; exact hi, h.down⟩
  rw [h.val i hi]
  congr 1
  simp only [decide_eq_decide, List.mem_range'_1]
  constructor
  · intro hh; exact ⟨by omega, fun k => by omega⟩
  · intro hh; refine ⟨?_, by simp⟩
    rcases Nat.lt_or_ge i (m + len) with g | g
    · exact g
    · exact (hh.2 ⟨g, hh.1⟩).elim

theorem Lst.init (hb : back 0 ops.toList = true) {len : Nat} (hf : len ≤ ops.size) : Lst ops 0 len (List.range' 0 len) (Array.replicate ops.size false) := by
  refine ⟨by simp, by omega, fun i hi => ?_, fun i hi => by rw [List.mem_range'_1] at hi; omega, fun j o ho hL => ?_⟩
  · simp only [Array.getElem?_replicate, hi, if_true, Option.some.injEq]
    symm
    rw [decide_eq_false_iff_not]
    rintro ⟨h1, h2⟩
    exact h2 (by rw [List.mem_range'_1]; omega)
  · simp only [Array.getD_eq_getD_getElem?, Array.getElem?_replicate] at hL
    split at hL <;> simp at hL

/-- A block, in whatever order: what holds of what has been done, till all is done. -/
theorem block_any (hb : back 0 ops.toList = true) {m len : Nat} (hc : Cut ops (m + len)) {rest : Nat} (I : List Nat → Act → World → Prop)
    (step : ∀ U a w j o, U.Nodup → (∀ i ∈ U, m ≤ i ∧ i < m + len) → j ∈ U → ops[j]? = some o → (∀ i ∈ U, (depsM o).testBit i = false) → I U a w → wpOp P ops Q j (I (U.erase j)) a w)
    (done : ∀ a w listed, Lst ops m len [] listed → I [] a w → wpAny P .any ops Q rest listed a w) :
    ∀ (U : List Nat) (a : Act) (w : World) (listed : Array Bool), U.Nodup → Lst ops m len U listed → I U a w → wpAny P .any ops Q (U.length + rest) listed a w := by
  intro U
  generalize hk : U.length = k
  induction k generalizing U with
  | zero =>
    intro a w listed _ hl hi
    have : U = [] := List.eq_nil_of_length_eq_zero hk
    subst this
    rw [Nat.zero_add]
    exact done a w listed hl hi
  | succ k ih =>
    intro a w listed hn hl hi
    have hU : U ≠ [] := by intro e; subst e; simp at hk
    rw [show k + 1 + rest = (k + rest) + 1 by omega]
    refine ⟨fun h0 => absurd h0 (hl.some hU hb), fun j hj => ?_⟩
    have hjU := hl.ready hU hc hj
    obtain ⟨h0, o, ho, hall⟩ := mem_ready.1 hj
    refine wpOp_mono (fun a' w' h => ih (U.erase j) (by rw [List.length_erase_of_mem hjU]; omega) a' w' _ (hn.erase j) (hl.step hn hj hjU) h) (step U a w j o hn hl.sub hjU ho (fun i hi => ?_) hi)
    cases hbit : (depsM o).testBit i with
    | false => rfl
    | true =>
      exfalso
      obtain ⟨e, he, hbd, rfl⟩ := depsM_bit.1 hbit
      have h1 := hall e he hbd
      have hlt : e.on < ops.size := by have := (hl.sub _ hi).2; have := hl.fit; omega
      rw [hl.getD hlt] at h1
      simp at h1
      exact h1.2 hi

end
end Gv
