/- A law's arguments, read as data; a law's call. -/
import Derived.Test.YtgkcdgbegkpmoaaGreatDoorGwFn
import Derived.SizedLaws
import Derived.DataReads
import Derived.Carry
import Derived.ChangeArms
import Derived.WideShapes
import Derived.OpenShut
namespace Gv
open Go Go.RowKit
set_option linter.unusedVariables false
set_option linter.unusedSimpArgs false
set_option linter.unusedSectionVars false

/-- The bytes that a value of a shape takes at the least. -/
def bmin : Sh → Nat
  | .int k => k.bits / 8
  | .bool => 1
  | .str => 16
  | .sl _ => 24
  | .pr a b => bmin a + bmin b
  | .node => 64

inductive NWf : Nd → Prop
  | mk (n : Nd) (h0 : (Lit.int .i64 n.tag).wf = true) (h1 : (Lit.int .i64 n.kind).wf = true) (h2 : (Lit.int .i64 n.n).wf = true) (h3 : n.s.size ≤ reachBytes) (h4 : n.kids.length * 64 ≤ reachBytes) (h5 : ∀ x ∈ n.kids, NWf x) : NWf n

/-- What is known of data that came in. -/
def Wf : (s : Sh) → s.T → Prop
  | .int k, n => (Lit.int k n).wf = true
  | .bool, _ => True
  | .str, s => s.size ≤ reachBytes
  | .sl e, l => l.length * bmin e ≤ reachBytes ∧ ∀ x ∈ l, Wf e x
  | .pr a b, x => Wf a x.1 ∧ Wf b x.2
  | .node, n => NWf n

section
variable [GlobI] {P : Program} {w w' : World} {ok : Nat → Prop} {μ : Nat → Option Value}

def fieldsOk (P : Program) (chk : TypeId → Sh → Bool) : List Field → Nat → Sh → Bool
  | [], _, _ => false
  | [f], off, s => f.offset == off && (P.cellsOf f.type == s.size && chk f.type s)
  | f :: g :: r, off, .pr a b => f.offset == off && (P.cellsOf f.type == a.size && (chk f.type a && fieldsOk P chk (g :: r) (off + a.size) b))
  | _, _, _ => false

def isU (d : Option TypeDesc) (k : Option IntKind) : Bool :=
  match d, k with
  | some (.int k'), some k => k' == k
  | some .string, none => true
  | _, _ => false

/-- The types of the recursive record. -/
def ntOk (P : Program) (nt : List TypeId) : Bool := nt.all fun T => match P.underlying T with
  | some (.struct fs) => (match fs.toList with
    | [a, b, c, d, e] => (a.offset == 0 && b.offset == 1 && c.offset == 2 && d.offset == 3 && e.offset == 4) && (P.cellsOf a.type == 1 && P.cellsOf b.type == 1 && P.cellsOf c.type == 1 && P.cellsOf d.type == 1 && P.cellsOf e.type == 1) &&
      (isU (P.underlying a.type) (some .i64) && isU (P.underlying b.type) (some .i64) && isU (P.underlying c.type) (some .i64) && isU (P.underlying d.type) none) && P.cellsOf T == 5 &&
      (match P.underlying e.type with
      | some (.slice E) => nt.contains E && P.cellsOf E == 5 && decide (64 ≤ P.bytesOf E)
      | _ => false)
    | _ => false)
  | _ => false

def shOk (P : Program) (nt : List TypeId) : Nat → TypeId → Sh → Bool
  | 0, _, _ => false
  | n + 1, T, s => match s with
    | .int k => isU (P.underlying T) (some k)
    | .bool => (match P.underlying T with
      | some .bool => true
      | _ => false)
    | .str => isU (P.underlying T) none
    | .sl e => (match P.underlying T with
      | some (.slice E) => shOk P nt n E e && (P.cellsOf E == e.size && (decide (0 < e.size) && decide (bmin e ≤ P.bytesOf E)))
      | _ => false)
    | .node => nt.contains T
    | .pr a b => (match P.underlying T with
      | some (.struct fs) => P.cellsOf T == (Sh.pr a b).size && fieldsOk P (shOk P nt n) fs.toList 0 (.pr a b)
      | _ => false)

theorem isU_int {d : Option TypeDesc} {k : IntKind} (h : isU d (some k) = true) : d = some (.int k) := by
  unfold isU at h; split at h <;> simp_all
theorem isU_str {d : Option TypeDesc} (h : isU d none = true) : d = some .string := by
  unfold isU at h; split at h <;> simp_all

theorem cells_at {a : Addr} {n : Nat} {cs : List Value} (h : w.cells? 0 a n = some cs) : cs.length = n ∧ (0 < n → a.spot = none ∧ a.block < w.heap.size) ∧ CellsAt w a.block a.off cs := by
  unfold World.cells? at h
  rw [if_pos (Nat.zero_le _)] at h
  have hl := mapM_some_length h
  simp only [List.length_range] at hl
  have hg : ∀ i, i < n → w.cell? (a.add i) = cs[i]? := fun i hi => mapM_some_get h i i (by simp [hi])
  have hs : 0 < n → a.spot = none ∧ a.block < w.heap.size := by
    intro hn
    have h0 := hg 0 hn
    have hc : cs[0]? = some cs[0] := List.getElem?_eq_getElem (by omega)
    rw [hc] at h0
    simp only [Addr.add, if_true, World.cell?] at h0
    split at h0
    · rename_i c T fr hb
      split at h0
      · cases h0
      · rename_i hsp
        exact ⟨by simpa using hsp, (Array.getElem?_eq_some_iff.1 hb).1⟩
    · cases h0
  refine ⟨hl, hs, fun j v hj => ?_⟩
  have hjn : j < n := by rw [← hl]; exact (List.getElem?_eq_some_iff.1 hj).1
  have := hg j hjn
  rw [hj] at this
  have hsp := (hs (by omega)).1
  have ha : a = ⟨a.block, a.off, none⟩ := by cases a; simp at hsp; simp [hsp]
  rw [ha, add_none] at this
  exact this

theorem weightsAll_mem {H : Type} {e : TypeId} : ∀ {l : List (DataW H)} {d : DataW H} {q : Nat}, d ∈ l → q ∈ d.weights P e → q ∈ DataW.weightsAll P e l
  | [], _, _, h, _ => by simp at h
  | d0 :: l, d, q, h, hq => by
    simp only [DataW.weightsAll, List.mem_append]
    rcases List.mem_cons.1 h with rfl | h
    · exact .inl hq
    · exact .inr (weightsAll_mem h hq)

end
end Gv

/- A law's arguments, read as data. -/
namespace Gv
open Go Go.RowKit
set_option linter.unusedVariables false
set_option linter.unusedSimpArgs false
set_option linter.unusedSectionVars false

section
variable [GlobI] {P : Program} {w w' : World} {μ : Nat → Option Value} {H : Type} {enc : TypeId × Value → H} {nt : List TypeId}

def okW (w : World) (b : Nat) : Prop := b < w.heap.size

/-- A row's elements, read one by one. -/
theorem elems_read {e : Sh} {E : TypeId} {a : Addr} {len cap n : Nat} {elems : List (DataW H × List MemPlace)} (hsz : P.cellsOf E = e.size) (hp : 0 < e.size) (hel : elems.length = len) (hlc : len ≤ cap)
    (hget : ∀ i, i < len → (w.cells? 0 (a.add (i * P.cellsOf E)) (P.cellsOf E)).bind (DataW.trod enc P w 0 (fun _ => true) true n E) = elems[i]?)
    (ih : ∀ cs d ps, DataW.trod enc P w 0 (fun _ => true) true n E cs = some (d, ps) → (d, ps) ∈ elems → ∃ x, Sh.C (okW w) w e x cs ∧ Wf e x) :
    ∃ l : List e.T, l.length = len ∧ Sh.C (okW w) w (.sl e) l [.slice (some a) len cap] ∧ ∀ x ∈ l, Wf e x := by
  have each : ∀ i, i < len → ∃ cs x, w.cells? 0 (a.add (i * e.size)) e.size = some cs ∧ Sh.C (okW w) w e x cs ∧ Wf e x := by
    intro i hi
    have h := hget i hi
    have hi' : i < elems.length := by omega
    rw [List.getElem?_eq_getElem hi', hsz] at h
    obtain ⟨cs, h1, h2⟩ := Option.bind_eq_some_iff.1 h
    obtain ⟨x, g1, g2⟩ := ih cs elems[i].1 elems[i].2 h2 (List.getElem_mem hi')
    exact ⟨cs, x, h1, g1, g2⟩
  have pick : ∀ i, ∃ x : e.T, i < len → ∃ cs, w.cells? 0 (a.add (i * e.size)) e.size = some cs ∧ Sh.C (okW w) w e x cs ∧ Wf e x := by
    intro i
    by_cases hi : i < len
    · obtain ⟨cs, x, h⟩ := each i hi; exact ⟨x, fun _ => ⟨cs, h⟩⟩
    · exact ⟨e.dflt, fun h => absurd h hi⟩
  refine ⟨(List.range len).map fun i => (pick i).choose, by simp, ?_, ?_⟩
  · simp only [Sh.C]
    refine ⟨some a, cap, by simp, by simpa using hlc, ?_⟩
    by_cases h0 : len = 0
    · left; simp [h0]
    · right
      obtain ⟨cs0, h1, _, _⟩ := (pick 0).choose_spec (by omega)
      simp only [Nat.zero_mul, Addr.add, if_true] at h1
      obtain ⟨_, hs, _⟩ := cells_at h1
      obtain ⟨hsp, hb⟩ := hs hp
      have ha : a = ⟨a.block, a.off, none⟩ := by cases a; simp at hsp; simp [hsp]
      refine ⟨a.block, a.off, by rw [← ha], hb, fun i x hx => ?_⟩
      rw [List.getElem?_map] at hx
      obtain ⟨j, hj, rfl⟩ := Option.map_eq_some_iff.1 hx
      have hi : i < len := by
        have := (List.getElem?_eq_some_iff.1 hj).1
        simpa using this
      rw [List.getElem?_range hi] at hj
      cases hj
      obtain ⟨cs, g1, g2, _⟩ := (pick i).choose_spec hi
      obtain ⟨k1, _, k3⟩ := cells_at g1
      rw [ha, add_none] at k3
      exact ⟨cs, k1, k3, g2⟩
  · intro x hx
    obtain ⟨i, hi, rfl⟩ := List.mem_map.1 hx
    obtain ⟨_, _, _, g3⟩ := (pick i).choose_spec (by simpa using hi)
    exact g3

theorem fields_read {n fuel : Nat} {cs : List Value} {b : Sh}
    (ih : ∀ (T : TypeId) (s : Sh) cs d ps, shOk P nt n T s = true → DataW.trod enc P w 0 (fun _ => true) true fuel T cs = some (d, ps) → (∀ q ∈ d.weights P T, q ≤ reachBytes) → ∃ x, Sh.C (okW w) w s x cs ∧ Wf s x) :
    ∀ (fs : List Field) (xs : List (DataW H × List MemPlace)) (off : Nat) (s : Sh), fieldsOk P (shOk P nt n) fs off s = true → xs.length = fs.length →
      (∀ (i : Nat) f, fs[i]? = some f → DataW.trod enc P w 0 (fun _ => true) true fuel f.type ((cs.drop f.offset).take (P.cellsOf f.type)) = xs[i]?) →
      (∀ q ∈ DataW.weightsEach P (fs.map (·.type)) (xs.map (·.1)), q ≤ reachBytes) → ∃ x, Sh.C (okW w) w s x ((cs.drop off).take s.size) ∧ Wf s x
  | [], xs, off, s, h, _, _, _ => by simp [fieldsOk] at h
  | [f], xs, off, s, h, hl, hx, hw => by
    have h' : (f.offset == off && (P.cellsOf f.type == s.size && shOk P nt n f.type s)) = true := by
      cases s <;> simpa only [fieldsOk] using h
    simp only [Bool.and_eq_true, beq_iff_eq] at h'
    obtain ⟨h1, h2, h3⟩ := h'
    match xs, hl with
    | [x0], _ =>
      have := hx 0 f rfl
      simp only [List.getElem?_cons_zero] at this
      rw [h1, h2] at this
      refine ih f.type s _ x0.1 x0.2 h3 this (fun q hq => hw q ?_)
      simp only [List.map_cons, List.map_nil, DataW.weightsEach, List.mem_append]
      exact .inl hq
  | f :: g :: r, xs, off, s, h, hl, hx, hw => by
    cases s with
    | pr a b =>
      simp only [fieldsOk, Bool.and_eq_true, beq_iff_eq] at h
      obtain ⟨h1, h2, h3, h4⟩ := h
      match xs, hl with
      | x0 :: xs, hl =>
        have hf := hx 0 f rfl
        simp only [List.getElem?_cons_zero] at hf
        rw [h1, h2] at hf
        obtain ⟨xa, c1, w1⟩ := ih f.type a _ x0.1 x0.2 h3 hf (fun q hq => hw q (by simp only [List.map_cons, DataW.weightsEach, List.mem_append]; exact .inl hq))
        obtain ⟨xb, c2, w2⟩ := fields_read (b := b) ih (g :: r) xs (off + a.size) b h4 (by simpa using hl) (fun i f' hi => by simpa using hx (i + 1) f' (by simpa using hi))
          (fun q hq => hw q (by show q ∈ x0.1.weights P f.type ++ DataW.weightsEach P ((g :: r).map (·.type)) (xs.map (·.1)); exact List.mem_append_right _ hq))
        refine ⟨(xa, xb), ?_, w1, w2⟩
        simp only [Sh.C]
        refine ⟨_, _, ?_, c1, c2⟩
        simp only [Sh.size]
        rw [List.take_add, List.drop_drop]
    | _ => simp [fieldsOk] at h

theorem ntOk_spec (h : ntOk P nt = true) {T : TypeId} (hT : T ∈ nt) : ∃ fs a b c d e E, P.underlying T = some (.struct fs) ∧ fs.toList = [a, b, c, d, e] ∧ a.offset = 0 ∧ b.offset = 1 ∧ c.offset = 2 ∧ d.offset = 3 ∧ e.offset = 4 ∧
    P.cellsOf a.type = 1 ∧ P.cellsOf b.type = 1 ∧ P.cellsOf c.type = 1 ∧ P.cellsOf d.type = 1 ∧ P.cellsOf e.type = 1 ∧ P.underlying a.type = some (.int .i64) ∧ P.underlying b.type = some (.int .i64) ∧ P.underlying c.type = some (.int .i64) ∧ P.underlying d.type = some .string ∧
    P.cellsOf T = 5 ∧ P.underlying e.type = some (.slice E) ∧ E ∈ nt ∧ P.cellsOf E = 5 ∧ 64 ≤ P.bytesOf E := by
  have := List.all_eq_true.1 h T hT
  split at this
  · rename_i fs hu
    split at this
    · rename_i a b c d e hfs
      simp only [Bool.and_eq_true, beq_iff_eq] at this
      obtain ⟨⟨⟨⟨⟨⟨⟨⟨o0, o1⟩, o2⟩, o3⟩, o4⟩, ⟨⟨⟨⟨s0, s1⟩, s2⟩, s3⟩, s4⟩⟩, ⟨⟨⟨u0, u1⟩, u2⟩, u3⟩⟩, hc⟩, he⟩ := this
      split at he
      · rename_i E hE
        simp only [Bool.and_eq_true, beq_iff_eq, decide_eq_true_eq] at he
        exact ⟨fs, a, b, c, d, e, E, hu, hfs, o0, o1, o2, o3, o4, s0, s1, s2, s3, s4, isU_int u0, isU_int u1, isU_int u2, isU_str u3, hc, hE, by simpa using he.1.1, he.1.2, he.2⟩
      · cases he
    · cases this
  · cases this

/-- A reading gives data of the shape. -/
theorem trod_sh (hn : ntOk P nt = true) : ∀ (fuel n : Nat) (T : TypeId) (s : Sh) (cs : List Value) (d : DataW H) (ps : List MemPlace), shOk P nt n T s = true → DataW.trod enc P w 0 (fun _ => true) true fuel T cs = some (d, ps) →
    (∀ q ∈ d.weights P T, q ≤ reachBytes) → ∃ x, Sh.C (okW w) w s x cs ∧ Wf s x := by
  intro fuel
  induction fuel using Nat.strongRecOn with
  | _ fuel0 ih0 =>
  cases fuel0 with
  | zero => intro n T s cs d ps _ h; simp [DataW.trod] at h
  | succ fuel =>
    have ihf := ih0 fuel (Nat.lt_succ_self _)
    intro n
    cases n with
    | zero => intro T s cs d ps h; simp [shOk] at h
    | succ n =>
      intro T s cs d ps hs h hw
      cases s with
      | int k =>
        simp only [shOk] at hs
        obtain ⟨x, rfl, _, hwf⟩ := DataW.trod_int (isU_int hs) h
        exact ⟨x, by simp [Sh.C], hwf⟩
      | bool =>
        simp only [shOk] at hs
        split at hs
        · rename_i hu
          obtain ⟨b, rfl, _⟩ := DataW.trod_bool hu h
          exact ⟨b, by simp [Sh.C], trivial⟩
        · cases hs
      | str =>
        simp only [shOk] at hs
        obtain ⟨x, rfl, hx, _⟩ := DataW.trod_string (isU_str hs) h
        simp only [Prod.mk.injEq] at hx
        refine ⟨x, by simp [Sh.C], ?_⟩
        have := hw x.data.toList.length (by rw [hx.1]; simp [DataW.weights])
        simpa [Wf] using this
      | sl e =>
        simp only [shOk] at hs
        split at hs
        · rename_i E hu
          simp only [Bool.and_eq_true, beq_iff_eq, decide_eq_true_eq] at hs
          obtain ⟨h1, h2, h3, h4⟩ := hs
          rcases DataW.trod_slice hu h with ⟨rfl, _⟩ | ⟨a, len, cap, elems, rest, m, hm, rfl, hx, _, hlc, hcm, hel, hget, _⟩
          · exact ⟨[], by simp only [Sh.C]; exact ⟨none, 0, rfl, Nat.le_refl _, .inl trivial⟩, by simp [Wf]⟩
          · cases hm
            simp only [Prod.mk.injEq] at hx
            obtain ⟨hd, _⟩ := hx
            subst hd
            simp only [DataW.weights, hu] at hw
            obtain ⟨l, g1, g2, g3⟩ := elems_read (w := w) (enc := enc) h2 h3 hel hlc hget (fun cs d' ps' ht hmem => ihf n E e cs d' ps' h1 ht (fun q hq => hw q (by
              simp only [List.mem_cons, List.mem_append]
              exact .inr (.inl (weightsAll_mem (List.mem_map.2 ⟨_, hmem, rfl⟩) hq)))))
            refine ⟨l, g2, ?_, g3⟩
            have hb := hw _ (List.mem_cons_self ..)
            simp only [List.length_map] at hb
            rw [g1]
            exact Nat.le_trans (Nat.mul_le_mul (by omega) h4) hb
        · cases hs
      | pr a b =>
        simp only [shOk] at hs
        split at hs
        · rename_i fs hu
          simp only [Bool.and_eq_true, beq_iff_eq] at hs
          obtain ⟨h1, h2⟩ := hs
          obtain ⟨xs, m, hm, hx, hlen, hxl, hget⟩ := DataW.trod_struct hu h
          cases hm
          simp only [Prod.mk.injEq] at hx
          obtain ⟨hd, _⟩ := hx
          subst hd
          simp only [DataW.weights, hu] at hw
          obtain ⟨x, g1, g2⟩ := fields_read (n := n) (fuel := fuel) (cs := cs) (b := b) (fun T s cs d ps => ihf n T s cs d ps) fs.toList xs 0 (.pr a b) h2 (by rw [hxl]; simp) (fun i f hi => hget i f (by simpa using hi)) hw
          refine ⟨x, ?_, g2⟩
          rw [List.drop_zero, List.take_of_length_le (by rw [hlen, h1]; exact Nat.le_refl _)] at g1
          exact g1
        · cases hs
      | node =>
        simp only [shOk] at hs
        have hT : T ∈ nt := by simpa using hs
        obtain ⟨fs, fa, fb, fc, fd, fe, E, hu, hfs, o0, o1, o2, o3, o4, s0, s1, s2, s3, s4, u0, u1, u2, u3, hc, hE, hEn, hE5, hE64⟩ := ntOk_spec hn hT
        obtain ⟨xs, m, hm, hx, hlen, hxl, hget⟩ := DataW.trod_struct hu h
        cases hm
        simp only [Prod.mk.injEq] at hx
        obtain ⟨hd, _⟩ := hx
        subst hd
        simp only [DataW.weights, hu, hfs, List.map_cons, List.map_nil] at hw
        have hget' : ∀ (i : Nat) f, [fa, fb, fc, fd, fe][i]? = some f → DataW.trod enc P w 0 (fun _ => true) true fuel f.type ((cs.drop f.offset).take (P.cellsOf f.type)) = xs[i]? := fun i f hi => hget i f (by rw [← Array.getElem?_toList, hfs]; exact hi)
        have hx5 : xs.length = 5 := by rw [hxl, ← Array.length_toList, hfs]; rfl
        match xs, hx5 with
        | [y0, y1, y2, y3, y4], _ =>
          match cs, (show cs.length = 5 by rw [hlen, hc]) with
          | [c0, c1, c2, c3, c4], _ =>
            have e0 := hget' 0 fa rfl
            have e1 := hget' 1 fb rfl
            have e2 := hget' 2 fc rfl
            have e3 := hget' 3 fd rfl
            have e4 := hget' 4 fe rfl
            rw [o0, s0] at e0; rw [o1, s1] at e1; rw [o2, s2] at e2; rw [o3, s3] at e3; rw [o4, s4] at e4
            simp only [List.drop_zero, List.take_succ_cons, List.take_zero, List.drop_succ_cons, List.getElem?_cons_zero, List.getElem?_cons_succ] at e0 e1 e2 e3 e4
            simp only [List.map_cons, List.map_nil, DataW.weightsEach, List.append_nil, List.mem_append] at hw
            obtain ⟨n0, q0, _, w0⟩ := DataW.trod_int u0 e0
            obtain ⟨n1, q1, _, w1⟩ := DataW.trod_int u1 e1
            obtain ⟨n2, q2, _, w2⟩ := DataW.trod_int u2 e2
            obtain ⟨n3, q3, x3, _⟩ := DataW.trod_string u3 e3
            simp only [List.cons.injEq, and_true] at q0 q1 q2 q3
            subst q0 q1 q2 q3
            have hw3 : n3.size ≤ reachBytes := by
              have := hw n3.data.toList.length (.inr (.inr (.inr (.inl (by rw [x3]; simp [DataW.weights])))))
              simpa using this
            rcases DataW.trod_slice hE e4 with ⟨q4, _⟩ | ⟨a, len, cap, elems, rest, m, hm, q4, hx4, _, hlc, hcm, hel, hget4, _⟩
            · simp only [List.cons.injEq, and_true] at q4
              subst q4
              exact ⟨⟨n0, n1, n2, n3, []⟩, by simp only [Sh.C]; exact .nil .., .mk _ w0 w1 w2 hw3 (by simp) (by simp)⟩
            · simp only [List.cons.injEq, and_true] at q4
              subst q4 hm
              have hw4 : ∀ q ∈ y4.1.weights P fe.type, q ≤ reachBytes := fun q hq => hw q (.inr (.inr (.inr (.inr hq))))
              rw [hx4] at hw4
              simp only [DataW.weights, hE] at hw4
              obtain ⟨l, g1, g2, g3⟩ := elems_read (e := .node) (w := w) (enc := enc) hE5 (by decide) hel hlc hget4 (fun cs d' ps' ht hmem => ih0 m (by omega) 1 E .node cs d' ps' (by simp only [shOk]; simpa using hEn) ht (fun q hq => hw4 q (by
                simp only [List.mem_cons, List.mem_append]
                exact .inr (.inl (weightsAll_mem (List.mem_map.2 ⟨_, hmem, rfl⟩) hq)))))
              have hb := hw4 _ (List.mem_cons_self ..)
              simp only [List.length_map] at hb
              refine ⟨⟨n0, n1, n2, n3, l⟩, by simp only [Sh.C]; rw [← g1] at g2 ⊢; exact NodeC.of_kids g2, .mk _ w0 w1 w2 hw3 ?_ g3⟩
              simp only
              rw [g1]
              exact Nat.le_trans (Nat.mul_le_mul (by omega) hE64) hb

end
end Gv

/- A law's call. -/
namespace Gv
open Go Go.RowKit Go.WideShapes Go.ChangeShapes
set_option linter.unusedVariables false
set_option linter.unusedSimpArgs false
set_option linter.unusedSectionVars false

section
variable [GlobI] {P : Program} {w w' : World} {μ : Nat → Option Value} {H : Type} {enc : TypeId × Value → H} {nt : List TypeId}

/-- An argument, as the interpreter sees it. -/
def argAV (P : Program) (T : TypeId) (s : Sh) (x : s.T) : AV := if aggT P T then .agg (cellsOf s x) else .dat s x

theorem arg_open (hn : ntOk P nt = true) {n : Nat} {T : TypeId} {s : Sh} (hs : shOk P nt n T s = true) {r : Go.Reach} {base : Nat} {v : Value} {d : DataW H} {ps : List MemPlace} (hv : Value.okWide P w r base T v)
    (h : DataW.Trod enc P w 0 (fun _ => true) true T v d ps) (hw : ∀ q ∈ d.weights P T, q ≤ reachBytes) : ∃ x : s.T, (∀ μ, RV (okW w) w μ (argAV P T s x) v) ∧ Wf s x := by
  obtain ⟨fuel, hf⟩ := h
  obtain ⟨x, hC, hW⟩ := trod_sh hn fuel n T s _ d ps hs hf hw
  refine ⟨x, fun μ => ?_, hW⟩
  have one : aggT P T = false → v.cells = #[v] → RV (okW w) w μ (argAV P T s x) v := by
    intro ha hc
    unfold argAV
    rw [ha]
    simp only [Bool.false_eq_true, if_false, RV]
    rw [hc] at hC
    exact hC
  have many : ∀ cs, aggT P T = true → v = .agg cs → RV (okW w) w μ (argAV P T s x) v := by
    intro cs ha hc
    unfold argAV
    rw [ha]
    simp only [if_true, RV]
    subst hc
    exact ⟨cs, rfl, cellsOf_rv hC⟩
  cases n with
  | zero => simp [shOk] at hs
  | succ n =>
    cases s with
    | int k =>
      have hu := isU_int (by simpa only [shOk] using hs)
      obtain ⟨m, rfl⟩ := okWide_int hu hv
      exact one (by simp [aggT, hu]) rfl
    | bool =>
      simp only [shOk] at hs
      split at hs
      · rename_i hu
        obtain ⟨m, rfl⟩ := okWide_bool hu hv
        exact one (by simp [aggT, hu]) rfl
      · cases hs
    | str =>
      have hu := isU_str (by simpa only [shOk] using hs)
      obtain ⟨m, rfl⟩ := okWide_string hu hv
      exact one (by simp [aggT, hu]) rfl
    | sl e =>
      simp only [shOk] at hs
      split at hs
      · rename_i E hu
        obtain ⟨a, l, c, rfl⟩ := okWide_slice hu hv
        exact one (by simp [aggT, hu]) rfl
      · cases hs
    | pr a b =>
      simp only [shOk] at hs
      split at hs
      · rename_i fs hu
        simp only [Value.okWide, hu] at hv
        obtain ⟨cs, hc, _⟩ := hv
        exact many cs (by simp [aggT, hu]) hc
      · cases hs
    | node =>
      simp only [shOk] at hs
      obtain ⟨fs, a, b, c, d, e, E, hu, _⟩ := ntOk_spec hn (by simpa using hs)
      simp only [Value.okWide, hu] at hv
      obtain ⟨cs, hc, _⟩ := hv
      exact many cs (by simp [aggT, hu]) hc

/-- A function that answers one bool, called with data: what it answers, and nothing else turns. -/
theorem law_calls {g : FuncId} {A : Sig} {un : Sig.V ⟨1, [], .nilL, [0], .cons (.v .bool) .nilL⟩ → Bool} {f : A.V → Option Bool} (hS : Sat P g ⟨A, [⟨.ret, ⟨1, [], .nilL, [0], .cons (.v .bool) .nilL⟩, Bool, fun y => ((), (y, ())), un⟩], f⟩) {x : A.V} {y : Bool} (h : f x = some y) {args : List Value}
    (hg : ∀ c, GlobI.c = some c → 0 < w.heap.size ∧ w.cell? ⟨0, 0, none⟩ = some c)
    (hσ : (A.put x).σ = []) (hv : ∀ μ, RVL (okW w) w μ (A.put x).slots args) : Calls P g args.toArray w fun e w' => e = .returned (.bool y) ∧ Below w.heap.size w w' := by
  have hrel : Rel ⟨w, fun _ => False, okW w⟩ (A.put x).slots (A.put x).σ (fun _ => none) args w := {
    vals := (hv _).kp ⟨fun b hb => ⟨hb, .inl hb, fun t ht => by obtain ⟨o, v, h1, _⟩ := ht; rw [hσ] at h1; simp at h1⟩, fun _ _ => rfl⟩ (fun _ _ e => e)
    objs := fun t o ho => by rw [hσ] at ho; simp at ho
    dist := fun t t' b hb => by obtain ⟨o, v, h1, _⟩ := hb; rw [hσ] at h1; simp at h1
    own := fun t b hb => by obtain ⟨o, v, h1, _⟩ := hb; rw [hσ] at h1; simp at h1
    dom := fun t v hv => by cases hv
    frm := ⟨rfl, rfl, rfl, Nat.le_refl _, fun _ _ _ => rfl, fun c hc => ⟨(hg c hc).1, fun h => h, (hg c hc).2⟩⟩ }
  refine Calls.mono (hS.run x y h w _ _ _ args hrel) ?_
  rintro (v | ch | _) w' hw
  · obtain ⟨μ', hr⟩ := hw
    refine ⟨?_, frm_below hr.frm (fun _ h => h)⟩
    have hvals := hr.vals
    simp only [List.take_succ_cons, List.take_zero] at hvals
    have : RVL (okN ⟨w, fun _ => False, okW w⟩ _ μ' w') w' μ' [.dat .bool y] [v] := hvals
    obtain ⟨v', r', e, g, _⟩ := RVL.cons_iff.1 this
    simp only [List.cons.injEq] at e
    obtain ⟨rfl, _⟩ := e
    simp only [RV, Sh.C, List.cons.injEq, and_true] at g
    rw [g]
  · exact False.elim hw
  · exact False.elim hw

end
end Gv
