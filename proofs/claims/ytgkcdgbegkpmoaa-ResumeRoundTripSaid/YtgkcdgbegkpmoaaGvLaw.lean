/- A law's arguments, read as data; a law's call. -/
import Derived.Test.YtgkcdgbegkpmoaaGvFn
import Derived.SizedLaws
import Derived.DataReads
import Derived.Carry
namespace Gv
open Go Go.RowKit
set_option linter.unusedVariables false
set_option linter.unusedSimpArgs false

/-- The bytes that a value of a shape takes at the least. -/
def bmin : Sh → Nat
  | .int k => k.bits / 8
  | .bool => 1
  | .str => 16
  | .sl _ => 24
  | .pr a b => bmin a + bmin b
  | .node => 64

inductive NWf : Nd → Prop
  | mk (n : Nd) (h0 : (Lit.int .i64 n.tag).wf = true) (h1 : (Lit.int .i64 n.kind).wf = true) (h2 : (Lit.int .i64 n.n).wf = true) (h3 : n.s.size ≤ reachBytes) (h4 : n.kids.length * 64 ≤ reachBytes) (h5 : ∀ x ∈ n.kids, NWf x) : NWf n

/-- What is known of data that came in. -/
def Wf : (s : Sh) → s.T → Prop
  | .int k, n => (Lit.int k n).wf = true
  | .bool, _ => True
  | .str, s => s.size ≤ reachBytes
  | .sl e, l => l.length * bmin e ≤ reachBytes ∧ ∀ x ∈ l, Wf e x
  | .pr a b, x => Wf a x.1 ∧ Wf b x.2
  | .node, n => NWf n

section
variable {P : Program} {w w' : World} {ok : Nat → Prop} {μ : Nat → Option Value}

def fieldsOk (P : Program) (chk : TypeId → Sh → Bool) : List Field → Nat → Sh → Bool
  | [], _, _ => false
  | [f], off, s => f.offset == off && (P.cellsOf f.type == s.size && chk f.type s)
  | f :: g :: r, off, .pr a b => f.offset == off && (P.cellsOf f.type == a.size && (chk f.type a && fieldsOk P chk (g :: r) (off + a.size) b))
  | _, _, _ => false

def isU (d : Option TypeDesc) (k : Option IntKind) : Bool :=
  match d, k with
  | some (.int k'), some k => k' == k
  | some .string, none => true
  | _, _ => false

/-- The types of the recursive record. -/
def ntOk (P : Program) (nt : List TypeId) : Bool := nt.all fun T => match P.underlying T with
  | some (.struct fs) => (match fs.toList with
    | [a, b, c, d, e] => (a.offset == 0 && b.offset == 1 && c.offset == 2 && d.offset == 3 && e.offset == 4) && (P.cellsOf a.type == 1 && P.cellsOf b.type == 1 && P.cellsOf c.type == 1 && P.cellsOf d.type == 1 && P.cellsOf e.type == 1) &&
      (isU (P.underlying a.type) (some .i64) && isU (P.underlying b.type) (some .i64) && isU (P.underlying c.type) (some .i64) && isU (P.underlying d.type) none) && P.cellsOf T == 5 &&
      (match P.underlying e.type with
      | some (.slice E) => nt.contains E && P.cellsOf E == 5 && decide (64 ≤ P.bytesOf E)
      | _ => false)
    | _ => false)
  | _ => false

def shOk (P : Program) (nt : List TypeId) : Nat → TypeId → Sh → Bool
  | 0, _, _ => false
  | n + 1, T, s => match s with
    | .int k => isU (P.underlying T) (some k)
    | .bool => (match P.underlying T with
      | some .bool => true
      | _ => false)
    | .str => isU (P.underlying T) none
    | .sl e => (match P.underlying T with
      | some (.slice E) => shOk P nt n E e && (P.cellsOf E == e.size && (decide (0 < e.size) && decide (bmin e ≤ P.bytesOf E)))
      | _ => false)
    | .node => nt.contains T
    | .pr a b => (match P.underlying T with
      | some (.struct fs) => P.cellsOf T == (Sh.pr a b).size && fieldsOk P (shOk P nt n) fs.toList 0 (.pr a b)
      | _ => false)

theorem isU_int {d : Option TypeDesc} {k : IntKind} (h : isU d (some k) = true) : d = some (.int k) := by
  unfold isU at h; split at h <;> simp_all
theorem isU_str {d : Option TypeDesc} (h : isU d none = true) : d = some .string := by
  unfold isU at h; split at h <;> simp_all

theorem cells_at {a : Addr} {n : Nat} {cs : List Value} (h : w.cells? 0 a n = some cs) : cs.length = n ∧ (0 < n → a.spot = none ∧ a.block < w.heap.size) ∧ CellsAt w a.block a.off cs := by
  unfold World.cells? at h
  rw [if_pos (Nat.zero_le _)] at h
  have hl := mapM_some_length h
  simp only [List.length_range] at hl
  have hg : ∀ i, i < n → w.cell? (a.add i) = cs[i]? := fun i hi => mapM_some_get h i i (by simp [hi])
  have hs : 0 < n → a.spot = none ∧ a.block < w.heap.size := by
    intro hn
    have h0 := hg 0 hn
    have hc : cs[0]? = some cs[0] := List.getElem?_eq_getElem (by omega)
    rw [hc] at h0
    simp only [Addr.add, if_true, World.cell?] at h0
    split at h0
    · rename_i c T fr hb
      split at h0
      · cases h0
      · rename_i hsp
        exact ⟨by simpa using hsp, (Array.getElem?_eq_some_iff.1 hb).1⟩
    · cases h0
  refine ⟨hl, hs, fun j v hj => ?_⟩
  have hjn : j < n := by rw [← hl]; exact (List.getElem?_eq_some_iff.1 hj).1
  have := hg j hjn
  rw [hj] at this
  have hsp := (hs (by omega)).1
  have ha : a = ⟨a.block, a.off, none⟩ := by cases a; simp at hsp; simp [hsp]
  rw [ha, add_none] at this
  exact this

theorem weightsAll_mem {H : Type} {e : TypeId} : ∀ {l : List (DataW H)} {d : DataW H} {q : Nat}, d ∈ l → q ∈ d.weights P e → q ∈ DataW.weightsAll P e l
  | [], _, _, h, _ => by simp at h
  | d0 :: l, d, q, h, hq => by
    simp only [DataW.weightsAll, List.mem_append]
    rcases List.mem_cons.1 h with rfl | h
    · exact .inl hq
    · exact .inr (weightsAll_mem h hq)

end
end Gv
