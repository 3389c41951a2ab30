/- append, at the machine: a row with a source behind it. -/
import Derived.Test.YtgkcdgbegkpmoaaGreatDoorGwApp
import Derived.Lib.AppendStr
namespace Gv
open Go Go.RowKit
set_option linter.unusedVariables false
set_option linter.unusedSectionVars false
set_option linter.unusedSimpArgs false

section
variable [GlobI] {E : Env} {avs : List AV} {σ : List Ob} {μ μ' : Nat → Option Value} {vs : List Value} {w w' : World} {ok ok' : Nat → Prop} {α : Type} {x : α} {P : Program}

/-- Elements and their cells in one list. -/
def CL (ok : Nat → Prop) (w : World) (e : Sh) (l : List e.T) (xs : List Value) : Prop :=
  xs.length = l.length * e.size ∧ ∀ (i : Nat) x, l[i]? = some x → Sh.C ok w e x ((xs.drop (i * e.size)).take e.size)

theorem CL.append {e : Sh} {l l' : List e.T} {xs ys : List Value} (h : CL ok w e l xs) (h' : CL ok w e l' ys) : CL ok w e (l ++ l') (xs ++ ys) := by
  refine ⟨by rw [List.length_append, List.length_append, h.1, h'.1, Nat.add_mul], fun i x hx => ?_⟩
  rcases Nat.lt_or_ge i l.length with hi | hi
  · rw [List.getElem?_append_left hi] at hx
    have := h.2 i x hx
    have hle : (i + 1) * e.size ≤ l.length * e.size := Nat.mul_le_mul_right _ hi
    rw [Nat.add_mul, Nat.one_mul, ← h.1] at hle
    rw [List.drop_append_of_le_length (by omega), List.take_append_of_le_length (by simp; omega)]
    exact this
  · rw [List.getElem?_append_right hi] at hx
    have := h'.2 _ x hx
    have hle : l.length * e.size ≤ i * e.size := Nat.mul_le_mul_right _ hi
    rw [List.drop_append, List.drop_eq_nil_of_le (by rw [h.1]; exact hle), List.nil_append, h.1, ← Nat.sub_mul]
    exact this

theorem CL.kp {e : Sh} {l : List e.T} {xs : List Value} (k : Kp ok ok' w w') (h : CL ok w e l xs) : CL ok' w' e l xs := ⟨h.1, fun i x hx => Sh.C_kp k (h.2 i x hx)⟩

theorem CL.one {e : Sh} {l : List e.T} {xs : List Value} (h : CL ok w e l xs) : ∀ v ∈ xs, v.oneCell' = true := by
  intro v hv
  obtain ⟨j, hj⟩ := List.getElem?_of_mem hv
  have hlt : j < xs.length := by
    rcases Nat.lt_or_ge j xs.length with h | h
    · exact h
    · rw [List.getElem?_eq_none h] at hj; cases hj
  have hp : 0 < e.size := by
    rcases Nat.eq_zero_or_pos e.size with h0 | h0
    · have := h.1; rw [h0, Nat.mul_zero] at this; omega
    · exact h0
  have hi : j / e.size < l.length := by
    rw [Nat.div_lt_iff_lt_mul hp]; rw [← h.1]; exact hlt
  have hC := h.2 (j / e.size) _ (getD_of_lt (d := e.dflt) hi)
  refine Sh.C_one hC v (List.mem_of_getElem? (i := j % e.size) ?_)
  rw [List.getElem?_take, if_pos (Nat.mod_lt _ hp), List.getElem?_drop, Nat.mul_comm, Nat.div_add_mod]
  exact hj

theorem elems_flat {b : Nat} {e : Sh} : ∀ {l : List e.T} {off : Nat}, (∀ (i : Nat) x, l[i]? = some x → ∃ cs, cs.length = e.size ∧ CellsAt w b (off + i * e.size) cs ∧ Sh.C ok w e x cs) →
    ∃ xs, CL ok w e l xs ∧ CellsAt w b off xs
  | [], off, _ => ⟨[], ⟨by simp, fun i x h => by simp at h⟩, fun j v h => by simp at h⟩
  | x :: l, off, h => by
    obtain ⟨cs, h1, h2, h3⟩ := h 0 x rfl
    obtain ⟨xs, g1, g2⟩ := elems_flat (l := l) (off := off + e.size) (fun i y hy => by
      obtain ⟨cs', k1, k2, k3⟩ := h (i + 1) y (by simpa using hy)
      exact ⟨cs', k1, by rw [Nat.add_mul, Nat.one_mul, Nat.add_comm (i * e.size), ← Nat.add_assoc] at k2; exact k2, k3⟩)
    refine ⟨cs ++ xs, ?_, fun j v hv => ?_⟩
    · have : CL ok w e [x] cs := ⟨by simp [h1], fun i y hy => by
        cases i with
        | zero => simp at hy; subst hy; simpa [h1, List.take_of_length_le] using h3
        | succ i => simp at hy⟩
      exact this.append g1
    · rcases Nat.lt_or_ge j cs.length with hj | hj
      · rw [List.getElem?_append_left hj] at hv
        simpa using h2 j v hv
      · rw [List.getElem?_append_right hj] at hv
        have := g2 _ v hv
        rw [h1] at this hj
        rw [show off + e.size + (j - e.size) = off + j by omega] at this
        exact this

theorem RowV.of_CL {T : TypeId} {e : Sh} {l : List e.T} {b c n : Nat} {cur : Array Value} {xs : List Value} (hg : w.heap[b]? = some (.cells cur T (0, 0))) (hn : n = l.length) (hc : 0 < c) (hlc : l.length ≤ c) (hcm : c ≤ maxLen)
    (hs : cur.size = c * e.size) (hxs : cur.toList.take (l.length * e.size) = xs) (h : CL ok w e l xs) : RowV ok w T e (.slice (some ⟨b, 0, none⟩) n c) l := by
  subst hn
  refine ⟨_, c, rfl, .inr ⟨hc, b, cur, rfl, hg, hlc, hcm, hs, fun i x hx => ⟨_, ?_, ?_, h.2 i x hx⟩⟩⟩
  · have hi : i < l.length := by
      rcases Nat.lt_or_ge i l.length with h | h
      · exact h
      · rw [List.getElem?_eq_none h] at hx; cases hx
    have hle : (i + 1) * e.size ≤ l.length * e.size := Nat.mul_le_mul_right _ hi
    rw [Nat.add_mul, Nat.one_mul, ← h.1] at hle
    simp; omega
  · intro j v hv
    rw [List.getElem?_take] at hv
    split at hv
    · rw [List.getElem?_drop, ← hxs, List.getElem?_take] at hv
      split at hv
      · simp only [World.cell?, hg]
        simpa using hv
      · cases hv
    · cases hv

theorem run_append {t T ty : TypeId} {e : Sh} {i : ElI} (ht : P.underlying t = some (.slice T)) (he : ElOk P T e i) {v vy : Value} {l ly : List e.T} (hv : RowV ok w T e v l) (hy : SrcR ok w e ly vy)
    (hf : (l.length + ly.length) * i.bytes ≤ 140737488355328) :
    ∃ v' w', (Builtin.append_ #[t, t] ty #[v, vy]).run P w = .ok v' w' ∧ Redone w w' v v' ∧ (∃ a n c, v' = .slice a n c) ∧ ∀ ok', Kp ok ok' w w' → RowV ok' w' T e v' (l ++ ly) := by
  obtain ⟨ti, z, g1, g2, g3, g4, g5, g6⟩ := he.ex
  have hp := he.pos
  have hbp := he.bpos
  obtain ⟨a, c, rfl, hv⟩ := hv
  obtain ⟨a', c', rfl, hy⟩ := hy
  have hsmall : l.length + ly.length ≤ 140737488355328 := Nat.le_trans (Nat.le_mul_of_pos_right _ hbp) hf
  have hsz : szT P T = some e.size := by simp [szT, g1, g3]
  by_cases hm : ly = []
  · subst hm
    refine ⟨.slice a l.length c, w, ?_, ⟨rfl, rfl, rfl, Nat.le_refl _, fun _ _ _ => rfl, fun b hb => .inl hb⟩, ⟨_, _, _, rfl⟩, fun ok' k => ?_⟩
    · have hle : l.length ≤ c := by
        rcases hv with ⟨rfl, rfl⟩ | ⟨_, _, _, _, _, h, _⟩
        · simp
        · exact h
      have hfc : (Builtin.firstCells e.size 0 (.slice a' 0 c')).run P w = .ok #[] w := by
        cases a' <;> simp [Builtin.firstCells, loadCells, loadCellsFrom]
      simp only [List.length_nil, Builtin.append_, List.getElem?_toArray, List.getElem?_cons_zero, List.getElem?_cons_succ, Sem.run_bind, run_underlying ht, Result.andThen_ok, run_sizeOf' hsz]
      simp [Builtin.lenOf, hfc, hle]
      cases a <;> simp [storeCells]
    · have hv' : RowV ok w T e (.slice a l.length c) l := ⟨a, c, rfl, hv⟩
      simpa using hv'.kp k (fun _ _ => rfl)
  · rcases hy with hy | ⟨b', off', rfl, hy⟩
    · exact absurd hy hm
    obtain ⟨news, hn1, hn2⟩ := elems_flat hy
    have hmp : 0 < ly.length := List.length_pos_iff.2 hm
    have hnews : ∀ j v, news[j]? = some v → w.cell? ((⟨b', off', none⟩ : Addr).add j) = some v := fun j v h => by rw [add_none]; exact hn2 j v h
    have hl' : news.length = ly.length * ti.size := by rw [g3]; exact hn1.1
    have hzs : z.cells.size = ti.size := by rw [g5, g3]
    have grow : ∀ (olds : List Value) (n old : Nat), CL ok w e l olds → n = l.length + ly.length → old < n → ∀ v0, blk v0 = blk (.slice a l.length c) →
        Redone w (w.drew.alloc (.cells (olds.toArray ++ news.toArray ++ Builtin.zeroCells z.cells (grownCap w n old T - n)) T)) v0 (.slice (some ⟨w.heap.size, 0, none⟩) n (grownCap w n old T)) ∧
        ∀ ok', Kp ok ok' w (w.drew.alloc (.cells (olds.toArray ++ news.toArray ++ Builtin.zeroCells z.cells (grownCap w n old T - n)) T)) →
          RowV ok' (w.drew.alloc (.cells (olds.toArray ++ news.toArray ++ Builtin.zeroCells z.cells (grownCap w n old T - n)) T)) T e (.slice (some ⟨w.heap.size, 0, none⟩) n (grownCap w n old T)) (l ++ ly) := by
      intro olds n old hol hn ho v0 hv0
      have hge := grownCap_ge w n old T
      have hcm : grownCap w n old T ≤ maxLen := grownCap_le_maxLen w n old T (by simp only [maxLen]; omega)
      have hnew : (w.drew.alloc (.cells (olds.toArray ++ news.toArray ++ Builtin.zeroCells z.cells (grownCap w n old T - n)) T)).heap[w.heap.size]? = some (.cells (olds.toArray ++ news.toArray ++ Builtin.zeroCells z.cells (grownCap w n old T - n)) T (0, 0)) := heap_new w.drew _
      refine ⟨⟨rfl, rfl, rfl, by show w.heap.size ≤ (w.heap.push _).size; simp, fun k hk _ => Below.heap_alloc w.drew _ k hk, fun b hb => ?_⟩, fun ok' k => ?_⟩
      · simp only [blk] at hb
        split at hb
        · cases hb
        · simp only [Option.some.injEq] at hb; subst hb; exact .inr ⟨Nat.le_refl _, by show _ < (w.heap.push _).size; simp⟩
      · refine RowV.of_CL hnew (by simp [hn]) (by omega) (by simp; omega) hcm ?_ ?_ ((hol.append hn1).kp k)
        · simp only [Array.size_append, List.size_toArray, size_zeroCells, hol.1, hn1.1, g5, ← Nat.add_mul]
          congr 1; omega
        · simp only [Array.toList_append, List.append_assoc]
          rw [← List.append_assoc, List.length_append, Nat.add_mul, ← hol.1, ← hn1.1, ← List.length_append]
          exact List.take_left
    rcases hv with ⟨rfl, rfl⟩ | ⟨hc0, b, cur, rfl, hg, hlc, hcm, hcs, hel⟩
    · have hCL : CL ok w e ([] : List e.T) [] := ⟨by simp, fun i x h => by simp at h⟩
      cases a with
      | none =>
        have hr := run_append_nil (P := P) w t ty T ti z ht g1 g2 ⟨b', off', none⟩ ly.length c' news hl' hnews hmp (by omega) (by rw [g4]; simp at hf; omega)
        obtain ⟨k1, k2⟩ := grow [] ly.length 0 hCL (by simp) hmp (.slice none 0 0) rfl
        simp only [List.toArray, Array.empty_append] at k1 k2
        exact ⟨_, _, hr, k1, ⟨_, _, _, rfl⟩, k2⟩
      | some b0 =>
        have hr := run_append_grow (P := P) w t ty T ti z ht g1 g2 b0 0 0 [] (by simp) (fun j v h => by simp at h) ⟨b', off', none⟩ ly.length c' news hl' hnews (by omega) (by omega)
          (growslice_fits (by omega) (by rw [g4]; simpa using hf))
        simp only [Nat.zero_add] at hr
        obtain ⟨k1, k2⟩ := grow [] ly.length 0 hCL (by simp) hmp (.slice (some b0) 0 0) rfl
        exact ⟨_, _, hr, k1, ⟨_, _, _, rfl⟩, k2⟩
    · obtain ⟨xs, hx1, hx2⟩ := elems_flat (w := w) (ok := ok) (b := b) (l := l) (off := 0) (fun i x hx => by rw [Nat.zero_add]; exact hel i x hx)
      have holds : ∀ j v, xs[j]? = some v → w.cell? ((⟨b, 0, none⟩ : Addr).add j) = some v := fun j v h => by rw [add_none]; exact hx2 j v h
      by_cases hroom : l.length + ly.length ≤ c
      · have hfit : l.length * ti.size + news.length ≤ cur.size := by
          rw [hl', hcs, g3, ← Nat.add_mul]; exact Nat.mul_le_mul_right _ hroom
        have hr := run_append_room (P := P) w t ty T ti ht g1 b l.length c cur hg ⟨b', off', none⟩ ly.length c' news hl' hnews hn1.one hroom hfit
        rw [g3] at hr hfit
        refine ⟨_, _, hr, ⟨rfl, rfl, rfl, by simp, fun k _ hk => setRow_other w b k _ (fun e => hk (by subst e; simp [blk]; omega)), fun q hq => .inl (by simpa [blk] using hq)⟩, ⟨_, _, _, rfl⟩, fun ok' k => ?_⟩
        have htake : cur.toList.take (l.length * e.size) = xs := by
          apply List.ext_getElem?
          intro j
          rw [List.getElem?_take]
          split
          · rename_i hj
            have hj' : j < xs.length := by rw [hx1.1]; exact hj
            have := hx2 j _ (List.getElem?_eq_getElem hj')
            rw [List.getElem?_eq_getElem hj']
            simpa [World.cell?, hg] using this
          · rename_i hj
            rw [List.getElem?_eq_none (by rw [hx1.1]; omega)]
        refine RowV.of_CL (setRow_heap w b cur _ T _ hg) (by simp) hc0 (by simp; exact hroom) hcm ?_ ?_ ((hx1.append hn1).kp k)
        · simp only [List.size_toArray, List.length_append, List.length_take, List.length_drop, Array.length_toList]
          rw [← hcs]; omega
        · rw [htake, List.length_append, Nat.add_mul, ← hx1.1, ← hn1.1, ← List.length_append]
          exact List.take_left
      · have hr := run_append_grow (P := P) w t ty T ti z ht g1 g2 ⟨b, 0, none⟩ l.length c xs (by rw [g3]; exact hx1.1) holds ⟨b', off', none⟩ ly.length c' news hl' hnews (by omega) (by omega)
          (growslice_fits (by omega) (by rw [g4]; exact hf))
        obtain ⟨k1, k2⟩ := grow xs (l.length + ly.length) c hx1 rfl (by omega) (.slice (some ⟨b, 0, none⟩) l.length c) rfl
        exact ⟨_, _, hr, k1, ⟨_, _, _, rfl⟩, k2⟩


theorem run_appendS {t u T ty : TypeId} {i : ElI} (ht : P.underlying t = some (.slice T)) (hu : P.underlying u = some .string) (he : ElOk P T (.int .u8) i) {v : Value} {l : List Int} {s : ByteArray} (hv : RowV ok w T (.int .u8) v l)
    (hf : (l.length + (strList s).length) * i.bytes ≤ 140737488355328) :
    ∃ v' w', (Builtin.append_ #[t, u] ty #[v, .string s]).run P w = .ok v' w' ∧ Redone w w' v v' ∧ (∃ a n c, v' = .slice a n c) ∧ ∀ ok', Kp ok ok' w w' → RowV ok' w' T (.int .u8) v' (l ++ strList s)   := by
  have lenS : (strList s).length = s.size := by simp only [strList, List.length_map, Array.length_toList]; rfl
  obtain ⟨ly, hly⟩ : ∃ ly : List Int, ly = strList s := ⟨_, rfl⟩
  rw [← hly] at hf lenS ⊢
  obtain ⟨e, hee⟩ : ∃ e : Sh, e = .int .u8 := ⟨_, rfl⟩
  have es : (Sh.int .u8).size = 1 := rfl
  obtain ⟨ti, z, g1, g2, g3, g4, g5, g6⟩ := he.ex
  have hp := he.pos
  have hbp := he.bpos
  obtain ⟨a, c, rfl, hv⟩ := hv
  have hsmall : l.length + ly.length ≤ 140737488355328 := Nat.le_trans (Nat.le_mul_of_pos_right _ hbp) hf
  have hsz : szT P T = some (Sh.int IntKind.u8).size := by simp [szT, g1, g3]
  by_cases hm : ly = []
  · subst hm
    refine ⟨.slice a l.length c, w, ?_, ⟨rfl, rfl, rfl, Nat.le_refl _, fun _ _ _ => rfl, fun b hb => .inl hb⟩, ⟨_, _, _, rfl⟩, fun ok' k => ?_⟩
    · have hle : l.length ≤ c := by
        rcases hv with ⟨rfl, rfl⟩ | ⟨_, _, _, _, _, h, _⟩
        · simp
        · exact h
      have hs0 : s.size = 0 := by rw [← lenS]; rfl
      have hfc : (Builtin.firstCells (Sh.int IntKind.u8).size s.size (.string s)).run P w = .ok #[] w := by
        rw [Lib.run_firstCells_string]
        have : Lib.strCells s = [] := List.eq_nil_of_length_eq_zero (by rw [Lib.strCells_length, hs0])
        rw [this]
      rw [hs0] at hfc
      simp only [List.length_nil, Builtin.append_, List.getElem?_toArray, List.getElem?_cons_zero, List.getElem?_cons_succ, Sem.run_bind, run_underlying ht, run_underlying hu, Result.andThen_ok, run_sizeOf' hsz]
      simp [Builtin.lenOf, hfc, hle, hs0]
      cases a <;> simp [storeCells]
    · have hv' : RowV ok w T (.int .u8) (.slice a l.length c) l := ⟨a, c, rfl, hv⟩
      simpa using hv'.kp k (fun _ _ => rfl)
  · obtain ⟨news, hnews0⟩ : ∃ news, news = Lib.strCells s := ⟨_, rfl⟩
    have hn1 : CL ok w (.int .u8) ly news := by
      rw [hnews0, hly]
      refine ⟨by rw [Lib.strCells_length, es, Nat.mul_one, ← hly, lenS], fun i x hx => ?_⟩
      rw [es, Nat.mul_one]
      simp only [strList, List.getElem?_map] at hx
      obtain ⟨b, hb, rfl⟩ := Option.map_eq_some_iff.1 hx
      have hlt := (List.getElem?_eq_some_iff.1 hb).1
      simp only [Lib.strCells, Sh.C]
      rw [← List.map_drop, List.drop_eq_getElem_cons hlt]
      have : s.data.toList[i] = b := by rw [List.getElem?_eq_getElem hlt] at hb; cases hb; rfl
      simp [this]
    have hmp : 0 < ly.length := List.length_pos_iff.2 hm
    have hl' : news.length = ly.length * ti.size := by rw [g3]; exact hn1.1
    have hzs : z.cells.size = ti.size := by rw [g5, g3]
    have grow : ∀ (olds : List Value) (n old : Nat), CL ok w (.int .u8) l olds → n = l.length + ly.length → old < n → ∀ v0, blk v0 = blk (.slice a l.length c) →
        Redone w (w.drew.alloc (.cells (olds.toArray ++ news.toArray ++ Builtin.zeroCells z.cells (grownCap w n old T - n)) T)) v0 (.slice (some ⟨w.heap.size, 0, none⟩) n (grownCap w n old T)) ∧
        ∀ ok', Kp ok ok' w (w.drew.alloc (.cells (olds.toArray ++ news.toArray ++ Builtin.zeroCells z.cells (grownCap w n old T - n)) T)) →
          RowV ok' (w.drew.alloc (.cells (olds.toArray ++ news.toArray ++ Builtin.zeroCells z.cells (grownCap w n old T - n)) T)) T (.int .u8) (.slice (some ⟨w.heap.size, 0, none⟩) n (grownCap w n old T)) (l ++ ly) := by
      intro olds n old hol hn ho v0 hv0
      have hge := grownCap_ge w n old T
      have hcm : grownCap w n old T ≤ maxLen := grownCap_le_maxLen w n old T (by simp only [maxLen]; omega)
      have hnew : (w.drew.alloc (.cells (olds.toArray ++ news.toArray ++ Builtin.zeroCells z.cells (grownCap w n old T - n)) T)).heap[w.heap.size]? = some (.cells (olds.toArray ++ news.toArray ++ Builtin.zeroCells z.cells (grownCap w n old T - n)) T (0, 0)) := heap_new w.drew _
      refine ⟨⟨rfl, rfl, rfl, by show w.heap.size ≤ (w.heap.push _).size; simp, fun k hk _ => Below.heap_alloc w.drew _ k hk, fun b hb => ?_⟩, fun ok' k => ?_⟩
      · simp only [blk] at hb
        split at hb
        · cases hb
        · simp only [Option.some.injEq] at hb; subst hb; exact .inr ⟨Nat.le_refl _, by show _ < (w.heap.push _).size; simp⟩
      · refine RowV.of_CL hnew (by simp [hn]) (by omega) (by simp; omega) hcm ?_ ?_ ((hol.append hn1).kp k)
        · simp only [Array.size_append, List.size_toArray, size_zeroCells, hol.1, hn1.1, g5, ← Nat.add_mul]
          congr 1; omega
        · simp only [Array.toList_append, List.append_assoc]
          rw [← List.append_assoc, List.length_append, Nat.add_mul, ← hol.1, ← hn1.1, ← List.length_append]
          exact List.take_left
    rcases hv with ⟨rfl, rfl⟩ | ⟨hc0, b, cur, rfl, hg, hlc, hcm, hcs, hel⟩
    · have hCL : CL ok w (.int .u8) ([] : List Int) [] := ⟨by simp, fun i x h => by simp at h⟩
      cases a with
      | none =>
        have hr := run_append_nil_string (P := P) w t u ty T ti z ht hu g1 g2 s (by rw [← lenS]; exact hmp) (by rw [← lenS]; omega) (by rw [g4, ← lenS]; simp at hf; omega)
        have hcells : s.data.map (fun b => Value.int .u8 b.toNat) = news.toArray := by rw [hnews0, Lib.strCells]; apply Array.ext'; simp
        rw [hcells, ← lenS] at hr
        obtain ⟨k1, k2⟩ := grow [] ly.length 0 hCL (by simp) hmp (.slice none 0 0) rfl
        simp only [List.toArray, Array.empty_append] at k1 k2
        exact ⟨_, _, hr, k1, ⟨_, _, _, rfl⟩, k2⟩
      | some b0 =>
        have hr := Lib.run_append_grow_string (P := P) w t u ty T ti z ht hu g1 g2 b0 0 0 [] (by simp) (fun j v h => by simp at h) s (by omega) (by omega)
          (growslice_fits (by omega) (by rw [g4, ← lenS]; simpa using hf))
        simp only [Nat.zero_add] at hr
        rw [← lenS, ← hnews0] at hr
        obtain ⟨k1, k2⟩ := grow [] ly.length 0 hCL (by simp) hmp (.slice (some b0) 0 0) rfl
        exact ⟨_, _, hr, k1, ⟨_, _, _, rfl⟩, k2⟩
    · obtain ⟨xs, hx1, hx2⟩ := elems_flat (e := .int .u8) (w := w) (ok := ok) (b := b) (l := l) (off := 0) (fun i x hx => by rw [Nat.zero_add]; exact hel i x hx)
      have holds : ∀ j v, xs[j]? = some v → w.cell? ((⟨b, 0, none⟩ : Addr).add j) = some v := fun j v h => by rw [add_none]; exact hx2 j v h
      by_cases hroom : l.length + ly.length ≤ c
      · have hfit : l.length * ti.size + news.length ≤ cur.size := by
          rw [hl', hcs, g3, ← Nat.add_mul]; exact Nat.mul_le_mul_right _ hroom
        have hr := Lib.run_append_room_string (P := P) w t u ty T ti ht hu g1 g3 b l.length c cur hg s (by rw [← lenS]; exact hroom) (by have h9 := hfit; rw [hl', g3, es, Nat.mul_one, Nat.mul_one] at h9; rw [← lenS]; exact h9)
        rw [← lenS, ← hnews0] at hr
        rw [g3] at hfit
        refine ⟨_, _, hr, ⟨rfl, rfl, rfl, by simp, fun k _ hk => setRow_other w b k _ (fun e => hk (by subst e; simp [blk]; omega)), fun q hq => .inl (by simpa [blk] using hq)⟩, ⟨_, _, _, rfl⟩, fun ok' k => ?_⟩
        have htake : cur.toList.take (l.length * (Sh.int IntKind.u8).size) = xs := by
          apply List.ext_getElem?
          intro j
          rw [List.getElem?_take]
          split
          · rename_i hj
            have hj' : j < xs.length := by rw [hx1.1]; exact hj
            have := hx2 j _ (List.getElem?_eq_getElem hj')
            rw [List.getElem?_eq_getElem hj']
            simpa [World.cell?, hg] using this
          · rename_i hj
            rw [List.getElem?_eq_none (by rw [hx1.1]; omega)]
        refine RowV.of_CL (setRow_heap w b cur _ T _ hg) (by simp) hc0 (by simp; exact hroom) hcm ?_ ?_ ((hx1.append hn1).kp k)
        · simp only [List.size_toArray, List.length_append, List.length_take, List.length_drop, Array.length_toList]
          have h8 := hn1.1
          rw [es, Nat.mul_one] at hcs h8 ⊢
          omega
        · have ht2 := htake
          rw [es, Nat.mul_one] at ht2
          rw [ht2, List.length_append, Nat.add_mul, ← hx1.1, ← hn1.1, ← List.length_append]
          exact List.take_left
      · have hr := Lib.run_append_grow_string (P := P) w t u ty T ti z ht hu g1 g2 ⟨b, 0, none⟩ l.length c xs (by rw [g3]; exact hx1.1) holds s (by omega) (by omega)
          (growslice_fits (by omega) (by rw [g4, ← lenS]; exact hf))
        rw [← lenS, ← hnews0] at hr
        obtain ⟨k1, k2⟩ := grow xs (l.length + ly.length) c hx1 rfl (by omega) (.slice (some ⟨b, 0, none⟩) l.length c) rfl
        exact ⟨_, _, hr, k1, ⟨_, _, _, rfl⟩, k2⟩


end
end Gv
