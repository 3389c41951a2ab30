/- The operations that change nothing: the theorem. -/
import Derived.Test.YtgkcdgbegkpmoaaGreatDoorGwOpN4
import Derived.Laws.BytesString
namespace Gv
open Go
set_option linter.unusedVariables false
set_option linter.unusedSectionVars false
set_option linter.unusedSimpArgs false

section
variable [GlobI] {ok : Nat → Prop} {w : World} {μ : Nat → Option Value} {α : Type} {K : AV → Option α} {x : α} {σ : List Ob}

/-- An operation that gives a value and leaves the world. -/
def NOk (P : Program) (ok : Nat → Prop) (w : World) (μ : Nat → Option Value) (K : AV → Option α) (x : α) (s : Sem Next) : Prop :=
  ∃ av v, K av = some x ∧ RV ok w μ av v ∧ s.run P w = .ok (.value v) w

theorem Gives.next {P : Program} {s : Sem Value} (h : Gives P ok w μ K x s) : NOk P ok w μ K x (do pure (.value (← s))) := by
  obtain ⟨av, v, h1, h2, h3⟩ := h
  exact ⟨av, v, h1, h2, by simp only [Sem.run_bind, h3, Result.andThen_ok, Sem.run_pure]⟩

theorem unK_sound {P : Program} {op : UnOp} {X : AV} {v : Value} (h : unK op X K = some x) (hv : RV ok w μ X v) : Gives P ok w μ K x (Op.unary op v) := by
  unfold unK at h
  split at h
  · have := hv.int; subst this; exact ⟨_, _, h, RV.mkInt _ _, by simp [Op.unary, Op.intArith]⟩
  · have := hv.bool; subst this; exact ⟨_, _, h, RV.mkBool _, by simp [Op.unary]⟩
  · have := hv.int; subst this; exact ⟨_, _, h, RV.mkInt _ _, by simp [Op.unary, Op.intBits]⟩
  · cases h

theorem convK_sound {P : Program} {src dst : TypeId} {X : AV} {v : Value} (h : convK P src dst X K = some x) (hv : RV ok w μ X v) : Gives P ok w μ K x (convert src dst v) := by
  unfold convK at h
  split at h
  · rename_i d k k' n h1 h2
    have := hv.int; subst this
    exact ⟨_, _, h, RV.mkInt _ _, by simp only [convert, Sem.run_bind, run_underlying h1, run_underlying h2, Result.andThen_ok]; cases d <;> simp [Conv.intToInt]⟩
  · rename_i d s h1 h2
    have := hv.str; subst this
    refine ⟨_, _, h, RV.mkStr _, ?_⟩
    simp only [convert, Sem.run_bind, run_underlying h1, run_underlying h2, Result.andThen_ok]
    cases d <;> simp
  · cases h

theorem lenK_sound {X : AV} {v : Value} {P : Program} {T U : TypeId} (h : lenK P T X σ K = some x) (hv : RV ok w μ X v) (hob : ∀ t ob, σ[t]? = some ob → ∀ v, μ t = some v → ObR ok w μ t ob) :
    Gives P ok w μ K x (Builtin.len_ #[T] U #[v]) := by
  have run : ∀ (E : TypeId) (a : Option Addr) (n c : Nat), P.underlying T = some (.slice E) → v = .slice a n c → (Builtin.len_ #[T] U #[v]).run P w = .ok (.int .i64 n) w := by
    rintro E a n c hu rfl
    simp [Builtin.len_, run_underlying hu, goInt]
  unfold lenK at h
  split at h
  · rename_i hu; obtain ⟨a, c, rfl, _⟩ := hv.sl; exact ⟨_, _, h, RV.mkInt _ _, run _ _ _ _ hu rfl⟩
  · rename_i hu; have := hv.str; subst this
    exact ⟨_, _, h, RV.mkInt _ _, by simp [Builtin.len_, run_underlying hu, goInt]⟩
  · rename_i hu; simp only [RV] at hv; subst hv; exact ⟨_, _, h, RV.mkInt _ _, run _ _ _ _ hu rfl⟩
  · rename_i hu
    split at h
    · rename_i t _ own T' e l ht
      simp only [RV] at hv
      obtain ⟨hm, a, n, c, rfl⟩ := hv
      obtain ⟨v', h1, ⟨a', c', rfl, _⟩, _⟩ := hob _ _ ht _ hm
      rw [hm] at h1; cases h1
      exact ⟨_, _, h, RV.mkInt _ _, run _ _ _ _ hu rfl⟩
    · cases h
  · cases h

theorem minF_sound {P : Program} {mx : Bool} {k : IntKind} {l : List AV} : ∀ {a : Int} {vs : List Value}, minF mx k a l K = some x → RVL ok w μ l vs →
    ∃ av v, K av = some x ∧ RV ok w μ av v ∧ (List.foldlM (if mx then Builtin.max2 else Builtin.min2) (.int k a) vs : Sem Value).run P w = .ok v w := by
  induction l with
  | nil =>
    intro a vs h hl
    have := RVL.nil_iff.1 hl; subst this
    simp only [minF] at h
    exact ⟨_, _, h, RV.mkInt _ _, by simp⟩
  | cons b r ih =>
    intro a vs h hl
    obtain ⟨v, vs', rfl, h1, h2⟩ := RVL.cons_iff.1 hl
    unfold minF at h
    split at h
    · rename_i e; cases e
    · rename_i k' n r' e
      simp only [List.cons.injEq] at e
      obtain ⟨rfl, rfl⟩ := e
      have := h1.int; subst this
      obtain ⟨av, u, g1, g2, g3⟩ := ih h h2
      refine ⟨av, u, g1, g2, ?_⟩
      rw [List.foldlM_cons]
      cases mx
      · simpa [Builtin.min2] using g3
      · simpa [Builtin.max2] using g3
    · cases h

theorem minK_sound {P : Program} {mx : Bool} {l : List AV} {vs : List Value} (h : minK mx l K = some x) (hl : RVL ok w μ l vs) :
    ∃ av v, K av = some x ∧ RV ok w μ av v ∧ (∀ (T : Array TypeId) (U : TypeId), ((if mx then Builtin.max_ T U vs.toArray else Builtin.min_ T U vs.toArray) : Sem Value).run P w = .ok v w) := by
  unfold minK at h
  split at h
  · obtain ⟨v, vs', rfl, h1, h2⟩ := RVL.cons_iff.1 hl
    have := h1.int; subst this
    obtain ⟨av, u, g1, g2, g3⟩ := minF_sound (P := P) h h2
    refine ⟨av, u, g1, g2, fun T U => ?_⟩
    cases mx
    · simpa [Builtin.min_] using g3
    · simpa [Builtin.max_] using g3
  · cases h

/-- A slice that is read: its elements, wherever they lie. -/
def SrcR (ok : Nat → Prop) (w : World) (e : Sh) (l : List e.T) (v : Value) : Prop :=
  ∃ a c, v = .slice a l.length c ∧ (l = [] ∨ ∃ b off, a = some ⟨b, off, none⟩ ∧ ∀ (i : Nat) x, l[i]? = some x → ∃ cs, cs.length = e.size ∧ CellsAt w b (off + i * e.size) cs ∧ Sh.C ok w e x cs)

theorem srcR_of {a v0 : AV} {e : Sh} {l : List e.T} {v : Value} (h1 : closeRd σ 6 a = some v0) (h2 : asDat (.sl e) v0 = some l) (hv : RV ok w μ a v)
    (hob : ∀ t ob, σ[t]? = some ob → ∀ v, μ t = some v → ObR ok w μ t ob) : SrcR ok w e l v := by
  have dat : ∀ {e' : Sh} {l' : List e'.T}, asDat (.sl e) (.dat (.sl e') l') = some l → SrcR ok w e' l' v → SrcR ok w e l v := by
    intro e' l' h hs
    simp only [asDat] at h
    split at h
    · rename_i he
      cases he
      simp only [castT, Option.some.injEq] at h
      subst h; exact hs
    · cases h
  cases a with
  | dat s y =>
    simp only [closeRd, Option.some.injEq] at h1; subst h1
    have hC := asDat_rv h2 hv
    simp only [Sh.C, List.cons.injEq, and_true] at hC
    obtain ⟨a, c, rfl, hc, hC⟩ := hC
    refine ⟨a, c, rfl, ?_⟩
    rcases hC with hC | ⟨b, off, rfl, _, hC⟩
    · exact .inl hC
    · exact .inr ⟨b, off, rfl, hC⟩
  | nil =>
    simp only [closeRd, Option.some.injEq] at h1; subst h1
    simp only [asDat, Option.some.injEq] at h2; subst h2
    simp only [RV] at hv
    subst hv
    exact ⟨none, 0, rfl, .inl rfl⟩
  | row t =>
    simp only [closeRd] at h1
    simp only [RV] at hv
    split at h1
    · rename_i own T e' l' ht
      simp only [Option.some.injEq] at h1; subst h1
      refine dat h2 ?_
      obtain ⟨v', g1, ⟨a, c, rfl, g2⟩, _⟩ := hob t _ ht _ hv.1
      rw [hv.1] at g1; cases g1
      refine ⟨a, c, rfl, ?_⟩
      rcases g2 with ⟨_, g2⟩ | ⟨_, b, cur, rfl, _, _, _, _, g2⟩
      · exact .inl g2
      · exact .inr ⟨b, 0, rfl, fun i x hx => by rw [Nat.zero_add]; exact g2 i x hx⟩
    · cases h1
  | any => simp only [closeRd, Option.some.injEq] at h1; subst h1; simp [asDat] at h2
  | cst c => simp only [closeRd, Option.some.injEq] at h1; subst h1; simp [asDat] at h2
  | agg l => simp only [closeRd] at h1; obtain ⟨_, _, h⟩ := Option.bind_eq_some_iff.1 h1; simp only [Option.some.injEq] at h; subst h; simp [asDat] at h2
  | tup l => simp only [closeRd] at h1; obtain ⟨_, _, h⟩ := Option.bind_eq_some_iff.1 h1; simp only [Option.some.injEq] at h; subst h; simp [asDat] at h2
  | cptr l => simp only [closeRd] at h1; obtain ⟨_, _, h⟩ := Option.bind_eq_some_iff.1 h1; simp only [Option.some.injEq] at h; subst h; simp [asDat] at h2
  | fn f l => simp only [closeRd] at h1; obtain ⟨_, _, h⟩ := Option.bind_eq_some_iff.1 h1; simp only [Option.some.injEq] at h; subst h; simp [asDat] at h2
  | ifc T b => simp only [closeRd] at h1; obtain ⟨_, _, h⟩ := Option.bind_eq_some_iff.1 h1; simp only [Option.some.injEq] at h; subst h; simp [asDat] at h2
  | box t off =>
    simp only [closeRd] at h1
    split at h1
    · obtain ⟨_, _, h⟩ := Option.bind_eq_some_iff.1 h1; simp only [Option.some.injEq] at h; subst h; simp [asDat] at h2
    · cases h1
  | rptr t i sz off => simp [closeRd] at h1


theorem loadBytes {P : Program} {b : Nat} : ∀ {l : List Int} {off : Nat}, (∀ (i : Nat) x, l[i]? = some x → w.cell? ⟨b, off + i, none⟩ = some (.int .u8 x)) → (loadCells ⟨b, off, none⟩ l.length).run P w = .ok (l.map (Value.int .u8)).toArray w := by
  intro l off h
  have := run_loadCells_list (P := P) (w := w) ⟨b, off, none⟩ (l.map (Value.int .u8)) (fun j v hv => by
    rw [List.getElem?_map] at hv
    obtain ⟨x, hx, rfl⟩ := Option.map_eq_some_iff.1 hv
    rw [add_none]; exact h j x hx)
  simpa using this

/-- The operations that change nothing. -/
theorem opN_sound {C : Cfg} {ρ : Operand → AV} {o : Oper} (h : opN C σ ρ o K = some x) (ev : Operand → Value) (hρ : ∀ y, RV ok w μ (ρ y) (ev y))
    (hob : ∀ t ob, σ[t]? = some ob → ∀ v, μ t = some v → ObR ok w μ t ob) : NOk C.P ok w μ K x (execOp ev o) := by
  obtain ⟨dst, op, ty, pos, after, guard⟩ := o
  cases op <;> simp only [opN] at h <;> try (cases h; done)
  case move y => exact ⟨_, _, h, hρ y, by simp [execOp]⟩
  case assign y => exact ⟨_, _, h, hρ y, by simp [execOp]⟩
  case binOp op T a b U =>
    split at h
    · exact (spcK_sound a b h (hρ a) (hρ b)).next
    · exact (binK_sound h (hρ a) (hρ b) a b).next
  case unOp op T a => exact (unK_sound h (hρ a)).next
  case convert s d a =>
    split at h
    · rename_i hc
      simp only [Bool.and_eq_true] at hc
      obtain ⟨v0, h1, h⟩ := Option.bind_eq_some_iff.1 h
      obtain ⟨l, h2, h⟩ := Option.bind_eq_some_iff.1 h
      obtain ⟨ad, c, hv, hs⟩ := srcR_of h1 h2 (hρ a) hob
      obtain ⟨hs1, hs2⟩ := hc
      obtain ⟨E, hE, hE8⟩ : ∃ E, C.P.underlying s = some (.slice E) ∧ C.P.underlying E = some (.int .u8) := by
        unfold isBytesT at hs1
        split at hs1
        · rename_i E hu
          split at hs1
          · rename_i hu8; exact ⟨E, hu, hu8⟩
          · cases hs1
        · cases hs1
      have hd : C.P.underlying d = some .string := by
        unfold isStrT at hs2
        split at hs2
        · rename_i hu; exact hu
        · cases hs2
      refine Gives.next (s := convert s d (ev a)) ⟨_, _, h, RV.mkStr _, ?_⟩
      rw [hv, run_convert_bytes_string w s d E ad l.length c hE hE8 hd]
      rcases hs with rfl | ⟨b, off, rfl, hcs⟩
      · cases ad with
        | none => simp [Conv.bytesToString, bytesOf]
        | some ad => exact run_bytesToString w ad 0 c [] (by simp [loadCells, loadCellsFrom])
      · refine run_bytesToString w _ _ c l (loadBytes (fun i x hx => ?_))
        obtain ⟨cs, k1, k2, k3⟩ := hcs i x hx
        simp only [Sh.C] at k3
        subst k3
        have := k2 0 _ rfl
        simpa [Sh.size] using this
    · exact (convK_sound h (hρ a)).next
  case nilCheck y =>
    have hy := hρ y
    split at h
    · rename_i e; rw [e] at hy; simp only [RV] at hy; obtain ⟨b, h1, h2⟩ := hy; exact ⟨_, _, h, by simp only [RV]; exact ⟨b, h1, rfl⟩, by simp [execOp, h2]⟩
    · rename_i e; rw [e] at hy; have hy' := hy; simp only [RV] at hy; obtain ⟨b, off, cs, h2, _⟩ := hy; exact ⟨_, _, h, hy', by simp [execOp, h2]⟩
    · rename_i e; rw [e] at hy; have hy' := hy; simp only [RV] at hy; obtain ⟨b, n, c, _, _, h2⟩ := hy; exact ⟨_, _, h, hy', by simp [execOp, h2]⟩
    · rename_i e; rw [e] at hy; have hy' := hy; simp only [RV] at hy; obtain ⟨vs, h2, _⟩ := hy; exact ⟨_, _, h, hy', by simp [execOp, h2]⟩
    · rename_i e; rw [e] at hy; have hy' := hy; simp only [RV] at hy; obtain ⟨v, h2, _⟩ := hy; exact ⟨_, _, h, hy', by simp [execOp, h2]⟩
    · cases h
  case makeInterface T y =>
    split at h
    · cases h
    · rename_i d hu hne
      refine ⟨_, _, h, by simp only [RV]; exact ⟨_, rfl, hρ y⟩, ?_⟩
      simp only [execOp, Instr.makeInterface, Sem.run_bind, run_underlying hne, Result.andThen_ok]
      cases d <;> first | (exact absurd hne (hu _)) | simp
    · cases h
  case makeFunc fn first captured =>
    cases fn <;> simp only at h <;> try (cases h; done)
    rename_i f
    split at h
    · rename_i hf
      have : first = #[] := by simpa using hf
      subst this
      refine ⟨_, _, h, ?_, by simp [execOp, Instr.makeFunc]; rfl⟩
      simp only [RV]
      refine ⟨_, rfl, ?_⟩
      simp only [Array.toList_map]
      generalize captured.toList = l
      induction l with
      | nil => simp [RVL]
      | cons a l ih => exact RVL.cons' (hρ a) ih
    · cases h
  case build T parts =>
    split at h
    · rename_i fs hu
      obtain ⟨i, hi, h⟩ := Option.bind_eq_some_iff.1 h
      obtain ⟨z, hz, h⟩ := Option.bind_eq_some_iff.1 h
      obtain ⟨pl, hpl, h⟩ := Option.bind_eq_some_iff.1 h
      obtain ⟨cells, hc, h⟩ := Option.bind_eq_some_iff.1 h
      obtain ⟨cs', h1, h2⟩ := fillA_sound hρ parts.toList hc (RVL.ofVals z.cells.toList)
      refine ⟨_, _, h, by simp only [RV]; exact ⟨cs', rfl, h2⟩, ?_⟩
      have hb : C.P.built T (parts.map fun (i, x) => (i, ev x)).toList = some cs' := by
        simp only [Program.built, hi, hu, hz, hpl, Array.toList_map]
        exact h1
      simp only [execOp, Sem.run_bind, run_build w T _ cs' hb, Result.andThen_ok, Sem.run_pure]
    · cases h
  case load T a =>
    have ha := hρ a
    have fin : ∀ {cells : List AV} {b off : Nat} {cs : List Value} {av : AV}, ev a = .pointer (some ⟨b, off, none⟩) → takeT C.P T cells = some av → RVL ok w μ cells cs → CellsAt w b off cs → K av = some x →
        NOk C.P ok w μ K x (execOp ev ⟨dst, .load T a, ty, pos, after, guard⟩) := by
      intro cells b off cs av he ht hr hc hk
      obtain ⟨v, hv, hrun⟩ := takeT_sound ht hr hc
      exact ⟨av, v, hk, hv, by simp only [execOp, Instr.loadAt, he, Instr.sureAddr, Sem.run_bind, Sem.run_pure, Result.andThen_ok, hrun]⟩
    split at h
    · rename_i t off e
      rw [e] at ha; simp only [RV] at ha
      obtain ⟨b, hm, hv⟩ := ha
      split at h
      · rename_i own cells ht
        obtain ⟨av, h1, h2⟩ := Option.bind_eq_some_iff.1 h
        obtain ⟨cs, hc, hr⟩ := (hob t _ ht _ hm).cells hm off
        exact fin hv h1 hr hc h2
      · cases h
    · rename_i cells e
      rw [e] at ha; simp only [RV] at ha
      obtain ⟨b, off, cs, hv, _, hc, hr⟩ := ha
      obtain ⟨av, h1, h2⟩ := Option.bind_eq_some_iff.1 h
      exact fin hv h1 hr hc h2
    · rename_i t i z off e
      rw [e] at ha; simp only [RV] at ha
      obtain ⟨b, n, c, hm, hi, hv⟩ := ha
      split at h
      · rename_i own T' e' l ht
        split at h
        · rename_i hz
          simp only [Bool.and_eq_true, beq_iff_eq, decide_eq_true_eq] at hz
          obtain ⟨av, h1, h2⟩ := Option.bind_eq_some_iff.1 h
          obtain ⟨_, cs, hl, hc, hC⟩ := (hob t _ ht _ hm).elem hm hi
          rw [hz.1] at hv
          exact fin hv h1 ((cellsOf_rv hC).drop off) (hc.drop off) h2
        · cases h
      · cases h
    · cases h
  case fieldAddr T y f =>
    obtain ⟨p, hp, h⟩ := Option.bind_eq_some_iff.1 h
    obtain ⟨n, hn, h⟩ := Option.bind_eq_some_iff.1 h
    split at h
    · cases h
    · rename_i h0
      have h0' : n ≠ 0 := by simpa using h0
      have hy := hρ y
      split at h
      · rename_i e; rw [e] at hy; simp only [RV] at hy
        obtain ⟨b, hm, hv⟩ := hy
        exact ⟨_, _, h, by simp only [RV]; exact ⟨b, hm, rfl⟩, by simp only [execOp, hv, Sem.run_bind, run_fieldAt hp hn h0', Result.andThen_ok, Sem.run_pure]⟩
      · rename_i e; rw [e] at hy; simp only [RV] at hy
        obtain ⟨b, off, cs, hv, hk, hc, hr⟩ := hy
        exact ⟨_, _, h, by simp only [RV]; exact ⟨b, off + p.1, cs.drop p.1, rfl, hk, hc.drop _, hr.drop _⟩, by simp only [execOp, hv, Sem.run_bind, run_fieldAt hp hn h0', Result.andThen_ok, Sem.run_pure]⟩
      · rename_i t i z off e; rw [e] at hy; simp only [RV] at hy
        obtain ⟨b, n', c, hm, hi, hv⟩ := hy
        exact ⟨_, _, h, by simp only [RV]; exact ⟨b, n', c, hm, hi, rfl⟩, by simp only [execOp, hv, Sem.run_bind, run_fieldAt hp hn h0', Result.andThen_ok, Sem.run_pure, Nat.add_assoc]⟩
      · cases h
  case field T y f =>
    obtain ⟨p, hp, h⟩ := Option.bind_eq_some_iff.1 h
    obtain ⟨k, hk, h⟩ := Option.bind_eq_some_iff.1 h
    have hy := hρ y
    split at h
    · rename_i l e
      rw [e] at hy; simp only [RV] at hy
      obtain ⟨cs, hv, hr⟩ := hy
      split at h
      · rename_i hc
        simp only [Bool.and_eq_true, decide_eq_true_eq] at hc
        obtain ⟨av, h1, h2⟩ := Option.bind_eq_some_iff.1 h
        have hrv := takeT_val h1 (hr.drop p.1) hk hc.1
        obtain ⟨d, hd⟩ : ∃ d, C.P.underlying p.2 = some d := by
          unfold takeT at h1; split at h1
          · cases h1
          · rename_i d hd; exact ⟨d, hd⟩
        have hrun := run_field (w := w) hp hk hc.1 hd cs.toList (by rw [← hr.len]; exact hc.2)
        exact ⟨_, _, h2, hrv, by simp only [execOp, hv, Sem.run_bind]; rw [show cs = cs.toList.toArray by simp, hrun]; simp⟩
      · cases h
    · cases h
  case indexAddr T y i =>
    obtain ⟨E, hE, h⟩ := Option.bind_eq_some_iff.1 h
    obtain ⟨n, hn, h⟩ := Option.bind_eq_some_iff.1 h
    have hy := hρ y
    have hi := hρ i
    split at h
    · rename_i e l k j e1 e2
      rw [e1] at hy; rw [e2] at hi
      have hi' := hi.int
      obtain ⟨a, c, hv, hlc, hl⟩ := hy.sl
      split at h
      · rename_i hsz
        have hsz' : n = e.size := by simpa using hsz
        rcases cond_some h with ⟨hb, h⟩ | ⟨_, h⟩
        · obtain ⟨b1, b2⟩ := inB_spec hb
          rcases hl with rfl | ⟨b, off, rfl, hok, hl⟩
          · simp at b2; omega
          · have hlt : j.toNat < l.length := by omega
            obtain ⟨cs, h1, h2, h3⟩ := hl j.toNat _ (getD_of_lt (d := e.dflt) hlt)
            refine ⟨_, .pointer (some ⟨b, off + j.toNat * n, none⟩), h, ?_, by simp only [execOp, hv, hi', Sem.run_bind, run_indexAt_slice hE hn b1 b2, Result.andThen_ok, Sem.run_pure]⟩
            simp only [RV]
            exact ⟨b, off + j.toNat * n, cs, rfl, hok, by rw [hsz']; exact h2, cellsOf_rv h3⟩
        · cases h
      · cases h
    · rename_i t k j e1 e2
      rw [e1] at hy; rw [e2] at hi
      have hi' := hi.int
      simp only [RV] at hy
      obtain ⟨hm, a, n', c, hv⟩ := hy
      split at h
      · rename_i own T' e' l ht
        split at h
        · rename_i hsz
          have hsz' : n = e'.size := by simpa using hsz
          rcases cond_some h with ⟨hb, h⟩ | ⟨_, h⟩
          · obtain ⟨b1, b2⟩ := inB_spec hb
            obtain ⟨v', g1, ⟨a', c', rfl, g2⟩, _⟩ := hob t _ ht _ hm
            rw [hm] at g1
            rw [hv] at g1
            simp only [Option.some.injEq, Value.slice.injEq] at g1
            obtain ⟨rfl, rfl, rfl⟩ := g1
            rcases g2 with ⟨_, rfl⟩ | ⟨_, b, cur, rfl, _⟩
            · simp at b2; omega
            · refine ⟨_, .pointer (some ⟨b, 0 + j.toNat * n, none⟩), h, ?_, by simp only [execOp, hv, hi', Sem.run_bind, run_indexAt_slice hE hn b1 b2, Result.andThen_ok, Sem.run_pure]⟩
              simp only [RV]
              exact ⟨b, l.length, c, by rw [hm, hv], by omega, by simp⟩
          · cases h
        · cases h
      · cases h
    · cases h
  case index T y i =>
    have hy := hρ y
    have hi := hρ i
    split at h
    · rename_i s k j hu e1 e2
      rw [e1] at hy; rw [e2] at hi
      have hi' := hi.int
      have hy' := hy.str
      rcases cond_some h with ⟨hb, h⟩ | ⟨_, h⟩
      · obtain ⟨b1, b2⟩ := inB_spec hb
        have hlt : j.toNat < s.size := by omega
        have hg : s[j.toNat]? = some (s[j.toNat]'hlt) := by simp [getElem?_pos, hlt]
        have hd : byteAt s j = (s[j.toNat]'hlt).toNat := by
          have hlt' : j.toNat < s.data.toList.length := by simpa using hlt
          simp only [byteAt, List.getD, List.getElem?_eq_getElem hlt', Option.getD_some]
          rfl
        refine ⟨_, _, h, RV.mkInt _ _, ?_⟩
        simp only [execOp, hy', hi', Instr.index, Sem.run_bind, asIntOf, Sem.run_pure, Result.andThen_ok, run_underlying hu, b1, if_true, hg, hd]
      · cases h
    · cases h
  case slice T y lo hi mx =>
    have hy := hρ y
    cases mx with
    | some m => cases h
    | none =>
      simp only at h
      have lowE : ∀ {i : Int} {k : IntKind}, (match lo with | some y => ρ y | none => AV.dat (.int .i64) (0 : Int)) = .dat (.int k) i → (lo.map ev = none ∧ i = 0) ∨ ∃ k, lo.map ev = some (.int k i) := by
        intro i k e
        cases lo with
        | none => simp at e; exact .inl ⟨rfl, e.2.symm⟩
        | some y => simp only at e; exact .inr ⟨k, by have := hρ y; rw [e] at this; simp [this.int]⟩
      have highE : ∀ {n : Nat} {j : Int} {k : IntKind}, (match hi with | some y => ρ y | none => AV.dat (.int .i64) (n : Int)) = .dat (.int k) j → (hi.map ev = none ∧ j = n) ∨ ∃ k, hi.map ev = some (.int k j) := by
        intro n j k e
        cases hi with
        | none => simp at e; exact .inl ⟨rfl, e.2.symm⟩
        | some y => simp only at e; exact .inr ⟨k, by have := hρ y; rw [e] at this; simp [this.int]⟩
      split at h
      · rename_i s hu e1
        rw [e1] at hy
        have hy' := hy.str
        split at h
        · rename_i k i k' j ea eb
          rcases cond_some h with ⟨hb, h⟩ | ⟨_, h⟩
          · simp only [Bool.and_eq_true, decide_eq_true_eq] at hb
            refine ⟨_, _, h, RV.mkStr _, ?_⟩
            have hbd := run_sliceBounds_plain (P := C.P) (w := w) false s.size s.size (lo.map ev) (hi.map ev) i j (lowE ea) (highE eb) hb.1 hb.2.1 hb.2.2 (Nat.le_refl _)
            simp only [execOp, hy', Option.map_none, Instr.sliceAt, Sem.run_bind, run_underlying hu, Result.andThen_ok, Instr.slice, Option.isSome_none, Bool.false_eq_true, if_false, Sem.run_pure, hbd, Sem.run_ite]
          · cases h
        · cases h
      · rename_i E e l hu e1
        rw [e1] at hy
        obtain ⟨a, c, hv, hlc, hl⟩ := hy.sl
        obtain ⟨n, hn, h⟩ := Option.bind_eq_some_iff.1 h
        split at h
        · rename_i hsz
          have hsz' : n = e.size := by simpa using hsz
          split at h
          · rename_i k i k' j ea eb
            rcases cond_some h with ⟨hb, h⟩ | ⟨_, h⟩
            · simp only [Bool.and_eq_true, decide_eq_true_eq] at hb
              obtain ⟨i, rfl⟩ : ∃ i' : Int, i' = i := ⟨i, rfl⟩
              obtain ⟨j, rfl⟩ : ∃ j' : Int, j' = j := ⟨j, rfl⟩
              have q1 : (0 : Int) ≤ i := hb.1
              have q2 : (i : Int) ≤ j := hb.2.1
              have q3 : (j : Int) ≤ ((List.length l : Nat) : Int) := hb.2.2
              have hbd := run_sliceBounds_plain (P := C.P) (w := w) true l.length c (lo.map ev) (hi.map ev) i j (lowE ea) (highE eb) hb.1 hb.2.1 hb.2.2 hlc
              refine ⟨_, .slice (if c = i.toNat then a else Option.map (fun x => x.add (i.toNat * n)) a) (j.toNat - i.toNat) (c - i.toNat), h, ?_, by simp only [execOp, hv, Option.map_none, Instr.sliceAt, Sem.run_bind, run_underlying hu, Result.andThen_ok, Instr.slice, hbd, run_sizeOf' hn, Sem.run_pure]⟩
              have hlen : ((l.take j.toNat).drop i.toNat).length = j.toNat - i.toNat := by simp; omega
              simp only [RV, Sh.C]
              refine ⟨if c = i.toNat then a else Option.map (fun x => x.add (i.toNat * n)) a, c - i.toNat, by rw [hlen], by rw [hlen]; omega, ?_⟩
              by_cases he : (l.take j.toNat).drop i.toNat = []
              · exact .inl he
              · right
                have hpos : 0 < j.toNat - i.toNat := by rw [← hlen]; exact List.length_pos_iff.2 he
                rcases hl with rfl | ⟨b, off, rfl, hok, hl⟩
                · simp at he
                · refine ⟨b, off + i.toNat * n, by rw [if_neg (by omega)]; simp [add_none], hok, fun q x hx => ?_⟩
                  have hx' : l[i.toNat + q]? = some x := by
                    rw [List.getElem?_drop, List.getElem?_take] at hx
                    split at hx
                    · exact hx
                    · cases hx
                  obtain ⟨cs, h1, h2, h3⟩ := hl _ _ hx'
                  refine ⟨cs, h1, ?_, h3⟩
                  rw [hsz', Nat.add_assoc, ← Nat.add_mul]
                  exact h2
            · cases h
          · cases h
        · cases h
      · rename_i E t hu e1
        rw [e1] at hy
        split at h
        · obtain ⟨n0, hn, h⟩ := Option.bind_eq_some_iff.1 h
          have hy' := hy
          simp only [RV] at hy
          obtain ⟨hm, a, n, c, hv⟩ := hy
          refine ⟨_, _, h, hy', ?_⟩
          simp only [execOp, hv, Option.map_none, Instr.sliceAt, Sem.run_bind, run_underlying hu, Result.andThen_ok, Instr.slice, Instr.sliceBounds, run_sizeOf' hn, Sem.run_pure, Option.isSome_none]
          congr 3
          · split
            · rfl
            · cases a with
              | none => rfl
              | some a => simp [Addr.add]
        · cases h
      · cases h
  case extract y i =>
    have hy := hρ y
    split at h
    · rename_i l e
      rw [e] at hy; simp only [RV] at hy
      obtain ⟨cs, hv, hr⟩ := hy
      obtain ⟨a, h1, h2⟩ := Option.bind_eq_some_iff.1 h
      obtain ⟨v, g1, g2⟩ := hr.get i a h1
      exact ⟨_, _, h2, g2, by simp [execOp, hv, Instr.extract, show cs[i]? = some v by simpa using g1]⟩
    · cases h
  case call c =>
    obtain ⟨cal, args, ats⟩ := c
    have hargs : ∀ (l : List Operand), RVL ok w μ (l.map ρ) (l.map ev) := by
      intro l
      induction l with
      | nil => simp [RVL]
      | cons a l ih => exact RVL.cons' (hρ a) ih
    cases cal <;> simp only at h <;> try (cases h; done)
    rename_i b
    cases b <;> simp only at h <;> try (cases h; done)
    case len =>
      split at h
      · rename_i y T ea et
        have e1 : args = #[y] := by cases args; simp at ea; simp [ea]
        have e2 : ats = #[T] := by cases ats; simp at et; simp [et]
        subst e1 e2
        obtain ⟨av, v, h1, h2, h3⟩ := lenK_sound (U := ty) h (hρ y) hob
        exact ⟨av, v, h1, h2, by simp only [execOp, Go.resolve, invoke, builtin, Sem.run_bind, Sem.run_pure, Result.andThen_ok, List.map_toArray, List.map_cons, List.map_nil, h3]⟩
      · cases h
    case max =>
      obtain ⟨av, v, h1, h2, h3⟩ := minK_sound (P := C.P) h (hargs args.toList)
      have h3' := h3 ats ty
      simp only [if_true] at h3'
      refine ⟨av, v, h1, h2, ?_⟩
      simp only [execOp, Go.resolve, invoke, builtin, Sem.run_bind, Sem.run_pure, Result.andThen_ok]
      rw [show (Array.map ev args) = (args.toList.map ev).toArray from by cases args; simp, h3']
      simp
    case min =>
      obtain ⟨av, v, h1, h2, h3⟩ := minK_sound (P := C.P) h (hargs args.toList)
      have h3' := h3 ats ty
      simp only [Bool.false_eq_true, if_false] at h3'
      refine ⟨av, v, h1, h2, ?_⟩
      simp only [execOp, Go.resolve, invoke, builtin, Sem.run_bind, Sem.run_pure, Result.andThen_ok]
      rw [show (Array.map ev args) = (args.toList.map ev).toArray from by cases args; simp, h3']
      simp

end
end Gv
