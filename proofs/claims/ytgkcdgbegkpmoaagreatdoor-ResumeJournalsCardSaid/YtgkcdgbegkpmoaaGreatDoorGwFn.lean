/- Functions: the theorem. -/
import Derived.Test.YtgkcdgbegkpmoaaGreatDoorGwPc
namespace Gv
open Go Go.RowKit
set_option linter.unusedVariables false
set_option linter.unusedSectionVars false
set_option linter.unusedSimpArgs false

section
variable [GlobI] {E : Env} {avs : List AV} {slots : List AV} {σ σ' σ'' : List Ob} {μ μ' : Nat → Option Value} {vs : List Value} {w w' : World} {ok ok' : Nat → Prop} {α : Type} {x : α} {P : Program} {Q : Exit → Act → World → Prop} {a : Act}

theorem resOf_sound {C : Cfg} {st : St} (h : HR E st.σ μ st a w) {r : ResultVar} {av : AV} (hr : resOf C st r = some av) :
    ∃ v, RV (okN E st.σ μ w) w μ av v ∧ (match r with
      | .tmp t => pure (a.tmps.getD t undef)
      | .cell x t => (do loadVar t (← asAddr (a.tmps.getD x undef))) : Sem Value).run C.P w = .ok v w := by
  cases r with
  | tmp t =>
    simp only [resOf, Option.some.injEq] at hr
    subst hr
    exact ⟨_, evOp_rv h.vals (.tmp t), rfl⟩
  | cell c T =>
    simp only [resOf] at hr
    have hc := evOp_rv h.vals (.tmp c)
    simp only [evOp, Act.eval] at hc
    split at hr
    · rename_i t off hg
      rw [hg] at hc
      simp only [RV] at hc
      obtain ⟨b, hm, hv⟩ := hc
      split at hr
      · rename_i own cells ht
        obtain ⟨b', vs, U, h1, h2, h3, _⟩ := h.objs t _ ht _ hm
        rw [hm] at h1; cases h1
        have hcells : CellsAt w b off (vs.toList.drop off) := by
          intro j v hj
          rw [List.getElem?_drop] at hj
          simp only [World.cell?, h2]
          simpa using hj
        obtain ⟨v, g1, g2⟩ := takeT_sound hr (h3.drop off) hcells
        refine ⟨v, g1, ?_⟩
        simp only [hv, asAddr, Sem.run_bind, Sem.run_pure, Result.andThen_ok]
        exact g2
      · cases hr
    · cases hr

/-- A result, read off the end of a call. -/
def resSem (tmps : Array Value) : ResultVar → Sem Value
  | .tmp t => pure (tmps.getD t undef)
  | .cell x t => do loadVar t (← asAddr (tmps.getD x undef))

theorem resList_sound {C : Cfg} {st : St} (h : HR E st.σ μ st a w) : ∀ (l : List ResultVar) {avs : List AV}, mapO (resOf C st) l = some avs → ∃ vs : List Value, RVL (okN E st.σ μ w) w μ avs vs ∧ (l.mapM (resSem a.tmps)).run C.P w = .ok vs w
  | [], avs, hr => by
    simp only [mapO, Option.some.injEq] at hr; subst hr
    exact ⟨[], RVL.nil_iff.2 rfl, rfl⟩
  | r :: l, avs, hr => by
    simp only [mapO] at hr
    obtain ⟨av, h1, hr⟩ := Option.bind_eq_some_iff.1 hr
    obtain ⟨avs', h2, hr⟩ := Option.bind_eq_some_iff.1 hr
    simp only [Option.some.injEq] at hr; subst hr
    obtain ⟨v, g1, g2⟩ := resOf_sound h h1
    obtain ⟨vs, g3, g4⟩ := resList_sound h l h2
    have g2' : (resSem a.tmps r).run C.P w = .ok v w := by cases r <;> exact g2
    exact ⟨v :: vs, RVL.cons' g1 g3, by simp only [List.mapM_cons, Sem.run_bind, g2', Result.andThen_ok, g4, Sem.run_pure]⟩

theorem results_sound {C : Cfg} {fn : Func} {st : St} (h : HR E st.σ μ st a w) {r : AV} (hr : retOf C fn st = some r) : ∃ v, RV (okN E st.σ μ w) w μ r v ∧ (results fn a.tmps).run C.P w = .ok v w := by
  unfold retOf at hr
  obtain ⟨avs, h1, hr⟩ := Option.bind_eq_some_iff.1 hr
  obtain ⟨vs, g1, g2⟩ := resList_sound h fn.results.toList h1
  have e : (results fn a.tmps) = (do let vs ← fn.results.mapM (resSem a.tmps); pure (if h : vs.size = 1 then vs[0] else .tuple vs)) := by
    unfold results
    rfl
  rw [e, Array.mapM_eq_mapM_toList]
  simp only [Sem.run_bind, Sem.run_map, g2, Result.andThen_ok, Sem.run_pure]
  have hl := g1.len
  split at hr
  · rename_i av
    simp only [Option.some.injEq] at hr; subst hr
    obtain ⟨v, r', rfl, k1, k2⟩ := RVL.cons_iff.1 g1
    have := RVL.nil_iff.1 k2; subst this
    exact ⟨v, k1, rfl⟩
  · rename_i hne
    simp only [Option.some.injEq] at hr; subst hr
    refine ⟨.tuple vs.toArray, by simp only [RV]; exact ⟨_, rfl, g1⟩, ?_⟩
    have hsz : ¬ (vs.toArray.size = 1) := by
      intro hs
      simp only [List.size_toArray] at hs
      rw [← hl] at hs
      match avs, hs, hne with
      | [x], _, hne => exact hne x rfl
    simp only [dif_neg hsz]

theorem dstOk_zero (c : Code) : dstOk 0 c = true := by
  induction c with
  | region id ops draw =>
    simp only [dstOk, List.all_eq_true]
    intro o _
    cases o.dst <;> simp
  | seq a b h1 h2 => simp only [dstOk, h1, h2, Bool.and_self]
  | cond o a b h1 h2 => simp only [dstOk, h1, h2, Bool.and_self]
  | block id a h => simpa only [dstOk] using h
  | loop a h => simpa only [dstOk] using h
  | _ => rfl

theorem take_same {n m : Nat} {a a' : Act} (k : SameC n a a') (hm : m ≤ n) : a'.tmps.toList.take m = a.tmps.toList.take m := by
  apply List.ext_getElem?
  intro i
  rw [List.getElem?_take, List.getElem?_take]
  split
  · have := k.tm i (by omega)
    simpa using this
  · rfl

/-- A function keeps the contract that its body was reckoned to. -/
theorem sat_of {C : Cfg} (hC : ∀ g l N, C.orc g l = some N → Sat C.P g N) (hm : C.P.follows .mixedOrders = true) {n : Nat} {g : FuncId} {fn : Func} {body : Code} (hf : C.P.funcs[g]? = some fn) (hname : (fn.name == "runtime.NumGoroutine") = false) (hbody : fn.body = some body)
    (hp : ∀ q c pc, At body q c → C.pcs q = some pc → Piece C.P n c pc) {A : Sig} {outs : List Out} {f : A.V → Option (OutsV outs)} (hev : ∀ x, evF C fn A outs x = f x) (ho : outsOk outs)
    (hd : dstOk n body = true) (hA : n ≤ A.n) (hR : outs.all (fun o => decide (0 < o.R.n) && decide (o.R.n ≤ n + 1)) = true) :
    Sat C.P g ⟨A, outs, f⟩ where
  fn := ⟨fn, hf, hname, by rw [hbody]; rfl⟩
  run := by
    intro x y h w Rb ok0 μ args hr
    simp only at h hr
    rw [← hev] at h
    have hbo : bodyOf fn = body := by unfold bodyOf; rw [hbody]; rfl
    unfold evF at h
    simp only [hbo] at h
    have hlen := hr.vals.len
    have hlenA : args.length = A.n := by rw [← hlen, Sig.put_len]
    refine calls_of_wp hf hbody ?_
    have hH : Holds ⟨w, Rb, ok0⟩ ⟨(A.put x).slots ++ List.replicate (fn.ntmps - (A.put x).slots.length) .any, (A.put x).σ⟩ { tmps := args.toArray ++ Array.replicate (fn.ntmps - args.toArray.size) undef, defers := [] } w := by
      refine ⟨μ, ?_⟩
      have e : (({ tmps := args.toArray ++ Array.replicate (fn.ntmps - args.toArray.size) undef, defers := [] } : Act).tmps.toList.take ((A.put x).slots ++ List.replicate (fn.ntmps - (A.put x).slots.length) AV.any).length) = args ++ List.replicate (fn.ntmps - (A.put x).slots.length) undef := by
        simp only [Array.toList_append, Array.toList_replicate, List.length_append, List.length_replicate, List.size_toArray, hlen]
        exact List.take_of_length_le (by simp)
      rw [e]
      refine { hr with vals := hr.vals.append ?_ }
      have := RVL.anys (ok := okN ⟨w, Rb, ok0⟩ (A.put x).σ μ w) (w := w) (μ := μ) (List.replicate (fn.ntmps - (A.put x).slots.length) undef)
      rwa [List.length_replicate] at this
    -- what a signature takes at the end
    have endR : ∀ (R : Sig) (rv : R.V) (sl : List AV) (σ1 : List Ob) (v : Value) (a' : Act) (w' : World) (μ' : Nat → Option Value) (L : Nat), 0 < R.n → R.n ≤ n + 1 → sl.length = L + 1 → R.get sl σ1 = some rv →
        SameC n { tmps := args.toArray ++ Array.replicate (fn.ntmps - args.toArray.size) undef, defers := [] } a' → Rel ⟨w, Rb, ok0⟩ sl σ1 μ' (v :: a'.tmps.toList.take L) w' →
        ∃ μ, Rel ⟨w, Rb, ok0⟩ (R.put rv).slots (R.put rv).σ μ ((v :: args).take (R.put rv).slots.length) w' := by
      intro R rv sl σ1 v a' w' μ' L h0 h1 h2 h4 k3 hr2
      obtain ⟨⟨m, rd, v1⟩, q1, q2⟩ := Option.bind_eq_some_iff.1 h4
      simp only [Option.some.injEq] at q2; subst q2
      obtain ⟨us, k, hF, hn⟩ := hr2.taken q1
      obtain ⟨e1, _, _⟩ := k.rel hF
      have htk : (v :: a'.tmps.toList.take L).take R.n = (v :: args).take R.n := by
        obtain ⟨q, hRn⟩ : ∃ q, R.n = q + 1 := ⟨R.n - 1, by omega⟩
        rw [hRn]
        rw [h2] at hn
        simp only [List.take_succ_cons, List.take_take]
        rw [Nat.min_eq_left (by omega), take_same k3 (by omega)]
        simp only [Array.toList_append, Array.toList_replicate]
        rw [List.take_append_of_le_length (by omega)]
      rw [htk] at e1
      rw [Sig.put_len]
      exact ⟨_, e1⟩
    refine evC_sound hC hm body 1 _ _ y h .root hd (fun q c' pc _ => hp q c' pc) _ _ w _ hH (fun e st' k1 => ?_)
    have fin : ((retOf C fn st').bind fun r => pickO outs .ret (r :: st'.slots) st'.σ) = some y → ∀ a' w', Holds ⟨w, Rb, ok0⟩ st' a' w' → SameC n { tmps := args.toArray ++ Array.replicate (fn.ntmps - args.toArray.size) undef, defers := [] } a' →
        a'.defers = [] ∧ ∃ v, (results fn a'.tmps).run C.P w' = .ok v w' ∧ OutP outs y (Ended ⟨w, Rb, ok0⟩ args w' (.returned v)) := by
      intro hh a' w' k2 k3
      obtain ⟨r, h3, h4⟩ := Option.bind_eq_some_iff.1 hh
      obtain ⟨μ', hr'⟩ := Rel.of_holds k2
      obtain ⟨v, g1, g2⟩ := results_sound hr' h3
      refine ⟨k3.de, v, g2, ?_⟩
      have hr2 : Rel ⟨w, Rb, ok0⟩ (r :: st'.slots) st'.σ μ' (v :: a'.tmps.toList.take st'.slots.length) w' := { hr' with vals := RVL.cons' g1 hr'.vals }
      refine OutQ.monoM (pickO_spec ho h4) (fun o hmem y1 hy => ?_)
      obtain ⟨he, hget⟩ := hy
      have hRo := List.all_eq_true.1 hR o hmem
      simp only [Bool.and_eq_true, decide_eq_true_eq] at hRo
      rw [← he]
      exact endR o.R _ _ _ v a' w' μ' _ hRo.1 hRo.2 rfl hget k3 hr2
    cases e with
    | normal => exact fun a' w' k2 k3 => fin k1 a' w' k2 k3
    | ret => exact fun a' w' k2 k3 => fin k1 a' w' k2 k3
    | exit id => cases k1
    | pan =>
      intro pv a' w' k2 k3
      refine ⟨k3.de, ?_⟩
      obtain ⟨μ', hr2⟩ := k2
      refine OutQ.monoM (pickO_spec ho k1) (fun o hmem y1 hy => ?_)
      obtain ⟨he, hget⟩ := hy
      have hRo := List.all_eq_true.1 hR o hmem
      simp only [Bool.and_eq_true, decide_eq_true_eq] at hRo
      rw [← he]
      refine ⟨pv, rfl, ?_⟩
      cases hsl : st'.slots with
      | nil =>
        have := hr2.vals
        rw [hsl] at this
        simp only [RVL] at this
        cases this
      | cons b sl =>
        rw [hsl] at hr2 hget
        exact endR o.R _ _ _ pv a' w' μ' sl.length hRo.1 hRo.2 rfl hget k3 hr2

theorem sat_none {g : FuncId} {fn : Func} {body : Code} (hf : P.funcs[g]? = some fn) (hname : (fn.name == "runtime.NumGoroutine") = false) (hbody : fn.body = some body) {A : Sig} {outs : List Out} {f : A.V → Option (OutsV outs)} (h : ∀ x, f x = none) :
    Sat P g ⟨A, outs, f⟩ where
  fn := ⟨fn, hf, hname, by rw [hbody]; rfl⟩
  run := fun x y hxy => by simp only [h] at hxy; cases hxy

theorem ooN : outsOk [] := fun o ho => by simp at ho
theorem ooC {o : Out} {l : List Out} (h : ∀ v, o.mk1 (o.un v) = v) (hl : outsOk l) : outsOk (o :: l) := fun o' ho => by
  rcases List.mem_cons.1 ho with rfl | ho
  · exact h
  · exact hl o' ho

theorem satNil : ∀ z ∈ ([] : List (Nat × List Nat × Ent)), Sat P z.1 z.2.2 := fun z hz => by simp at hz
theorem satCons {g : Nat} {l : List Nat} {N : Ent} {t : List (Nat × List Nat × Ent)} (h : Sat P g N) (ht : ∀ z ∈ t, Sat P z.1 z.2.2) : ∀ z ∈ (g, l, N) :: t, Sat P z.1 z.2.2 := fun z hz => by
  rcases List.mem_cons.1 hz with rfl | hz
  · exact h
  · exact ht z hz
theorem satAll {t : List (Nat × List Nat × Ent)} (ht : ∀ z ∈ t, Sat P z.1 z.2.2) : ∀ g l N, look2 t g l = some N → Sat P g N := by
  induction t with
  | nil => intro g l N h; simp [look2] at h
  | cons z t ih =>
    obtain ⟨m, k, N'⟩ := z
    intro g l N h
    simp only [look2] at h
    split at h
    · rename_i hm
      simp only [Bool.and_eq_true, beq_iff_eq] at hm
      obtain ⟨rfl, rfl⟩ := hm; cases h
      exact ht (m, k, N') (by simp)
    · exact ih (fun z hz => ht z (List.mem_cons_of_mem _ hz)) g l N h

theorem locNil {C : Cfg} {n : Nat} {body : Code} : ∀ z ∈ ([] : List (Nat × Pc)), Loc C n body z.1 z.2 := fun z hz => by simp at hz
theorem locCons {C : Cfg} {n : Nat} {body : Code} {p : Nat} {pc : Pc} {t : List (Nat × Pc)} (h : Loc C n body p pc) (ht : ∀ z ∈ t, Loc C n body z.1 z.2) : ∀ z ∈ (p, pc) :: t, Loc C n body z.1 z.2 := fun z hz => by
  rcases List.mem_cons.1 hz with rfl | hz
  · exact h
  · exact ht z hz

end
end Gv
