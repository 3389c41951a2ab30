/- Functions: the theorem. -/
import Derived.Test.YtgkcdgbegkpmoaaGvPc
namespace Gv
open Go Go.RowKit
set_option linter.unusedVariables false
set_option linter.unusedSimpArgs false

section
variable {E : Env} {avs : List AV} {slots : List AV} {σ σ' σ'' : List Ob} {μ μ' : Nat → Option Value} {vs : List Value} {w w' : World} {ok ok' : Nat → Prop} {α : Type} {x : α} {P : Program} {Q : Exit → Act → World → Prop} {a : Act}

theorem resOf_sound {C : Cfg} {st : St} (h : HR E st.σ μ st a w) {r : ResultVar} {av : AV} (hr : resOf C st r = some av) :
    ∃ v, RV (okN E st.σ μ w) w μ av v ∧ (match r with
      | .tmp t => pure (a.tmps.getD t undef)
      | .cell x t => (do loadVar t (← asAddr (a.tmps.getD x undef))) : Sem Value).run C.P w = .ok v w := by
  cases r with
  | tmp t =>
    simp only [resOf, Option.some.injEq] at hr
    subst hr
    exact ⟨_, evOp_rv h.vals (.tmp t), rfl⟩
  | cell c T =>
    simp only [resOf] at hr
    have hc := evOp_rv h.vals (.tmp c)
    simp only [evOp, Act.eval] at hc
    split at hr
    · rename_i t off hg
      rw [hg] at hc
      simp only [RV] at hc
      obtain ⟨b, hm, hv⟩ := hc
      split at hr
      · rename_i own cells ht
        obtain ⟨b', vs, U, h1, h2, h3, _⟩ := h.objs t _ ht _ hm
        rw [hm] at h1; cases h1
        have hcells : CellsAt w b off (vs.toList.drop off) := by
          intro j v hj
          rw [List.getElem?_drop] at hj
          simp only [World.cell?, h2]
          simpa using hj
        obtain ⟨v, g1, g2⟩ := takeT_sound hr (h3.drop off) hcells
        refine ⟨v, g1, ?_⟩
        simp only [hv, asAddr, Sem.run_bind, Sem.run_pure, Result.andThen_ok]
        exact g2
      · cases hr
    · cases hr

/-- A result, read off the end of a call. -/
def resSem (tmps : Array Value) : ResultVar → Sem Value
  | .tmp t => pure (tmps.getD t undef)
  | .cell x t => do loadVar t (← asAddr (tmps.getD x undef))

theorem resList_sound {C : Cfg} {st : St} (h : HR E st.σ μ st a w) : ∀ (l : List ResultVar) {avs : List AV}, mapO (resOf C st) l = some avs → ∃ vs : List Value, RVL (okN E st.σ μ w) w μ avs vs ∧ (l.mapM (resSem a.tmps)).run C.P w = .ok vs w
  | [], avs, hr => by
    simp only [mapO, Option.some.injEq] at hr; subst hr
    exact ⟨[], RVL.nil_iff.2 rfl, rfl⟩
  | r :: l, avs, hr => by
    simp only [mapO] at hr
    obtain ⟨av, h1, hr⟩ := Option.bind_eq_some_iff.1 hr
    obtain ⟨avs', h2, hr⟩ := Option.bind_eq_some_iff.1 hr
    simp only [Option.some.injEq] at hr; subst hr
    obtain ⟨v, g1, g2⟩ := resOf_sound h h1
    obtain ⟨vs, g3, g4⟩ := resList_sound h l h2
    have g2' : (resSem a.tmps r).run C.P w = .ok v w := by cases r <;> exact g2
    exact ⟨v :: vs, RVL.cons' g1 g3, by simp only [List.mapM_cons, Sem.run_bind, g2', Result.andThen_ok, g4, Sem.run_pure]⟩

theorem results_sound {C : Cfg} {fn : Func} {st : St} (h : HR E st.σ μ st a w) {r : AV} (hr : retOf C fn st = some r) : ∃ v, RV (okN E st.σ μ w) w μ r v ∧ (results fn a.tmps).run C.P w = .ok v w := by
  unfold retOf at hr
  obtain ⟨avs, h1, hr⟩ := Option.bind_eq_some_iff.1 hr
  obtain ⟨vs, g1, g2⟩ := resList_sound h fn.results.toList h1
  have e : (results fn a.tmps) = (do let vs ← fn.results.mapM (resSem a.tmps); pure (if h : vs.size = 1 then vs[0] else .tuple vs)) := by
    unfold results
    rfl
  rw [e, Array.mapM_eq_mapM_toList]
  simp only [Sem.run_bind, Sem.run_map, g2, Result.andThen_ok, Sem.run_pure]
  have hl := g1.len
  split at hr
  · rename_i av
    simp only [Option.some.injEq] at hr; subst hr
    obtain ⟨v, r', rfl, k1, k2⟩ := RVL.cons_iff.1 g1
    have := RVL.nil_iff.1 k2; subst this
    exact ⟨v, k1, rfl⟩
  · rename_i hne
    simp only [Option.some.injEq] at hr; subst hr
    refine ⟨.tuple vs.toArray, by simp only [RV]; exact ⟨_, rfl, g1⟩, ?_⟩
    have hsz : ¬ (vs.toArray.size = 1) := by
      intro hs
      simp only [List.size_toArray] at hs
      rw [← hl] at hs
      match avs, hs, hne with
      | [x], _, hne => exact hne x rfl
    simp only [dif_neg hsz]

theorem dstOk_zero (c : Code) : dstOk 0 c = true := by
  induction c with
  | region id ops draw =>
    simp only [dstOk, List.all_eq_true]
    intro o _
    cases o.dst <;> simp
  | seq a b h1 h2 => simp only [dstOk, h1, h2, Bool.and_self]
  | cond o a b h1 h2 => simp only [dstOk, h1, h2, Bool.and_self]
  | block id a h => simpa only [dstOk] using h
  | loop a h => simpa only [dstOk] using h
  | _ => rfl

/-- A function keeps the contract that its body was reckoned to. -/
theorem sat_of {C : Cfg} (hC : ∀ g N, C.orc g = some N → Sat C.P g N) (hm : C.P.follows .mixedOrders = true) {g : FuncId} {fn : Func} {body : Code} (hf : C.P.funcs[g]? = some fn) (hname : (fn.name == "runtime.NumGoroutine") = false) (hbody : fn.body = some body)
    (hp : ∀ q c pc, At body q c → C.pcs q = some pc → Piece C.P 0 c pc) {A R : Sig} {Y : Type} {un : R.V → Y} {mk : Y → R.V} {f : A.V → Option Y} (hev : ∀ x, evF C fn A R Y un x = f x) (hmk : ∀ v, mk (un v) = v) (hR : R.n = 1) :
    Sat C.P g ⟨A, R, Y, f, mk⟩ where
  fn := ⟨fn, hf, hname, by rw [hbody]; rfl⟩
  run := by
    intro x y h w Rb ok0 μ args hr
    simp only at h hr
    rw [← hev] at h
    have hbo : bodyOf fn = body := by unfold bodyOf; rw [hbody]; rfl
    unfold evF at h
    simp only [hbo] at h
    have hlen := hr.vals.len
    refine calls_of_wp hf hbody ?_
    have hH : Holds ⟨w, Rb, ok0⟩ ⟨(A.put x).slots ++ List.replicate (fn.ntmps - (A.put x).slots.length) .any, (A.put x).σ⟩ { tmps := args.toArray ++ Array.replicate (fn.ntmps - args.toArray.size) undef, defers := [] } w := by
      refine ⟨μ, ?_⟩
      have e : (({ tmps := args.toArray ++ Array.replicate (fn.ntmps - args.toArray.size) undef, defers := [] } : Act).tmps.toList.take ((A.put x).slots ++ List.replicate (fn.ntmps - (A.put x).slots.length) AV.any).length) = args ++ List.replicate (fn.ntmps - (A.put x).slots.length) undef := by
        simp only [Array.toList_append, Array.toList_replicate, List.length_append, List.length_replicate, List.size_toArray, hlen]
        exact List.take_of_length_le (by simp)
      rw [e]
      refine { hr with vals := hr.vals.append ?_ }
      have := RVL.anys (ok := okN ⟨w, Rb, ok0⟩ (A.put x).σ μ w) (w := w) (μ := μ) (List.replicate (fn.ntmps - (A.put x).slots.length) undef)
      rwa [List.length_replicate] at this
    have hd := dstOk_zero
    refine evC_sound hC hm body 1 _ _ y h .root (hd body) (fun q c' pc _ => hp q c' pc) _ _ w _ hH (fun e st' a' w' k1 k2 k3 => ?_)
    obtain ⟨μ', hr'⟩ := Rel.of_holds k2
    have fin : ((finish C fn st'.slots R st').bind fun y => some (un y)) = some y → a'.defers = [] ∧ ∃ v, (results fn a'.tmps).run C.P w' = .ok v w' ∧ ∃ μ', Rel ⟨w, Rb, ok0⟩ (R.put (mk y)).slots (R.put (mk y)).σ μ' ((v :: args).take R.n) w' := by
      intro hh
      obtain ⟨v0, h1, h2⟩ := Option.bind_eq_some_iff.1 hh
      simp only [Option.some.injEq] at h2
      unfold finish at h1
      obtain ⟨r, h3, h4⟩ := Option.bind_eq_some_iff.1 h1
      obtain ⟨v, g1, g2⟩ := results_sound hr' h3
      refine ⟨k3.de, v, g2, ?_⟩
      have hr2 : Rel ⟨w, Rb, ok0⟩ (r :: st'.slots) st'.σ μ' (v :: a'.tmps.toList.take st'.slots.length) w' := { hr' with vals := RVL.cons' g1 hr'.vals }
      obtain ⟨⟨m, rd, v1⟩, q1, q2⟩ := Option.bind_eq_some_iff.1 h4
      simp only [Option.some.injEq] at q2; subst q2
      obtain ⟨us, k, hF, hn⟩ := hr2.taken q1
      obtain ⟨e1, _, _⟩ := k.rel hF
      rw [← h2, hmk]
      rw [hR] at e1 ⊢
      exact ⟨_, e1⟩
    cases e with
    | normal => exact fin k1
    | ret => exact fin k1
    | exit id => cases k1

theorem sat_none {g : FuncId} {fn : Func} {body : Code} (hf : P.funcs[g]? = some fn) (hname : (fn.name == "runtime.NumGoroutine") = false) (hbody : fn.body = some body) {A R : Sig} {Y : Type} {mk : Y → R.V} {f : A.V → Option Y} (h : ∀ x, f x = none) :
    Sat P g ⟨A, R, Y, f, mk⟩ where
  fn := ⟨fn, hf, hname, by rw [hbody]; rfl⟩
  run := fun x y hxy => by simp only [h] at hxy; cases hxy

theorem satNil : ∀ z ∈ ([] : List (Nat × Ent)), Sat P z.1 z.2 := fun z hz => by simp at hz
theorem satCons {g : Nat} {N : Ent} {t : List (Nat × Ent)} (h : Sat P g N) (ht : ∀ z ∈ t, Sat P z.1 z.2) : ∀ z ∈ (g, N) :: t, Sat P z.1 z.2 := fun z hz => by
  rcases List.mem_cons.1 hz with rfl | hz
  · exact h
  · exact ht z hz
theorem satAll {t : List (Nat × Ent)} (ht : ∀ z ∈ t, Sat P z.1 z.2) : ∀ g N, look t g = some N → Sat P g N := by
  induction t with
  | nil => intro g N h; simp [look] at h
  | cons z t ih =>
    obtain ⟨m, N'⟩ := z
    intro g N h
    simp only [look] at h
    split at h
    · rename_i hm
      simp only [beq_iff_eq] at hm
      subst hm; cases h
      exact ht (m, N') (by simp)
    · exact ih (fun z hz => ht z (List.mem_cons_of_mem _ hz)) g N h

theorem locNil {C : Cfg} {n : Nat} {body : Code} : ∀ z ∈ ([] : List (Nat × Pc)), Loc C n body z.1 z.2 := fun z hz => by simp at hz
theorem locCons {C : Cfg} {n : Nat} {body : Code} {p : Nat} {pc : Pc} {t : List (Nat × Pc)} (h : Loc C n body p pc) (ht : ∀ z ∈ t, Loc C n body z.1 z.2) : ∀ z ∈ (p, pc) :: t, Loc C n body z.1 z.2 := fun z hz => by
  rcases List.mem_cons.1 hz with rfl | hz
  · exact h
  · exact ht z hz

end
end Gv
