/- One operation, whatever it does: the theorem. -/
import Derived.Test.YtgkcdgbegkpmoaaGreatDoorGwCallR
namespace Gv
open Go Go.RowKit
set_option linter.unusedVariables false
set_option linter.unusedSectionVars false
set_option linter.unusedSimpArgs false

section
variable [GlobI] {E : Env} {avs : List AV} {slots : List AV} {σ : List Ob} {μ μ' : Nat → Option Value} {vs : List Value} {w w' : World} {ok ok' : Nat → Prop} {α : Type} {x : α} {P : Program} {Q : Exit → Act → World → Prop}

theorem evOps_rvl {st : St} {a : Act} (h : RVL ok w μ st.slots (a.tmps.toList.take st.slots.length)) : ∀ (l : List Operand), RVL ok w μ (l.map (evOp st)) (l.map a.eval)
  | [] => by simp [RVL]
  | y :: l => RVL.cons' (evOp_rv h y) (evOps_rvl h l)

theorem leaf_one {l : List AV} (h : l.all leaf = true) (hv : RVL ok w μ l vs) : ∀ u ∈ vs, u.oneCell' = true := hv.one h

/-- What an operation does, where it does not jump: the state behind, and the value that it puts down. -/
def After (E : Env) (st : St) (o : Oper) (a : Act) (K : AV → St → Option α) (x : α) (a' : Act) (w' : World) : Prop :=
  ∃ av st' v μ', K av st' = some x ∧ st'.slots.length = st.slots.length ∧ a' = a.put o.dst v ∧ RV (okN E st'.σ μ' w') w' μ' av v ∧ Rel E st'.slots st'.σ μ' (a.tmps.toList.take st.slots.length) w'

theorem mapO_close {l cs : List AV} (h : mapO (closeRd (Gv.freeze σ (l.map (ownToks σ 6)).flatten) 6) l = some cs) (hF : Rel E avs (Gv.freeze σ (l.map (ownToks σ 6)).flatten) μ vs w)
    {us : List Value} (hv : RVL (okN E (Gv.freeze σ (l.map (ownToks σ 6)).flatten) μ w) w μ l us) : RVL (okN E (Gv.freeze σ (l.map (ownToks σ 6)).flatten) μ w) w μ cs us := by
  generalize hT : (l.map (ownToks σ 6)).flatten = T at *
  have hsub : ∀ a ∈ l, ∀ t ∈ ownToks σ 6 a, t ∈ T := by
    intro a ha t ht
    rw [← hT]
    exact List.mem_flatten.2 ⟨_, List.mem_map.2 ⟨a, ha, rfl⟩, ht⟩
  clear hT
  induction l generalizing cs us with
  | nil => simp only [mapO, Option.some.injEq] at h; subst h; exact hv
  | cons a l ih =>
    simp only [mapO] at h
    obtain ⟨c, h1, h⟩ := Option.bind_eq_some_iff.1 h
    obtain ⟨r, h2, h⟩ := Option.bind_eq_some_iff.1 h
    simp only [Option.some.injEq] at h; subst h
    obtain ⟨u, us, rfl, g1, g2⟩ := RVL.cons_iff.1 hv
    refine RVL.cons' (closeRd_sound (fun t ob ht v hv => hF.objs t ob ht v hv) 6 h1 (fun t ht ob hob hg v b hv hb => ?_) g1) (ih h2 g2 (fun a' ha' => hsub a' (List.mem_cons_of_mem _ ha')))
    rw [ownToks_freeze] at ht
    have hm := hsub a (List.mem_cons_self ..) t ht
    exact (hF.objs t ob hob v hv).frozen_ok (freeze_own hm hob) hg hv hb

theorem elimR_spec {A : Sig} {m : List (Option Nat)} {rd : List Nat} {K : AV → St → Option α} {KP : St → Option α} : ∀ {l : List Out} {y : OutsV l}, elimR A σ m rd slots K KP l y = some x → OutQ l y fun o y => elimR.elim1 A σ m rd slots K KP o y = some x
  | [], y, _ => Empty.elim y
  | [o], y, h => h
  | o :: _ :: _, .inl y, h => h
  | _ :: o' :: r, .inr z, h => elimR_spec (l := o' :: r) h

theorem opM_sound {C : Cfg} (hC : ∀ g l N, C.orc g l = some N → Sat C.P g N) {st : St} {o : Oper} {a : Act} {K : AV → St → Option α} {KP : St → Option α} (h : opM C st o K KP = some x)
    (hr : Rel E st.slots st.σ μ (a.tmps.toList.take st.slots.length) w)
    (hP : ∀ (st' : St) (pv : Value) (w' : World), KP st' = some x → st'.slots.length = st.slots.length + 1 → (∃ μ', Rel E st'.slots st'.σ μ' (pv :: a.tmps.toList.take st.slots.length) w') → Q (.panic [{ v := pv, recovered := false }]) a w') : o.wp C.P a w (fun a' w' => After E st o a K x a' w') Q := by
  obtain ⟨dst, op, ty, pos, after, guard⟩ := o
  have hob : ∀ t ob, st.σ[t]? = some ob → ∀ v, μ t = some v → ObR (okN E st.σ μ w) w μ t ob := hr.objs
  cases op <;> simp only [opM] at h <;> try (cases h; done)
  case store T p y =>
    obtain ⟨k, hk, h⟩ := Option.bind_eq_some_iff.1 h
    obtain ⟨new, hn, h⟩ := Option.bind_eq_some_iff.1 h
    split at h
    · rename_i hnk
      simp only [Bool.and_eq_true, beq_iff_eq] at hnk
      obtain ⟨hlen, hleaf⟩ := hnk
      have hnew := avCells_rv hn (evOp_rv hr.vals y)
      have hp := evOp_rv hr.vals p
      have fin : ∀ (b off : Nat) (w' : World) (σ' : List Ob), a.eval p = .pointer (some ⟨b, off, none⟩) → (storeVar T ⟨b, off, none⟩ (a.eval y)).run C.P w = .ok () w' → Rel E st.slots σ' μ (a.tmps.toList.take st.slots.length) w' → K .any ⟨st.slots, σ'⟩ = some x →
          (⟨dst, .store T p y, ty, pos, after, guard⟩ : Oper).wp C.P a w (fun a' w' => After E st ⟨dst, .store T p y, ty, pos, after, guard⟩ a K x a' w') Q := by
        intro b off w' σ' e1 e2 e3 e4
        unfold Oper.wp
        have hrun : (execOp a.eval ⟨dst, .store T p y, ty, pos, after, guard⟩).run C.P w = .ok .skip w' := by
          simp only [execOp, Instr.storeAt, e1, Instr.sureAddr, Sem.run_bind, Sem.run_pure, Result.andThen_ok, e2]
        rw [hrun, Oper.upon_skip]
        exact ⟨.any, ⟨st.slots, σ'⟩, undef, μ, e4, rfl, rfl, trivial, e3⟩
      split at h
      · rename_i t off hpe
        rw [hpe] at hp
        simp only [RV] at hp
        obtain ⟨b, hm, hpv⟩ := hp
        split at h
        · rename_i cells ht
          split at h
          · rename_i hfit
            simp only [decide_eq_true_eq] at hfit
            obtain ⟨w', e1, e2⟩ := hr.storeBox ht hm hk hnew hlen hleaf hfit
            exact fin b off w' _ hpv e1 e2 h
          · cases h
        · cases h
      · rename_i t i z off hpe
        rw [hpe] at hp
        simp only [RV] at hp
        obtain ⟨b, n, c, hm, hi, hpv⟩ := hp
        split at h
        · rename_i T0 e0 l0 ht0
          split at h
          · rename_i U e l ht
            split at h
            · rename_i hz
              simp only [beq_iff_eq] at hz
              obtain ⟨cs, hcs, h⟩ := Option.bind_eq_some_iff.1 h
              obtain ⟨y', hy', h⟩ := Option.bind_eq_some_iff.1 h
              split at h
              · rename_i hfin
                simp only [Bool.and_eq_true, List.isEmpty_iff, decide_eq_true_eq] at hfin
                obtain ⟨hem, hfit⟩ := hfin
                have hF := hr.freeze ((new.map (ownToks st.σ 6)).flatten)
                have hok : ∀ b, okN E st.σ μ w b → okN E (Gv.freeze st.σ ((new.map (ownToks st.σ 6)).flatten)) μ w b := fun b hb => ⟨hb.1, hb.2.1, fun s hs => by
                  obtain ⟨ob, v, h1, h2, h3, h4⟩ := hs
                  rw [freeze_get] at h1
                  split at h1
                  · cases hx : st.σ[s]? with
                    | none => rw [hx] at h1; cases h1
                    | some q => rw [hx] at h1; simp at h1; subst h1; rw [frz_own] at h2; cases h2
                  · exact hb.2.2 s ⟨ob, v, h1, h2, h3, h4⟩⟩
                have hnewF : RVL (okN E (Gv.freeze st.σ ((new.map (ownToks st.σ 6)).flatten)) μ w) w μ new (a.eval y).cells.toList := hnew.kp ⟨hok, fun _ _ => rfl⟩ (fun _ _ e => e)
                have hcsv := mapO_close hcs hF hnewF
                have hcl : cs.length = k := by have := hcsv.len; have := hnewF.len; omega
                obtain ⟨y1, y2⟩ := y'
                simp only at hem; subst hem
                obtain ⟨w', e1, e2⟩ := hF.storeRow ht hm hi hk hcsv hcl (hnew.one hleaf) hfit hy'
                rw [hz] at hpv
                exact fin b _ w' _ hpv e1 e2 h
              · cases h
            · cases h
          · cases h
        · cases h
      · cases h
    · cases h
  case panic y =>
    have hy := evOp_rv hr.vals y
    split at h
    · rename_i T v hye
      rw [hye] at hy
      have hy0 := hy
      simp only [RV] at hy
      obtain ⟨u, hu, _⟩ := hy
      unfold Oper.wp
      have hrun : (execOp a.eval ⟨dst, .panic y, ty, pos, after, guard⟩).run C.P w = .halt (.panic (.iface T u)) w := by
        simp only [execOp, hu, Instr.panic]
        rfl
      rw [hrun, Oper.upon_panic]
      rw [hu] at hy0
      exact hP _ _ w h rfl ⟨μ, { hr with vals := RVL.cons' hy0 hr.vals }⟩
    · cases h
  case call c =>
    obtain ⟨cal, args, ats⟩ := c
    cases cal with
    | invoke r n => simp at h
    | value f =>
      have h' := h
      simp only at h'
      have hf := evOp_rv hr.vals f
      split at h'
      · rename_i g caps hfe
        obtain ⟨N, hN, h'⟩ := Option.bind_eq_some_iff.1 h'
        rw [hfe] at hf
        simp only [RV] at hf
        obtain ⟨cvs, hfv, hcaps⟩ := hf
        have ha : Rel E (args.toList.map (evOp st) ++ caps) st.σ μ (args.toList.map a.eval ++ cvs.toList) w := { hr with vals := (evOps_rvl hr.vals args.toList).append hcaps }
        obtain ⟨fn, f1, f2, f3⟩ := (hC g _ N hN).fn
        unfold Oper.wp
        have hrun : (execOp a.eval ⟨dst, .call ⟨.value f, args, ats⟩, ty, pos, after, guard⟩).run C.P w = .ok (.enter g (args.toList.map a.eval ++ cvs.toList).toArray) w := by
          have e : (Array.map a.eval args ++ cvs) = (args.toList.map a.eval ++ cvs.toList).toArray := by cases args; cases cvs; simp
          simp only [execOp, Go.resolve, hfv, Deferred.ofValue, Sem.run_bind, Sem.run_pure, Result.andThen_ok, invoke, callFunc, Array.empty_append, run_program, f1, f2, f3, if_false, Bool.false_eq_true, e]
        rw [hrun, Oper.upon_enter]
        split at h'
        · obtain ⟨N, rd, z, y, rfl, c⟩ := callE_spec h'
          have hcall := c.run (hC g _ _ hN) ha
          refine Calls.mono hcall ?_
          rintro (v | ch | _) w' hw
          · obtain ⟨hB, hrv⟩ := hw
            refine ⟨_, _, v, μ, c.cont, rfl, rfl, ?_, ?_⟩
            · by_cases hs : scal 6 ((putF [] N.R.vals (N.mkR y).2).headD .any) = true
              · rw [if_pos hs]; exact scal_rv 6 hs hrv
              · rw [if_neg hs]; exact hrv
            · by_cases hs : scal 6 ((putF [] N.R.vals (N.mkR y).2).headD .any) = true
              · simp only [hs, if_true]; exact hr.below hB
              · simp only [hs]; exact (hr.freeze rd).below hB
          · exact False.elim hw
          · exact False.elim hw
        · unfold callR at h'
          split at h'
          · rename_i hln
            obtain ⟨⟨m, rd, z⟩, hget, h'⟩ := Option.bind_eq_some_iff.1 h'
            obtain ⟨y, hfy, h'⟩ := Option.bind_eq_some_iff.1 h'
            have hlen : (args.toList.map a.eval ++ cvs.toList).length = (args.toList.map (evOp st) ++ caps).length := by
              have := hcaps.len
              simp only [List.length_append, List.length_map, this]
            have hA : Rel E ((args.toList.map (evOp st) ++ caps) ++ st.slots) st.σ μ ((args.toList.map a.eval ++ cvs.toList) ++ a.tmps.toList.take st.slots.length) w := { hr with vals := ha.vals.append hr.vals }
            obtain ⟨Rb, ok0, μ0, ent, back⟩ := handR hget (lenIs_spec hln) hlen hA
            refine Calls.mono ((hC g _ N hN).run z y hfy w Rb ok0 μ0 _ ent) ?_
            intro en w' hO
            obtain ⟨o1, y1, hE, h1⟩ : ∃ (o1 : Out) (y1 : o1.Y), Ended ⟨w, Rb, ok0⟩ (args.toList.map a.eval ++ cvs.toList) w' en o1.e (o1.R.put (o1.mk1 y1)) ∧ elimR.elim1 N.A st.σ m rd st.slots K KP o1 y1 = some x :=
              (OutQ.and hO (elimR_spec h')).elim (fun o _ y hh => ⟨o, y, hh.1, hh.2⟩)
            unfold elimR.elim1 at h1
            split at h1
            · rename_i hok
              cases heq : o1.e with
              | normal => rw [heq] at hE; exact hE.elim
              | exit id => rw [heq] at hE; exact hE.elim
              | ret =>
                rw [heq] at hE h1
                cases en with
                | returned v =>
                  obtain ⟨μ2, hr2⟩ := (hE : ∃ _, _)
                  rw [Sig.put_n] at hr2
                  obtain ⟨μ', q1, q2, _, _⟩ := back _ _ _ w' μ2 hok hr2
                  exact ⟨_, _, _, μ', h1, rfl, rfl, q1, q2⟩
                | panicked ch => exact hE.elim
                | outgrown => exact hE.elim
              | pan =>
                rw [heq] at hE h1
                cases en with
                | panicked ch =>
                  obtain ⟨pv, rfl, μ2, hr2⟩ := (hE : ∃ _, _)
                  rw [Sig.put_n] at hr2
                  obtain ⟨μ', q1, q2, _, _⟩ := back _ _ _ w' μ2 hok hr2
                  exact hP _ pv w' h1 rfl ⟨μ', { q2 with vals := RVL.cons' q1 q2.vals }⟩
                | returned v => exact hE.elim
                | outgrown => exact hE.elim
            · cases h1
          · cases h'
      · cases h'
    | builtin bi =>
      split at h
      · rename_i p y t u hcal hargs hats
        cases hcal
        split at h
        · rename_i htu
          simp only [beq_iff_eq] at htu; subst htu
          obtain ⟨T, hT, h⟩ := Option.bind_eq_some_iff.1 h
          obtain ⟨e, he, h⟩ := Option.bind_eq_some_iff.1 h
          obtain ⟨i, hi, h⟩ := Option.bind_eq_some_iff.1 h
          obtain ⟨v0, hv0, h⟩ := Option.bind_eq_some_iff.1 h
          obtain ⟨ly, hly, h⟩ := Option.bind_eq_some_iff.1 h
          have hel := elOk_spec hi
          have hund : C.P.underlying t = some (.slice T) := by
            unfold elemT at hT
            split at hT
            · rename_i e' hu; simp only [Option.some.injEq] at hT; subst hT; exact hu
            · cases hT
          have e1 : args = #[p, y] := by cases args; simp at hargs; simp [hargs]
          have e2 : ats = #[t, t] := by cases ats; simp at hats; simp [hats]
          subst e1 e2
          have hsrc := srcR_of hv0 hly (evOp_rv hr.vals y) hob
          have hx := evOp_rv hr.vals p
          have fin : ∀ (v' : Value) (w' : World) (av : AV) (st' : St) (μ' : Nat → Option Value), (Builtin.append_ #[t, t] ty #[a.eval p, a.eval y]).run C.P w = .ok v' w' → K av st' = some x → st'.slots.length = st.slots.length →
              RV (okN E st'.σ μ' w') w' μ' av v' → Rel E st'.slots st'.σ μ' (a.tmps.toList.take st.slots.length) w' →
              (⟨dst, .call ⟨.builtin .append, #[p, y], #[t, t]⟩, ty, pos, after, guard⟩ : Oper).wp C.P a w (fun a' w' => After E st ⟨dst, .call ⟨.builtin .append, #[p, y], #[t, t]⟩, ty, pos, after, guard⟩ a K x a' w') Q := by
            intro v' w' av st' μ' g1 g2 g3 g4 g5
            unfold Oper.wp
            have hrun : (execOp a.eval ⟨dst, .call ⟨.builtin .append, #[p, y], #[t, t]⟩, ty, pos, after, guard⟩).run C.P w = .ok (.value v') w' := by
              simp only [execOp, Go.resolve, invoke, builtin, Sem.run_bind, Sem.run_pure, Result.andThen_ok, List.map_toArray, List.map_cons, List.map_nil, g1]
            rw [hrun, Oper.upon_value]
            exact ⟨av, st', v', μ', g2, g3, rfl, g4, g5⟩
          split at h
          · -- nil: a new row
            rename_i hpe
            rw [hpe] at hx
            simp only [RV] at hx
            cases hfit : fits ly.length i.bytes with
            | false => rw [hfit] at h; cases h
            | true =>
              rw [hfit] at h
              simp only [cond_true] at h
              have hv0 : RowV (okN E st.σ μ w) w T e (a.eval p) [] := ⟨none, 0, hx, .inl ⟨rfl, rfl⟩⟩
              obtain ⟨v', w', r1, r2, ⟨a', n', c', r3⟩, r4⟩ := run_append (ty := ty) hund hel hv0 hsrc (by simpa [fits] using hfit)
              have hblk : blk (a.eval p) = none := by rw [hx]; rfl
              have hB : Below w.heap.size w w' := ⟨r2.os, r2.tape, r2.output, r2.size, fun b hb => r2.block b hb (by rw [hblk]; simp)⟩
              have hnewb : ∀ b, blk v' = some b → isOwn (Ob.row true T e ly) = true → w.heap.size ≤ b ∧ b < w'.heap.size := fun b hb _ => by
                rcases r2.new b hb with g | g
                · rw [hblk] at g; cases g
                · exact g
              have hkp := kp_alloc (E := E) (o := .row true T e ly) (v := v') hr.dom hB (fun b h1 h2 => (hnewb b h1 h2).1)
              have hnew := hr.alloc hB (.row true T e ly) v' hnewb ⟨v', upd_same _ _ _, by simpa using r4 _ hkp, fun e => by cases e⟩
              refine fin v' w' _ _ _ r1 h rfl ?_ hnew
              simp only [RV]
              exact ⟨upd_same _ _ _, a', n', c', r3⟩
          · rename_i k hpe
            rw [hpe] at hx
            simp only [RV] at hx
            split at h
            · rename_i T' e' l ht
              split at h
              · rename_i hTT
                simp only [beq_iff_eq] at hTT; subst hTT
                split at h
                · rename_i hee
                  subst hee
                  cases hfit : fits (l.length + ly.length) i.bytes with
                  | false => rw [hfit] at h; cases h
                  | true =>
                    rw [hfit] at h
                    simp only [cond_true, castT] at h
                    obtain ⟨v0', k1, k2, k3⟩ := hob k _ ht _ hx.1
                    rw [hx.1] at k1; cases k1
                    obtain ⟨v', w', r1, r2, ⟨a', n', c', r3⟩, r4⟩ := run_append (ty := ty) hund hel k2 hsrc (by simpa [fits] using hfit)
                    have r2' : Redone w w' (a.eval p) v' := r2
                    obtain ⟨hnew, hkp⟩ := hr.redo (o' := .row true T e' (l ++ ly)) (v' := v') (w' := w') ht rfl rfl hx.1 r2' (fun kp => ⟨v', upd_same _ _ _, r4 _ kp, fun e => by cases e⟩)
                    refine fin v' w' _ _ _ r1 h (by simp [inv]) ?_ (by simpa [inv] using hnew)
                    simp only [RV]
                    exact ⟨upd_same _ _ _, a', n', c', r3⟩
                · cases h
              · cases h
            · cases h
          · cases h
        · split at h
          · rename_i hst
            obtain ⟨T, hT, h⟩ := Option.bind_eq_some_iff.1 h
            obtain ⟨i, hi, h⟩ := Option.bind_eq_some_iff.1 h
            split at h
            · rename_i s hye
              have hel := elOk_spec hi
              have hund : C.P.underlying t = some (.slice T) := by
                unfold elemT at hT
                split at hT
                · rename_i e' hu; simp only [Option.some.injEq] at hT; subst hT; exact hu
                · cases hT
              have hu : C.P.underlying u = some .string := by
                unfold isStrT at hst
                split at hst
                · rename_i hu; exact hu
                · cases hst
              have hys : a.eval y = .string s := by
                have := evOp_rv hr.vals y
                rw [hye] at this
                exact this.str
              have e1 : args = #[p, y] := by cases args; simp at hargs; simp [hargs]
              have e2 : ats = #[t, u] := by cases ats; simp at hats; simp [hats]
              subst e1 e2
              have hx := evOp_rv hr.vals p
              have fin : ∀ (v' : Value) (w' : World) (av : AV) (st' : St) (μ' : Nat → Option Value), (Builtin.append_ #[t, u] ty #[a.eval p, a.eval y]).run C.P w = .ok v' w' → K av st' = some x → st'.slots.length = st.slots.length →
                  RV (okN E st'.σ μ' w') w' μ' av v' → Rel E st'.slots st'.σ μ' (a.tmps.toList.take st.slots.length) w' →
                  (⟨dst, .call ⟨.builtin .append, #[p, y], #[t, u]⟩, ty, pos, after, guard⟩ : Oper).wp C.P a w (fun a' w' => After E st ⟨dst, .call ⟨.builtin .append, #[p, y], #[t, u]⟩, ty, pos, after, guard⟩ a K x a' w') Q := by
                intro v' w' av st' μ' g1 g2 g3 g4 g5
                unfold Oper.wp
                have hrun : (execOp a.eval ⟨dst, .call ⟨.builtin .append, #[p, y], #[t, u]⟩, ty, pos, after, guard⟩).run C.P w = .ok (.value v') w' := by
                  simp only [execOp, Go.resolve, invoke, builtin, Sem.run_bind, Sem.run_pure, Result.andThen_ok, List.map_toArray, List.map_cons, List.map_nil, g1]
                rw [hrun, Oper.upon_value]
                exact ⟨av, st', v', μ', g2, g3, rfl, g4, g5⟩
              unfold appK at h
              rw [hys] at fin
              split at h
              · -- nil: a new row
                rename_i hpe
                rw [hpe] at hx
                simp only [RV] at hx
                cases hfit : fits (strList s).length i.bytes with
                | false => rw [hfit] at h; cases h
                | true =>
                  rw [hfit] at h
                  simp only [cond_true] at h
                  have hv0 : RowV (okN E st.σ μ w) w T (.int .u8) (a.eval p) [] := ⟨none, 0, hx, .inl ⟨rfl, rfl⟩⟩
                  obtain ⟨v', w', r1, r2, ⟨a', n', c', r3⟩, r4⟩ := run_appendS (ty := ty) hund hu hel hv0 (by simpa [fits] using hfit)
                  have hblk : blk (a.eval p) = none := by rw [hx]; rfl
                  have hB : Below w.heap.size w w' := ⟨r2.os, r2.tape, r2.output, r2.size, fun b hb => r2.block b hb (by rw [hblk]; simp)⟩
                  have hnewb : ∀ b, blk v' = some b → isOwn (Ob.row true T (.int .u8) (strList s)) = true → w.heap.size ≤ b ∧ b < w'.heap.size := fun b hb _ => by
                    rcases r2.new b hb with g | g
                    · rw [hblk] at g; cases g
                    · exact g
                  have hkp := kp_alloc (E := E) (o := .row true T (.int .u8) (strList s)) (v := v') hr.dom hB (fun b h1 h2 => (hnewb b h1 h2).1)
                  have hnew := hr.alloc hB (.row true T (.int .u8) (strList s)) v' hnewb ⟨v', upd_same _ _ _, by simpa using r4 _ hkp, fun e => by cases e⟩
                  refine fin v' w' _ _ _ r1 h rfl ?_ hnew
                  simp only [RV]
                  exact ⟨upd_same _ _ _, a', n', c', r3⟩
              · rename_i k hpe
                rw [hpe] at hx
                simp only [RV] at hx
                split at h
                · rename_i T' e' l ht
                  split at h
                  · rename_i hTT
                    simp only [beq_iff_eq] at hTT; subst hTT
                    split at h
                    · rename_i hee
                      subst hee
                      cases hfit : fits (l.length + (strList s).length) i.bytes with
                      | false => rw [hfit] at h; cases h
                      | true =>
                        rw [hfit] at h
                        simp only [cond_true, castT] at h
                        obtain ⟨v0', k1, k2, k3⟩ := hob k _ ht _ hx.1
                        rw [hx.1] at k1; cases k1
                        obtain ⟨v', w', r1, r2, ⟨a', n', c', r3⟩, r4⟩ := run_appendS (ty := ty) hund hu hel k2 (by simpa [fits] using hfit)
                        have r2' : Redone w w' (a.eval p) v' := r2
                        obtain ⟨hnew, hkp⟩ := hr.redo (o' := .row true T (.int .u8) (l ++ strList s)) (v' := v') (w' := w') ht rfl rfl hx.1 r2' (fun kp => ⟨v', upd_same _ _ _, r4 _ kp, fun e => by cases e⟩)
                        refine fin v' w' _ _ _ r1 h (by simp [inv]) ?_ (by simpa [inv] using hnew)
                        simp only [RV]
                        exact ⟨upd_same _ _ _, a', n', c', r3⟩
                    · cases h
                  · cases h
                · cases h
              · cases h
            · cases h
          · cases h
      · rename_i hcal; cases hcal
      · cases h

end
end Gv
