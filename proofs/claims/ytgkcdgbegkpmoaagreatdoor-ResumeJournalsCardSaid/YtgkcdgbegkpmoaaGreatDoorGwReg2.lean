/- Regions in the order of the text: the theorem. -/
import Derived.Test.YtgkcdgbegkpmoaaGreatDoorGwReg
namespace Gv
open Go Go.RowKit
set_option linter.unusedVariables false
set_option linter.unusedSectionVars false
set_option linter.unusedSimpArgs false

section
variable [GlobI] {E : Env} {avs : List AV} {slots : List AV} {σ : List Ob} {μ μ' : Nat → Option Value} {vs : List Value} {w w' : World} {ok ok' : Nat → Prop} {α : Type} {x : α} {P : Program} {Q : Exit → Act → World → Prop}
variable {ops : Array Oper}

/-- What a call by contract is: the callee, what it is handed, what it gives. -/
theorem callV_spec {C : Cfg} {st : St} {ρ : Operand → AV} {c : Call} {K : AV → St → Option α} (h : callV C st ρ c K = some x) :
    ∃ f g caps N rd z y, c.callee = .value f ∧ ρ f = .fn g caps ∧ C.orc g (fnsOf (c.args.toList.map ρ ++ caps)) = some (EntP.ent N) ∧ CallP N st (c.args.toList.map ρ ++ caps) K x rd z y := by
  unfold callV at h
  split at h
  · rename_i f hf
    split at h
    · rename_i g caps hg
      obtain ⟨N, hN, h⟩ := Option.bind_eq_some_iff.1 h
      obtain ⟨N, rd, z, y, rfl, c'⟩ := callE_spec h
      exact ⟨f, g, caps, N, rd, z, y, hf, hg, hN, c'⟩
    · cases h
  · cases h

theorem map_rvl {ρ : Operand → AV} {ev : Operand → Value} (hρ : ∀ y, RV ok w μ (ρ y) (ev y)) : ∀ (l : List Operand), RVL ok w μ (l.map ρ) (l.map ev)
  | [] => by simp [RVL]
  | y :: l => RVL.cons' (hρ y) (map_rvl hρ l)

/-- A call, at the machine. -/
theorem call_wp {C : Cfg} (hC : ∀ g l N, C.orc g l = some N → Sat C.P g N) {st : St} {ρ : Operand → AV} {c : Call} {o : Oper} (hop : o.op = .call c) {K : AV → St → Option α} {f : Operand} {g : FuncId} {caps : List AV} {N : EntP} {rd : List Nat} {z : N.A.V} {y : N.Y}
    (h1 : c.callee = .value f) (h2 : ρ f = .fn g caps) (h3 : C.orc g (fnsOf (c.args.toList.map ρ ++ caps)) = some N.ent) (h4 : CallP N st (c.args.toList.map ρ ++ caps) K x rd z y)
    {a : Act} {σ' : List Ob} (hF : Rel E slots σ' μ vs w) (hρ : ∀ y, RV (okN E σ' μ w) w μ (ρ y) (a.eval y))
    (hob : ∀ t ob, st.σ[t]? = some ob → ∀ v, μ t = some v → ObR (okN E σ' μ w) w μ t ob)
    (hread : ∀ t ∈ rd, ∀ ob, st.σ[t]? = some ob → ob ≠ .gone → ∀ v b, μ t = some v → blk v = some b → okN E σ' μ w b) {next : Act → World → Prop}
    (hn : ∀ v w', Below w.heap.size w w' → RV (okN E σ' μ w') w' μ ((putF [] N.R.vals (N.mkR y).2).headD .any) v → next (a.put o.dst v) w') : o.wp C.P a w next Q := by
  obtain ⟨cal, args, ats⟩ := c
  simp only at h1; subst h1
  have hf := hρ f
  rw [h2] at hf
  simp only [RV] at hf
  obtain ⟨cvs, hfv, hcaps⟩ := hf
  have ha : Rel E (args.toList.map ρ ++ caps) σ' μ (args.toList.map a.eval ++ cvs.toList) w := { hF with vals := (map_rvl hρ args.toList).append hcaps }
  have hcall := h4.run' (hC g _ _ h3) ha hob hread
  obtain ⟨fn, f1, f2, f3⟩ := (hC g _ _ h3).fn
  obtain ⟨dst, op, ty, pos, after, guard⟩ := o
  simp only at hop; subst hop
  unfold Oper.wp
  have hrun : (execOp a.eval ⟨dst, .call ⟨.value f, args, ats⟩, ty, pos, after, guard⟩).run C.P w = .ok (.enter g (args.toList.map a.eval ++ cvs.toList).toArray) w := by
    have e : (Array.map a.eval args ++ cvs) = (args.toList.map a.eval ++ cvs.toList).toArray := by cases args; cases cvs; simp
    simp only [execOp, Go.resolve, hfv, Deferred.ofValue, Sem.run_bind, Sem.run_pure, Result.andThen_ok, invoke, callFunc, Array.empty_append, run_program, f1, f2, f3, if_false, Bool.false_eq_true, e]
  rw [hrun, Oper.upon_enter]
  refine Calls.mono hcall ?_
  rintro (v | ch | _) w' hw
  · exact hn v w' hw.1 hw.2
  · exact False.elim hw
  · exact False.elim hw

/-- A choice, at the machine. -/
theorem pick_wp {o : Oper} {c y z : Operand} (hop : o.op = .pick c y z) {a : Act} {b : Bool} (hc : a.eval c = .bool b) {next : Act → World → Prop} (hn : next (a.put o.dst (a.eval (if b then y else z))) w) : o.wp P a w next Q := by
  obtain ⟨dst, op, ty, pos, after, guard⟩ := o
  simp only at hop; subst hop
  unfold Oper.wp
  have hrun : (execOp a.eval ⟨dst, .pick c y z, ty, pos, after, guard⟩).run P w = .ok (.value (a.eval (if b then y else z))) w := by
    simp only [execOp, hc, asBool, Sem.run_bind, Sem.run_pure, Result.andThen_ok]
    cases b <;> rfl
  rw [hrun, Oper.upon_value]
  exact hn

theorem range'_app (i k : Nat) (l : List Nat) (n : Nat) : List.range' i (n + (k + 1)) ++ l = List.range' i n ++ ((i + n) :: (List.range' (i + n + 1) k ++ l)) := by
  rw [← List.range'_append_1, List.append_assoc, List.range'_succ, List.cons_append]

theorem pickV_spec {st : St} {b c0 : Bool} {s : Nat} {y z : Operand} {op : Op} (hop : op = .pick (.tmp s) y z) (h : pickV st b op = some c0) {a : Act} (hr : HR E σ μ st a w) : a.eval (if b then y else z) = .bool c0 := by
  subst hop
  simp only [pickV] at h
  exact asB_rv h (evOp_rv hr.vals _)

/-- The end of a group: its choice. -/
theorem group_end {st0 : St} {g : List Oper} {p : Oper} {s : Nat} {b c0 : Bool} {y z : Operand} {j : Nat} (hop : p.op = .pick (.tmp s) y z) {i : Nat} {rest : List Nat} {a a' : Act}
    (hp : ops[i]? = some p) (hw : Region.wanted p (yielded ops a'.tmps) = true) (ht : a'.tmps[s]? = some (.bool b)) (hv : a'.eval (if b then y else z) = .bool c0)
    (hk : Kept E ops σ μ g a w a' w') (hr : HR E σ μ st0 a w) (hB : True)
    (hn : HR E σ μ ((anys g st0).put p.dst (.dat .bool c0)) (a'.put p.dst (.bool c0)) w' → Kept E ops σ μ (g ++ [p]) a w (a'.put p.dst (.bool c0)) w' → wpOps P ops Q rest (a'.put p.dst (.bool c0)) w') : wpOps P ops Q (i :: rest) a' w' := by
  refine wpOps_step hp (fun _ => ?_) (fun h => by rw [hw] at h; cases h)
  refine pick_wp hop (b := b) ?_ ?_
  · simp only [Act.eval, Array.getD_eq_getD_getElem?, ht, Option.getD_some]
  · rw [hv]
    refine hn ((hk.fr _ hr).put (by simp [RV, Sh.C]) p.dst) (hk.trans (Kept.one (Below.refl _ _)))

theorem evG_sound {C : Cfg} (hC : ∀ g l N, C.orc g l = some N → Sat C.P g N) : ∀ (n : Nat) (kn : List (Nat × Bool)) (r : List Oper) (st : St) (K : St → Option Bool) (c : Bool), evG C ops n kn r st K = some c →
    ∀ (i : Nat) (rest : List Nat) (a : Act) (w : World), st.σ = σ → Seg ops i r → Kn ops kn r a → HR E σ μ st a w →
    (∀ a' w' st', K st' = some c → HR E σ μ st' a' w' → Kept E ops σ μ r a w a' w' → wpOps C.P ops Q rest a' w') → wpOps C.P ops Q (List.range' i r.length ++ rest) a w
  | 0, kn, r, st, K, c, h => by simp [evG] at h
  | n + 1, kn, [], st, K, c, h => fun i rest a w hσ hseg hkn hr hK => by
    simp only [evG] at h
    exact hK a w st h hr (Kept.refl a w)
  | n + 1, kn, o :: r, st, K, c, h => fun i rest a w hσ hseg hkn hr hK => by
    simp only [evG] at h
    split at h
    · rename_i hgok
      have hw := gOk_wanted hkn hgok
      rw [List.length_cons, List.range'_succ, List.cons_append]
      refine wpOps_step hseg.head (fun _ => ?_) (fun h => by rw [hw] at h; cases h)
      -- the rest, behind a value
      have go : ∀ (av : AV) (v : Value) (w' : World), Below w.heap.size w w' → RV (okN E σ μ w') w' μ av v → evG C ops n kn r (st.put o.dst av) K = some c → wpOps C.P ops Q (List.range' (i + 1) r.length ++ rest) (a.put o.dst v) w' := by
        intro av v w' hB hv he
        have hk1 : Kept E ops σ μ [o] a w (a.put o.dst v) w' := Kept.one hB
        exact evG_sound hC n kn r _ K c he (i + 1) rest _ w' (by rw [St.put_σ]; exact hσ) hseg.tail (hkn.kept (r := [o]) hk1) ((hr.below hB).put hv o.dst)
          (fun a' w'' st' h1 h2 h3 => hK a' w'' st' h1 h2 (hk1.trans h3))
      split at h
      · obtain ⟨av, v, h1, h2, h3⟩ := opN_sound h a.eval (evOp_rv hr.vals) (hσ ▸ hr.objs)
        unfold Oper.wp
        rw [h3, Oper.upon_value]
        exact go av v w (Below.refl _ _) h2 h1
      · split at h
        · rename_i c0 y z hop
          obtain ⟨b, hb, h⟩ := Option.bind_eq_some_iff.1 h
          have hc := asB_rv hb (evOp_rv hr.vals c0)
          refine pick_wp hop hc (go (evOp st (if b then y else z)) _ w (Below.refl _ _) (evOp_rv hr.vals _) ?_)
          cases b
          · simpa using h
          · simpa using h
        · rename_i c0 hop
          obtain ⟨f, g, caps, N, rd, z, y, h1, h2, h3, h4⟩ := callV_spec h
          have hcont := h4.cont
          split at hcont
          · rename_i hs
            have hr2 : HR E (Gv.freeze st.σ rd) μ st a w := by unfold HR at hr ⊢; rw [hσ]; exact hr.freeze rd
            refine call_wp hC hop h1 h2 h3 h4 (σ' := Gv.freeze st.σ rd) hr2 (evOp_rv hr2.vals) (hr2.weakobs) (hr2.read_ok) (fun v w' hB hv => ?_)
            exact go _ v w' hB (scal_rv 6 hs hv) hcont
          · cases hcont
        · cases h
    · rename_i hgok
      split at h
      · cases h
      · rename_i j want hg
        obtain ⟨s, hs, h⟩ := Option.bind_eq_some_iff.1 h
        obtain ⟨b, hb, h⟩ := Option.bind_eq_some_iff.1 h
        split at h
        · rename_i g p r' hsp
          obtain ⟨hor, hpg, y, z, hop⟩ := splitPick_spec hsp
          split at h
          · rename_i hgrp
            simp only [grpOk, Bool.and_eq_true] at hgrp
            obtain ⟨hg1, hg2⟩ := hgrp
            obtain ⟨c0, hc0, h⟩ := Option.bind_eq_some_iff.1 h
            have hsb := get_bool hr hb
            have hyb := yielded_bool hs hsb
            have hnd : ∀ o ∈ g, o.dst ≠ some s := by
              intro o ho e
              have := List.all_eq_true.1 hg1 o ho
              simp [e, dIs] at this
            rw [hor] at hseg hkn hK ⊢
            rw [List.length_append, List.length_cons, range'_app]
            have hsegg := hseg.left
            have hsegp := hseg.right
            -- behind the group
            have fin : ∀ a' w', Kept E ops σ μ g a w a' w' → a'.eval (if b then y else z) = .bool c0 → wpOps C.P ops Q ((i + g.length) :: (List.range' (i + g.length + 1) r'.length ++ rest)) a' w' := by
              intro a' w' hk hv
              have hkn' := hkn.kept hk
              refine group_end (st0 := st) (j := j) hop hsegp.head (gOk_wanted hkn' hpg) (by rw [hk.tm s hnd]; exact hsb) hv hk hr trivial (fun hr' hk' => ?_)
              have hkn2 : Kn ops kn r' (a'.put p.dst (.bool c0)) := by
                have : Kn ops kn ((g ++ [p]) ++ r') a := by simpa using hkn
                exact this.kept hk'
              refine evG_sound hC n kn r' _ K c h _ rest _ w' ?_ hsegp.tail hkn2 hr' (fun a'' w'' st' h1 h2 h3 => hK a'' w'' st' h1 h2 ?_)
              · rw [St.put_σ]
                have : ∀ (l : List Oper) (q : St), (anys l q).σ = q.σ := by
                  intro l
                  induction l with
                  | nil => intro q; rfl
                  | cons u l ih => intro q; exact (ih _).trans (St.put_σ _ _ _)
                rw [this]; exact hσ
              · have := hk'.trans h3
                simpa using this
            have run : ∀ (lit : Bool), b = lit → lit = want → (evG C ops n ((j, want) :: kn) g (st.put (some s) (.dat .bool lit)) fun st' => pickV st' lit p.op) = some c0 → wpOps C.P ops Q (List.range' i g.length ++ ((i + g.length) :: (List.range' (i + g.length + 1) r'.length ++ rest))) a w := by
              intro lit e1 e2 he
              subst e1 e2
              refine evG_sound hC n _ g _ _ c0 he i _ a w (by rw [St.put_σ]; exact hσ) hsegg ?_ (hr.know hb) (fun a' w' st' h1 h2 h3 => fin a' w' h3 (pickV_spec hop h1 h2))
              intro gd hgd
              rcases List.mem_cons.1 hgd with rfl | hgd
              · exact ⟨s, hs, hyb, hnd⟩
              · obtain ⟨s', k1, k2, k3⟩ := hkn gd hgd
                exact ⟨s', k1, k2, fun o ho => k3 o (by simp [ho])⟩
            have skip : ∀ (lit : Bool), b = lit → lit ≠ want → pickV (anys g st) lit p.op = some c0 → wpOps C.P ops Q (List.range' i g.length ++ ((i + g.length) :: (List.range' (i + g.length + 1) r'.length ++ rest))) a w := by
              intro lit e1 e2 he
              subst e1
              refine skips_sound (E := E) (σ := σ) (μ := μ) hs g [] i _ a w hg2 hg1 hsegg ⟨b, hyb, e2⟩ (fun d hd => by simp at hd) (fun a' hk => fin a' w hk (pickV_spec hop he (hk.fr _ hr)))
            cases b
            · simp only [cond_false] at hc0
              cases want
              · exact run false rfl rfl (by simpa using hc0)
              · exact skip false rfl (by simp) (by simpa using hc0)
            · simp only [cond_true] at hc0
              cases want
              · exact skip true rfl (by simp) (by simpa using hc0)
              · exact run true rfl rfl (by simpa using hc0)
          · cases h
        · cases h

end
end Gv
