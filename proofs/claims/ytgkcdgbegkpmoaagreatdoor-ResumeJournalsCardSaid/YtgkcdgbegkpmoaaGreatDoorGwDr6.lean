/- Regions of drawn order: the theorem. -/
import Derived.Test.YtgkcdgbegkpmoaaGreatDoorGwDr7
namespace Gv
open Go Go.RowKit
set_option linter.unusedVariables false
set_option linter.unusedSectionVars false
set_option linter.unusedSimpArgs false

section
variable [GlobI] {E : Env} {avs : List AV} {slots : List AV} {σ σ' σ'' : List Ob} {μ μ' : Nat → Option Value} {vs : List Value} {w w' : World} {ok ok' : Nat → Prop} {α : Type} {x : α} {P : Program} {Q : Exit → Act → World → Prop}
variable {ops : Array Oper}

theorem wpOp_of {m : Nat} {o : Oper} {a : Act} {K : Act → World → Prop} (ho : ops[m]? = some o) (hw : Region.wanted o (yielded ops a.tmps) = true) (h : o.wp P a w K Q) : wpOp P ops Q m K a w := by
  unfold wpOp
  simp only [ho, hw, if_true]
  exact .inl h

theorem evDr_sound {C : Cfg} {KP : St → Option α} (hC : ∀ g l N, C.orc g l = some N → Sat C.P g N) (hb : back 0 ops.toList = true) : ∀ (n m : Nat) (bs : List (List Oper)) (st : St) (K : St → Option α) (x : α), evDr C ops KP n m bs st K = some x →
    ∀ (a : Act) (w : World) (listed : Array Bool), BOk ops m bs → Holds E st a w → Lst ops m 0 [] listed → ops.size = m + bs.flatten.length →
    (∀ a' w' st', K st' = some x → Holds E st' a' w' → Same bs.flatten a a' → Q .normal a' w') → (∀ a' w' st' pv, KP st' = some x → HoldsP E st' pv a' w' → Same bs.flatten a a' → Q (.panic [{ v := pv, recovered := false }]) a' w') → wpAny C.P .any ops Q bs.flatten.length listed a w
  | 0, m, bs, st, K, x, h => by simp [evDr] at h
  | n + 1, m, [], st, K, x, h => fun a w listed hbo hH hl hz hK hPP => by
    simp only [evDr] at h
    refine wpAny_done ?_ (hK a w st h hH (Same.refl _ a)) _
    cases hr : Region.ready .any ops listed with
    | nil => rfl
    | cons q r =>
      exfalso
      have : q ∈ Region.ready .any ops listed := by rw [hr]; simp
      obtain ⟨h0, o, ho, _⟩ := mem_ready.1 this
      have hlt := (Array.getElem?_eq_some_iff.1 ho).1
      rw [hl.getD hlt] at h0
      simp at h0 hz
      omega
  | n + 1, m, b :: bs, st, K, x, h => fun a w listed hbo hH hl hz hK hPP => by
    obtain ⟨μ, hr⟩ := Rel.of_holds hH
    have hbo0 := hbo
    obtain ⟨hseg, hcut, hbo'⟩ := hbo
    simp only [evDr] at h
    split at h
    · cases h
    · rename_i o r
      split at h
      · rename_i hg
        split at h
        · -- one operation by itself
          have ho : ops[m]? = some o := hseg 0 o rfl
          have hw : Region.wanted o (yielded ops a.tmps) = true := by simp [Region.wanted, hg]
          have sub : ∀ o' ∈ bs.flatten, o' ∈ ([o] :: bs).flatten := fun o' ho' => by simp only [List.flatten_cons, List.mem_append]; exact .inr ho'
          have hmem : o ∈ ([o] :: bs).flatten := by simp
          have go : ∀ (st1 : St) (v : Value) (w' : World), Holds E st1 (a.put o.dst v) w' → evDr C ops KP n (m + 1) bs st1 K = some x → ∀ listed', Lst ops (m + 1) 0 [] listed' → wpAny C.P .any ops Q bs.flatten.length listed' (a.put o.dst v) w' := by
            intro st1 v w' h1 he listed' hl'
            refine evDr_sound hC hb n (m + 1) bs st1 K x he _ w' listed' hbo' h1 hl' (by rw [List.flatten_cons, List.length_append, List.length_singleton] at hz; omega) (fun a' w'' st' k1 k2 k3 => hK a' w'' st' k1 k2 ((Same.one hmem a v).trans (k3.mono sub))) (fun a' w'' st' pv k1 k2 k3 => hPP a' w'' st' pv k1 k2 ((Same.one hmem a v).trans (k3.mono sub)))
          have e1 : ([o] :: bs).flatten.length = 1 + bs.flatten.length := by rw [List.flatten_cons, List.length_append]; rfl
          rw [e1]
          refine single_any hb ho hcut hl (wpOp_of ho hw ?_)
          split at h
          · rename_i c0 y z hop
            obtain ⟨t, ht, h⟩ := Option.bind_eq_some_iff.1 h
            have hc := asB_rv ht (evOp_rv hr.vals c0)
            refine pick_wp hop hc (go (st.put o.dst (evOp st (if t then y else z))) _ w ⟨μ, ?_⟩ ?_)
            · rw [St.put_σ]; exact hr.put (evOp_rv hr.vals _) o.dst
            · cases t
              · simpa using h
              · simpa using h
          · refine Oper.wp_mono (fun a' w' hn => ?_) (op1_sound hC h hH (fun st' pv w' k1 k2 => hPP a w' st' pv k1 k2 (Same.refl _ a)))
            obtain ⟨st', v, k1, rfl, k2⟩ := hn
            exact go st' v w' k2 k1
        · -- some, in whatever order
          split at h
          · rename_i hok
            have hnd := distinct_spec hok
            have e1 : ((o :: r) :: bs).flatten.length = (o :: r).length + bs.flatten.length := by rw [List.flatten_cons, List.length_append]
            have hfit := seg_fit hseg (by have := hl.fit; omega)
            have hl' : Lst ops m (o :: r).length (List.range' m (o :: r).length) listed := Lst.next (len := 0) hl hfit
            split at h
            · rename_i c hsp
              rw [e1]
              refine spine_sound hC hb h hseg hcut hnd hr (fun a1 w1 listed1 st1 k1 k2 k3 k4 => ?_) (fun st1 pv a1 w1 k1 k2 k3 => hPP a1 w1 st1 pv k1 k2 (k3.mono ?_)) hl'
              · refine evDr_sound hC hb n _ bs st1 K x k1 a1 w1 listed1 hbo' k3 k2.bdry (by rw [hz, e1]; omega) (fun a' w'' st' q1 q2 q3 => hK a' w'' st' q1 q2 ((k4.mono ?_).trans (q3.mono ?_))) (fun a' w'' st' pv q1 q2 q3 => hPP a' w'' st' pv q1 q2 ((k4.mono ?_).trans (q3.mono ?_)))
                · intro o' ho'; simp only [List.flatten_cons, List.mem_append]; exact .inl ho'
                · intro o' ho'; simp only [List.flatten_cons, List.mem_append]; exact .inr ho'
                · intro o' ho'; simp only [List.flatten_cons, List.mem_append]; exact .inl ho'
                · intro o' ho'; simp only [List.flatten_cons, List.mem_append]; exact .inr ho'
              · intro o' ho'; simp only [List.flatten_cons, List.mem_append]; exact .inl ho'
            · obtain ⟨stF, L, h1, T⟩ := evAB_spec (E := E) hC (o :: r) m st _ x h (fun k o' hk => ⟨zipFrom_get _ m k o' hk, fun j hj => by
                have := back_spec ops.toList 0 hb (m + k) o' (by rw [Array.getElem?_toList]; exact hseg k o' hk) j hj
                omega⟩) hnd
              rw [e1]
              refine block_sound hb hseg hcut T hnd hr (fun g hg => by simp at hg) (fun a1 w1 listed1 μ1 hl1 hr1 hp1 => ?_) hl'
              refine evDr_sound hC hb n _ bs stF K x h1 a1 w1 listed1 hbo' ⟨μ1, hr1⟩ hl1.bdry (by rw [hz, e1]; omega) (fun a' w'' st' k1 k2 k3 => hK a' w'' st' k1 k2 ((hp1.same.mono ?_).trans (k3.mono ?_))) (fun a' w'' st' pv k1 k2 k3 => hPP a' w'' st' pv k1 k2 ((hp1.same.mono ?_).trans (k3.mono ?_)))
              · intro o' ho'; simp only [List.flatten_cons, List.mem_append]; exact .inl ho'
              · intro o' ho'; simp only [List.flatten_cons, List.mem_append]; exact .inr ho'
              · intro o' ho'; simp only [List.flatten_cons, List.mem_append]; exact .inl ho'
              · intro o' ho'; simp only [List.flatten_cons, List.mem_append]; exact .inr ho'
          · cases h
      · rename_i j want hg
        obtain ⟨s, hs, h⟩ := Option.bind_eq_some_iff.1 h
        obtain ⟨t, ht, h⟩ := Option.bind_eq_some_iff.1 h
        have hsb := get_bool hr ht
        have hyb := yielded_bool hs hsb
        split at h
        · rename_i gs p bs' hsp
          obtain ⟨hor, hpg, y, z, hop⟩ := splitB_spec hsp
          split at h
          · rename_i hgrp
            obtain ⟨c0, hc0, h⟩ := Option.bind_eq_some_iff.1 h
            have hnd : ∀ o' ∈ gs.flatten, o'.dst ≠ some s := by
              intro o' ho' e
              have := List.all_eq_true.1 hgrp o' ho'
              simp [e, dIs] at this
            rw [hor] at hbo0 hK hPP hz ⊢
            obtain ⟨hbg, hsegp, hcutp, hbo2⟩ := hbo0.split
            have hp : ops[m + gs.flatten.length]? = some p := hsegp 0 p rfl
            have e1 : (gs ++ [p] :: bs').flatten.length = gs.flatten.length + (1 + bs'.flatten.length) := by rw [List.flatten_append, List.length_append, List.flatten_cons, List.length_append]; rfl
            rw [e1]
            have fin : ∀ a' w' listed', Kept E ops st.σ μ gs.flatten a w a' w' → a'.eval (if t then y else z) = .bool c0 → Lst ops (m + gs.flatten.length) 0 [] listed' → wpAny C.P .any ops Q (1 + bs'.flatten.length) listed' a' w' := by
              intro a' w' listed' hk hv hl'
              refine single_any hb hp hcutp hl' (wpOp_of hp (by simp [Region.wanted, hpg]) ?_)
              refine pick_wp hop (b := t) ?_ ?_
              · simp only [Act.eval, Array.getD_eq_getD_getElem?, hk.tm s hnd, hsb, Option.getD_some]
              · rw [hv]
                intro listed2 hl2
                have hr2 := (hk.fr _ hr).put (av := .dat .bool c0) (v := .bool c0) (by simp [RV, Sh.C]) p.dst
                have hk2 : Kept E ops st.σ μ (gs.flatten ++ [p]) a w (a'.put p.dst (.bool c0)) w' := hk.trans (Kept.one (Below.refl _ _))
                refine evDr_sound hC hb n _ bs' _ K x h _ w' listed2 hbo2 ⟨μ, ?_⟩ hl2 (by rw [hz, e1]; omega) (fun a'' w'' st' k1 k2 k3 => hK a'' w'' st' k1 k2 ((hk2.same.mono ?_).trans (k3.mono ?_))) (fun a'' w'' st' pv k1 k2 k3 => hPP a'' w'' st' pv k1 k2 ((hk2.same.mono ?_).trans (k3.mono ?_)))
                · rw [St.put_σ, anys_σ]; exact hr2
                · intro o' ho'
                  simp only [List.flatten_append, List.flatten_cons, List.mem_append, List.mem_singleton] at ho' ⊢
                  rcases ho' with ho' | ho'
                  · exact .inl ho'
                  · exact .inr (.inl ho')
                · intro o' ho'
                  simp only [List.flatten_append, List.flatten_cons, List.mem_append]
                  exact .inr (.inr ho')
                · intro o' ho'
                  simp only [List.flatten_append, List.flatten_cons, List.mem_append, List.mem_singleton] at ho' ⊢
                  rcases ho' with ho' | ho'
                  · exact .inl ho'
                  · exact .inr (.inl ho')
                · intro o' ho'
                  simp only [List.flatten_append, List.flatten_cons, List.mem_append]
                  exact .inr (.inr ho')
            have run : ∀ (lit : Bool), t = lit → lit = want → (evGB C [(j, want)] m gs (st.put (some s) (.dat .bool lit)) fun st' => pickV st' lit p.op) = some c0 → wpAny C.P .any ops Q (gs.flatten.length + (1 + bs'.flatten.length)) listed a w := by
              intro lit q1 q2 he
              subst q1 q2
              refine evGB_sound (σ := st.σ) (μ := μ) hC hb gs m _ _ c0 he a w listed _ (St.put_σ _ _ _) hbg (hr.know ht) ?_ hl (fun a' w' listed' st' k1 k2 k3 k4 => fin a' w' listed' k3 (pickV_spec hop k1 k2) k4)
              intro gd hgd
              simp only [List.mem_singleton] at hgd
              subst hgd
              exact ⟨s, hs, hyb, hnd⟩
            have skip : ∀ (lit : Bool), t = lit → lit ≠ want → pickV (anys gs.flatten st) lit p.op = some c0 → wpAny C.P .any ops Q (gs.flatten.length + (1 + bs'.flatten.length)) listed a w := by
              intro lit q1 q2 he
              subst q1
              exact skipB_sound (E := E) (σ := st.σ) (μ := μ) hb hs gs m a w listed _ hgrp hbg ⟨t, hyb, q2⟩ hl (fun a' listed' k1 k2 => fin a' w listed' k1 (pickV_spec hop he (k1.fr _ hr)) k2)
            cases t
            · simp only [cond_false] at hc0
              cases want
              · exact run false rfl rfl (by simpa using hc0)
              · exact skip false rfl (by simp) (by simpa using hc0)
            · simp only [cond_true] at hc0
              cases want
              · exact skip true rfl (by simp) (by simpa using hc0)
              · exact run true rfl rfl (by simpa using hc0)
          · cases h
        · cases h

/-- A region of drawn order. -/
theorem draw_sound {C : Cfg} (hC : ∀ g l N, C.orc g l = some N → Sat C.P g N) (hm : C.P.follows .mixedOrders = true) {st : St} {K : St → Option α} {a : Act} {id : Nat} {KP : St → Option α} (h : evDraw C ops st K KP = some x) (hH : Holds E st a w)
    (hK : ∀ a' w' st', K st' = some x → Holds E st' a' w' → Same ops.toList a a' → Q .normal a' w')
    (hPP : ∀ a' w' st' pv, KP st' = some x → HoldsP E st' pv a' w' → Same ops.toList a a' → Q (.panic [{ v := pv, recovered := false }]) a' w') : (Code.region id ops true).wp C.P Q a w := by
  unfold evDraw at h
  split at h
  · rename_i hb
    obtain ⟨hl, hr⟩ := closes_spec (ops := ops) ops.toList [] [] rfl rfl (fun k o s hk hs => by simp at hs)
    have hseg : Seg ops 0 ([] ++ ops.toList) := fun k o hk => by rw [Nat.zero_add]; simpa using hk
    obtain ⟨h1, h2⟩ := blocks_spec hl hr ops.toList [] 0 0 rfl (by simp) hseg
    rw [List.nil_append] at h2
    refine wp_region_any hm ?_
    have hH' : Holds E st a { w with drawn := w.drawn + 1 } := by
      obtain ⟨μ, hh⟩ := hH
      exact ⟨μ, hh.below ⟨rfl, rfl, rfl, Nat.le_refl _, fun _ _ => rfl⟩⟩
    have hl0 : Lst ops 0 0 [] (Array.replicate ops.size false) := Lst.init hb (Nat.zero_le _)
    have := evDr_sound (E := E) (Q := Q) hC hb _ 0 _ st K x h a _ _ h1 hH' hl0 (by rw [h2]; simp) (fun a' w' st' k1 k2 k3 => hK a' w' st' k1 k2 (by rw [h2] at k3; exact k3)) (fun a' w' st' pv k1 k2 k3 => hPP a' w' st' pv k1 k2 (by rw [h2] at k3; exact k3))
    rw [h2, Array.length_toList] at this
    exact this
  · cases h

end
end Gv
