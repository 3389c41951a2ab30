/- One operation, whatever it does: the theorem. -/
import Derived.Test.YtgkcdgbegkpmoaaGreatDoorGwOp2
namespace Gv
open Go Go.RowKit
set_option linter.unusedVariables false
set_option linter.unusedSectionVars false
set_option linter.unusedSimpArgs false

section
variable [GlobI] {E : Env} {avs : List AV} {slots : List AV} {σ : List Ob} {μ μ' : Nat → Option Value} {vs : List Value} {w w' : World} {ok ok' : Nat → Prop} {α : Type} {x : α} {P : Program} {Q : Exit → Act → World → Prop}

theorem St.put_σ (st : St) (d : Option Tmp) (v : AV) : (st.put d v).σ = st.σ := by cases d <;> rfl

/-- The state behind an operation. -/
def Next (E : Env) (o : Oper) (a : Act) (K : St → Option α) (x : α) (a' : Act) (w' : World) : Prop :=
  ∃ st' v, K st' = some x ∧ a' = a.put o.dst v ∧ Holds E st' a' w'

theorem After.next {st : St} {o : Oper} {a a' : Act} {K : St → Option α} (h : After E st o a (fun v st' => K (st'.put o.dst v)) x a' w') : Next E o a K x a' w' := by
  obtain ⟨av, st', v, μ', h1, h2, rfl, h3, h4⟩ := h
  rw [← h2] at h4
  exact ⟨_, v, h1, rfl, μ', by rw [St.put_σ]; exact h4.puts h3 o.dst⟩

/-- A panic: its value ahead of the state. -/
def HoldsP (E : Env) (st : St) (pv : Value) (a : Act) (w : World) : Prop := ∃ μ, Rel E st.slots st.σ μ (pv :: a.tmps.toList.take (st.slots.length - 1)) w

theorem op1_sound {C : Cfg} (hC : ∀ g l N, C.orc g l = some N → Sat C.P g N) {st : St} {o : Oper} {a : Act} {K : St → Option α} {KP : St → Option α} (h : op1 C st o K KP = some x)
    (hH : Holds E st a w) (hP : ∀ (st' : St) (pv : Value) (w' : World), KP st' = some x → HoldsP E st' pv a w' → Q (.panic [{ v := pv, recovered := false }]) a w') : o.wp C.P a w (fun a' w' => Next E o a K x a' w') Q := by
  obtain ⟨μ, hr⟩ := hH
  unfold op1 at h
  split at h
  · obtain ⟨av, v, h1, h2, h3⟩ := opN_sound h a.eval (evOp_rv hr.vals) hr.objs
    unfold Oper.wp
    rw [h3, Oper.upon_value]
    exact ⟨_, v, h1, rfl, μ, by rw [St.put_σ]; exact hr.puts h2 o.dst⟩
  · split at h
    · obtain ⟨toks, av, ob, hK, g⟩ := opA_sound h
      have hF := hr.freeze toks
      obtain ⟨v, w', hn, hav⟩ := g _ w μ a.eval (evOp_rv hF.vals) hF.objs
      unfold Oper.wp
      rw [hn.run, Oper.upon_value]
      have hl : (Gv.freeze st.σ toks).length = st.σ.length := freeze_len _ _
      have hk := kp_alloc (E := E) (o := ob) (v := v) hF.dom hn.below (fun b h1 _ => (hn.blk b h1).1)
      have hnew := hF.alloc hn.below ob v (fun b hb _ => hn.blk b hb) (by
        have := hn.ob _ _ hk (upd_ext hF.dom) (by rw [hl]; exact upd_same _ _ _)
        rwa [← hl] at this)
      have hz : upd μ (Gv.freeze st.σ toks).length v st.σ.length = some v := by rw [hl]; exact upd_same _ _ _
      have hp := Rel.puts (st := ⟨st.slots, Gv.freeze st.σ toks ++ [ob]⟩) hnew (hav _ _ hz) o.dst
      refine ⟨_, v, hK, rfl, upd μ (Gv.freeze st.σ toks).length v, ?_⟩
      rw [St.put_σ]
      exact hp
    · exact Oper.wp_mono (fun a' w' q => q.next) (opM_sound hC h hr (fun st' pv w' k hl hr' => hP st' pv w' k (by unfold HoldsP; rw [hl, Nat.add_sub_cancel]; exact hr')))

end
end Gv
