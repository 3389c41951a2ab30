/- Regions in the order of the text: the theorem. -/
import Derived.Test.YtgkcdgbegkpmoaaGreatDoorGwReg2
namespace Gv
open Go Go.RowKit
set_option linter.unusedVariables false
set_option linter.unusedSectionVars false
set_option linter.unusedSimpArgs false

section
variable [GlobI] {E : Env} {avs : List AV} {slots : List AV} {σ : List Ob} {μ μ' : Nat → Option Value} {vs : List Value} {w w' : World} {ok ok' : Nat → Prop} {α : Type} {x : α} {P : Program} {Q : Exit → Act → World → Prop}
variable {ops : Array Oper}

/-- The temporaries that operations do not put down. -/
def Same (r : List Oper) (a a' : Act) : Prop := a'.defers = a.defers ∧ ∀ s, (∀ o ∈ r, o.dst ≠ some s) → a'.tmps[s]? = a.tmps[s]?

theorem Same.refl (r : List Oper) (a : Act) : Same r a a := ⟨rfl, fun _ _ => rfl⟩
theorem Same.one {o : Oper} {r : List Oper} (h : o ∈ r) (a : Act) (v : Value) : Same r a (a.put o.dst v) :=
  ⟨by cases o.dst <;> rfl, fun s hs => by
    have := hs o h
    cases hd : o.dst with
    | none => rfl
    | some d =>
      have hne : d ≠ s := fun e => this (by rw [hd, e])
      simp [Act.put, Array.getElem?_setIfInBounds_ne hne]⟩
theorem Same.trans {r : List Oper} {a b c : Act} (h : Same r a b) (h' : Same r b c) : Same r a c := ⟨h'.1.trans h.1, fun s hs => (h'.2 s hs).trans (h.2 s hs)⟩
theorem Same.mono {r r' : List Oper} {a b : Act} (h : Same r a b) (hr : ∀ o ∈ r, o ∈ r') : Same r' a b := ⟨h.1, fun s hs => h.2 s (fun o ho => hs o (hr o ho))⟩

theorem Kept.same {r : List Oper} {a a' : Act} (h : Kept E ops σ μ r a w a' w') : Same r a a' := ⟨h.de, h.tm⟩

theorem Rel.of_holds {st : St} {a : Act} (h : Holds E st a w) : ∃ μ, HR E st.σ μ st a w := h

theorem anys_σ : ∀ (l : List Oper) (q : St), (anys l q).σ = q.σ
  | [], q => rfl
  | u :: l, q => (anys_σ l _).trans (St.put_σ _ _ _)

theorem evOps_sound {C : Cfg} (hC : ∀ g l N, C.orc g l = some N → Sat C.P g N) {KP : St → Option α} : ∀ (n : Nat) (r : List Oper) (st : St) (K : St → Option α) (x : α), evOps C ops KP n r st K = some x →
    ∀ (i : Nat) (a : Act) (w : World), Seg ops i r → Holds E st a w →
    (∀ a' w' st', K st' = some x → Holds E st' a' w' → Same r a a' → Q .normal a' w') → (∀ a' w' st' pv, KP st' = some x → HoldsP E st' pv a' w' → Same r a a' → Q (.panic [{ v := pv, recovered := false }]) a' w') → wpOps C.P ops Q (List.range' i r.length) a w
  | 0, r, st, K, x, h => by simp [evOps] at h
  | n + 1, [], st, K, x, h => fun i a w hseg hH hK hPP => by
    simp only [evOps] at h
    exact hK a w st h hH (Same.refl _ a)
  | n + 1, o :: r, st, K, x, h => fun i a w hseg hH hK hPP => by
    obtain ⟨μ, hr⟩ := Rel.of_holds hH
    have sub : ∀ o' ∈ r, o' ∈ o :: r := fun o' h => List.mem_cons_of_mem _ h
    -- behind a step that puts down a value
    have go : ∀ (st1 : St) (v : Value) (w' : World), Holds E st1 (a.put o.dst v) w' → evOps C ops KP n r st1 K = some x → wpOps C.P ops Q (List.range' (i + 1) r.length) (a.put o.dst v) w' := by
      intro st1 v w' h1 he
      exact evOps_sound hC n r _ K x he (i + 1) _ w' hseg.tail h1 (fun a' w'' st' k1 k2 k3 => hK a' w'' st' k1 k2 ((Same.one (by simp) a v).trans (k3.mono sub))) (fun a' w'' st' pv k1 k2 k3 => hPP a' w'' st' pv k1 k2 ((Same.one (by simp) a v).trans (k3.mono sub)))
    have step : ∀ {st1 : St}, Holds E st1 a w → (op1 C st1 o (fun st' => evOps C ops KP n r st' K) KP) = some x → o.wp C.P a w (wpOps C.P ops Q (List.range' (i + 1) r.length)) Q := by
      intro st1 hH1 he
      refine Oper.wp_mono (fun a' w' hn => ?_) (op1_sound hC he hH1 (fun st' pv w' k1 k2 => hPP a w' st' pv k1 k2 (Same.refl _ a)))
      obtain ⟨st', v, k1, rfl, k2⟩ := hn
      exact go st' v w' k2 k1
    rw [List.length_cons, List.range'_succ]
    simp only [evOps] at h
    split at h
    · rename_i hg
      have hw : Region.wanted o (yielded ops a.tmps) = true := by simp [Region.wanted, hg]
      refine wpOps_step hseg.head (fun _ => ?_) (fun h => by rw [hw] at h; cases h)
      split at h
      · rename_i c0 y z hop
        obtain ⟨b, hb, h⟩ := Option.bind_eq_some_iff.1 h
        have hc := asB_rv hb (evOp_rv hr.vals c0)
        refine pick_wp hop hc (go (st.put o.dst (evOp st (if b then y else z))) _ w ⟨μ, ?_⟩ ?_)
        · rw [St.put_σ]; exact hr.put (evOp_rv hr.vals _) o.dst
        · cases b
          · simpa using h
          · simpa using h
      · exact step hH h
    · rename_i j want hg
      obtain ⟨s, hs, h⟩ := Option.bind_eq_some_iff.1 h
      obtain ⟨b, hb, h⟩ := Option.bind_eq_some_iff.1 h
      have hsb := get_bool hr hb
      have hyb := yielded_bool hs hsb
      have hwant : Region.wanted o (yielded ops a.tmps) = (b == want) := by
        simp only [Region.wanted, hg, hyb]
        cases b <;> cases want <;> rfl
      split at h
      · rename_i g p r' hsp
        obtain ⟨hor, hpg, y, z, hop⟩ := splitPick_spec hsp
        split at h
        · rename_i hgrp
          simp only [grpOk, Bool.and_eq_true] at hgrp
          obtain ⟨hg1, hg2⟩ := hgrp
          obtain ⟨c0, hc0, h⟩ := Option.bind_eq_some_iff.1 h
          have hnd : ∀ o ∈ g, o.dst ≠ some s := by
            intro o ho e
            have := List.all_eq_true.1 hg1 o ho
            simp [e, dIs] at this
          rw [← List.range'_succ, ← List.length_cons (a := o)]
          rw [hor] at hseg hK hPP ⊢
          rw [List.length_append, List.length_cons, ← List.append_nil (List.range' _ _), range'_app, List.append_nil]
          have hsegg := hseg.left
          have hsegp := hseg.right
          have fin : ∀ a' w', Kept E ops st.σ μ g a w a' w' → a'.eval (if b then y else z) = .bool c0 → wpOps C.P ops Q ((i + g.length) :: List.range' (i + g.length + 1) r'.length) a' w' := by
            intro a' w' hk hv
            have hwp : Region.wanted p (yielded ops a'.tmps) = true := gOk_wanted (kn := []) (r := []) (fun g hg => by simp at hg) hpg
            refine group_end (st0 := st) (j := j) hop hsegp.head hwp (by rw [hk.tm s hnd]; exact hsb) hv hk hr trivial (fun hr' hk' => ?_)
            refine evOps_sound hC n r' _ K x h _ _ w' hsegp.tail ⟨μ, ?_⟩ (fun a'' w'' st' h1 h2 h3 => hK a'' w'' st' h1 h2 ?_) (fun a'' w'' st' pv h1 h2 h3 => hPP a'' w'' st' pv h1 h2 ?_)
            · rw [St.put_σ, anys_σ]; exact hr'
            · exact (hk'.same.mono (fun o ho => by rcases List.mem_append.1 ho with h | h; exact List.mem_append_left _ h; simp at h; simp [h])).trans (h3.mono (fun o ho => by simp [ho]))
            · exact (hk'.same.mono (fun o ho => by rcases List.mem_append.1 ho with h | h; exact List.mem_append_left _ h; simp at h; simp [h])).trans (h3.mono (fun o ho => by simp [ho]))
          have run : ∀ (lit : Bool), b = lit → lit = want → (evG C ops n [(j, want)] g (st.put (some s) (.dat .bool lit)) fun st' => pickV st' lit p.op) = some c0 → wpOps C.P ops Q (List.range' i g.length ++ ((i + g.length) :: List.range' (i + g.length + 1) r'.length)) a w := by
            intro lit e1 e2 he
            subst e1 e2
            refine evG_sound (σ := st.σ) hC n _ g _ _ c0 he i _ a w (St.put_σ _ _ _) hsegg ?_ (hr.know hb) (fun a' w' st' h1 h2 h3 => fin a' w' h3 (pickV_spec hop h1 h2))
            intro gd hgd
            simp only [List.mem_singleton] at hgd
            subst hgd
            exact ⟨s, hs, hyb, hnd⟩
          have skip : ∀ (lit : Bool), b = lit → lit ≠ want → pickV (anys g st) lit p.op = some c0 → wpOps C.P ops Q (List.range' i g.length ++ ((i + g.length) :: List.range' (i + g.length + 1) r'.length)) a w := by
            intro lit e1 e2 he
            subst e1
            refine skips_sound (E := E) (σ := st.σ) (μ := μ) hs g [] i _ a w hg2 hg1 hsegg ⟨b, hyb, e2⟩ (fun d hd => by simp at hd) (fun a' hk => fin a' w hk (pickV_spec hop he (hk.fr _ hr)))
          cases b
          · simp only [cond_false] at hc0
            cases want
            · exact run false rfl rfl (by simpa using hc0)
            · exact skip false rfl (by simp) (by simpa using hc0)
          · simp only [cond_true] at hc0
            cases want
            · exact skip true rfl (by simp) (by simpa using hc0)
            · exact run true rfl rfl (by simpa using hc0)
        · cases h
      · -- a guarded operation by itself
        have hk : HR E st.σ μ (st.put (some s) (.dat .bool b)) a w := hr.know hb
        have hkH : Holds E (st.put (some s) (.dat .bool b)) a w := ⟨μ, by rw [St.put_σ]; exact hk⟩
        have yes : b = want → (op1 C (st.put (some s) (.dat .bool b)) o (fun st' => evOps C ops KP n r st' K) KP) = some x → wpOps C.P ops Q (i :: List.range' (i + 1) r.length) a w := by
          intro e he
          exact wpOps_step hseg.head (fun _ => step hkH he) (fun h => by rw [hwant, e] at h; simp at h)
        have no : b ≠ want → evOps C ops KP n r ((st.put (some s) (.dat .bool b)).put o.dst .any) K = some x → wpOps C.P ops Q (i :: List.range' (i + 1) r.length) a w := by
          intro e he
          refine wpOps_step hseg.head (fun h => by rw [hwant] at h; simp [e] at h) (fun _ => ?_)
          refine go _ undef w ⟨μ, ?_⟩ he
          rw [St.put_σ, St.put_σ]
          exact hk.put (av := .any) trivial o.dst
        cases b <;> cases want <;> simp only [cond_true, cond_false] at h
        · exact yes rfl (by simpa using h)
        · exact no (by simp) (by simpa using h)
        · exact no (by simp) (by simpa using h)
        · exact yes rfl (by simpa using h)

/-- A region in the text's order. -/
theorem region_sound {C : Cfg} (hC : ∀ g l N, C.orc g l = some N → Sat C.P g N) {n : Nat} {st : St} {K : St → Option α} {a : Act} {id : Nat} {KP : St → Option α} (h : evOps C ops KP n ops.toList st K = some x) (hH : Holds E st a w)
    (hK : ∀ a' w' st', K st' = some x → Holds E st' a' w' → Same ops.toList a a' → Q .normal a' w')
    (hPP : ∀ a' w' st' pv, KP st' = some x → HoldsP E st' pv a' w' → Same ops.toList a a' → Q (.panic [{ v := pv, recovered := false }]) a' w') : (Code.region id ops false).wp C.P Q a w := by
  refine wp_region ?_
  have := evOps_sound (ops := ops) (Q := Q) hC n ops.toList st K x h 0 a w (fun k o hk => by rw [Nat.zero_add]; simpa using hk) hH hK hPP
  rwa [Array.length_toList, ← List.range_eq_range'] at this

end
end Gv
