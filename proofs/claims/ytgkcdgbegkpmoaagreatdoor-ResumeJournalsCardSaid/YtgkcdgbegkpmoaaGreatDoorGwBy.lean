/- Regions of drawn order, all orders one by one: for small regions in which objects are written. -/
import Derived.Test.YtgkcdgbegkpmoaaGreatDoorGwPc
import Derived.Test.YtgkcdgbegkpmoaaGreatDoorGwFn
namespace Gv
open Go Go.RowKit
set_option linter.unusedVariables false
set_option linter.unusedSectionVars false
set_option linter.unusedSimpArgs false

section
variable [GlobI] {E : Env} {w : World} {α : Type} {x : α} {Q : Exit → Act → World → Prop} {a : Act} {ops : Array Oper}

/-- What comes out, order by order. -/
def evAnyL (C : Cfg) (ops : Array Oper) (K : St → Option α) : Nat → Array Bool → St → List (Option α)
  | 0, listed, st => (match Region.ready .any ops listed with
    | [] => [K st]
    | _ => [none])
  | n + 1, listed, st => (match Region.ready .any ops listed with
    | [] => [K st]
    | l => (l.map fun i => match ops[i]? with
      | some o => if o.guard.isNone then (match op1 C st o some (fun _ => none) with
        | some st' => evAnyL C ops K n (listed.setIfInBounds i true) st'
        | none => [none]) else [none]
      | none => [none]).flatten)

theorem evAny_sound {C : Cfg} (hC : ∀ g l N, C.orc g l = some N → Sat C.P g N) {n0 : Nat} (hd : (ops.toList.all fun o => match o.dst with | some d => decide (n0 ≤ d) | none => true) = true) {K : St → Option α} :
    ∀ (n : Nat) (listed : Array Bool) (st : St) (a : Act) (w : World), (∀ r ∈ evAnyL C ops K n listed st, r = some x) → Holds E st a w →
      (∀ a' w' st', K st' = some x → Holds E st' a' w' → SameC n0 a a' → Q .normal a' w') → wpAny C.P .any ops Q n listed a w
  | 0, listed, st, a, w => fun h hH hK => by
    simp only [evAnyL] at h
    split at h
    · rename_i hr
      exact ⟨hr, hK a w st (h _ (by simp)) hH (SameC.refl _ _)⟩
    · have := h none (by simp); cases this
  | n + 1, listed, st, a, w => fun h hH hK => by
    simp only [evAnyL] at h
    split at h
    · rename_i hr
      refine ⟨fun _ => hK a w st (h _ (by simp)) hH (SameC.refl _ _), fun i hi => ?_⟩
      rw [hr] at hi; cases hi
    · rename_i hne
      refine ⟨fun hr => (hne hr).elim, fun i hi => ?_⟩
      have h1 := fun r hr => h r (List.mem_flatten.2 ⟨_, List.mem_map.2 ⟨i, hi, rfl⟩, hr⟩)
      clear h
      unfold wpOp
      cases ho : ops[i]? with
      | none => simp only [ho] at h1; have := h1 none (by simp); cases this
      | some o =>
        simp only [ho] at h1 ⊢
        split at h1
        · rename_i hg
          have hw : Region.wanted o (yielded ops a.tmps) = true := by
            unfold Region.wanted
            cases hgg : o.guard with
            | none => rfl
            | some g => rw [hgg] at hg; simp at hg
          rw [if_pos hw]
          left
          cases hop : op1 C st o some (fun _ => none) with
          | none => simp only [hop] at h1; have := h1 none (by simp); cases this
          | some st1 =>
            simp only [hop] at h1
            refine Oper.wp_mono ?_ (op1_sound (Q := Q) hC hop hH (fun st' pv w' k => by cases k))
            rintro a' w' ⟨st', v, e1, rfl, hH'⟩
            cases e1
            refine evAny_sound hC hd n _ _ _ _ h1 hH' (fun a'' w'' st'' k1 k2 k3 => hK a'' w'' st'' k1 k2 (SameC.trans ⟨?_, fun j hj => ?_⟩ k3))
            · cases o.dst <;> rfl
            · have := List.all_eq_true.1 hd o (Array.mem_toList_iff.2 (Array.mem_of_getElem? ho))
              cases hdst : o.dst with
              | none => rfl
              | some d =>
                rw [hdst] at this
                simp only [decide_eq_true_eq] at this
                simp only [Act.put]
                rw [Array.getElem?_setIfInBounds_ne (by omega)]
        · have := h1 none (by simp); cases this

def opsOf : Code → Array Oper
  | .region _ ops _ => ops
  | .seq a _ => opsOf a
  | _ => #[]

theorem any_sound {C : Cfg} (hC : ∀ g l N, C.orc g l = some N → Sat C.P g N) (hm : C.P.follows .mixedOrders = true) {n0 : Nat} (hd : (ops.toList.all fun o => match o.dst with | some d => decide (n0 ≤ d) | none => true) = true) {K : St → Option α} {id k : Nat} {st : St}
    (h : evAnyL C ops K ops.size (Array.replicate ops.size false) st = List.replicate k (some x)) (hH : Holds E st a w) (hK : ∀ a' w' st', K st' = some x → Holds E st' a' w' → SameC n0 a a' → Q .normal a' w') : (Code.region id ops true).wp C.P Q a w := by
  refine wp_region_any hm (evAny_sound hC hd _ _ st a _ (fun r hr => ?_) ?_ hK)
  · rw [h] at hr; exact (List.mem_replicate.1 hr).2
  · obtain ⟨μ, hh⟩ := hH
    exact ⟨μ, hh.below ⟨rfl, rfl, rfl, Nat.le_refl _, fun _ _ => rfl⟩⟩

end
end Gv

/- Functions whose body is walked by hand, wholly or in part: the contract. -/
namespace Gv
open Go Go.RowKit
set_option linter.unusedVariables false
set_option linter.unusedSectionVars false
set_option linter.unusedSimpArgs false

section
variable [GlobI] {E : Env} {w : World}

/-- The state in which a function begins. -/
def start (fn : Func) (A : Sig) (x : A.V) : St := ⟨(A.put x).slots ++ List.replicate (fn.ntmps - (A.put x).slots.length) .any, (A.put x).σ⟩

/-- What a body ends in. -/
def EndsIn (C : Cfg) (fn : Func) (outs : List Out) (y : OutsV outs) (E : Env) (n : Nat) (a : Act) : Exit → Act → World → Prop
  | .normal, a', w' | .ret, a', w' => ∃ st', Holds E st' a' w' ∧ SameC n a a' ∧ ((retOf C fn st').bind fun r => pickO outs .ret (r :: st'.slots) st'.σ) = some y
  | .panic ch, a', w' => ∃ pv st', ch = [{ v := pv, recovered := false }] ∧ HoldsP E st' pv a' w' ∧ SameC n a a' ∧ pickO outs .pan st'.slots st'.σ = some y
  | _, _, _ => False

theorem wp_mono' {P : Program} {c : Code} {Q Q' : Exit → Act → World → Prop} {a : Act} (h : c.wp P Q a w) (hq : ∀ e a w, Q e a w → Q' e a w) : c.wp P Q' a w :=
  fun b k cs => let ⟨e, a', w', q, r⟩ := h b k cs; ⟨e, a', w', hq _ _ _ q, r⟩

theorem sat_by {C : Cfg} {n : Nat} {g : FuncId} {fn : Func} {body : Code} (hf : C.P.funcs[g]? = some fn) (hname : (fn.name == "runtime.NumGoroutine") = false) (hbody : fn.body = some body)
    {A : Sig} {outs : List Out} {f : A.V → Option (OutsV outs)} (ho : outsOk outs) (hA : n ≤ A.n) (hR : outs.all (fun o => decide (0 < o.R.n) && decide (o.R.n ≤ n + 1)) = true)
    (hwp : ∀ x y, f x = some y → ∀ (E : Env) (a : Act) (w : World), Holds E (start fn A x) a w → a.defers = [] → body.wp C.P (EndsIn C fn outs y E n a) a w) : Sat C.P g ⟨A, outs, f⟩ where
  fn := ⟨fn, hf, hname, by rw [hbody]; rfl⟩
  run := by
    intro x y h w Rb ok0 μ args hr
    simp only at h hr
    have hlen := hr.vals.len
    have hlenA : args.length = A.n := by rw [← hlen, Sig.put_len]
    refine calls_of_wp hf hbody ?_
    have hH : Holds ⟨w, Rb, ok0⟩ (start fn A x) { tmps := args.toArray ++ Array.replicate (fn.ntmps - args.toArray.size) undef, defers := [] } w := by
      refine ⟨μ, ?_⟩
      unfold start
      have e : (({ tmps := args.toArray ++ Array.replicate (fn.ntmps - args.toArray.size) undef, defers := [] } : Act).tmps.toList.take ((A.put x).slots ++ List.replicate (fn.ntmps - (A.put x).slots.length) AV.any).length) = args ++ List.replicate (fn.ntmps - (A.put x).slots.length) undef := by
        simp only [Array.toList_append, Array.toList_replicate, List.length_append, List.length_replicate, List.size_toArray, hlen]
        exact List.take_of_length_le (by simp)
      rw [e]
      refine { hr with vals := hr.vals.append ?_ }
      have := RVL.anys (ok := okN ⟨w, Rb, ok0⟩ (A.put x).σ μ w) (w := w) (μ := μ) (List.replicate (fn.ntmps - (A.put x).slots.length) undef)
      rwa [List.length_replicate] at this
    -- what a signature takes at the end
    have endR : ∀ (R : Sig) (rv : R.V) (sl : List AV) (σ1 : List Ob) (v : Value) (a' : Act) (w' : World) (μ' : Nat → Option Value) (L : Nat), 0 < R.n → R.n ≤ n + 1 → sl.length = L + 1 → R.get sl σ1 = some rv →
        SameC n { tmps := args.toArray ++ Array.replicate (fn.ntmps - args.toArray.size) undef, defers := [] } a' → Rel ⟨w, Rb, ok0⟩ sl σ1 μ' (v :: a'.tmps.toList.take L) w' →
        ∃ μ, Rel ⟨w, Rb, ok0⟩ (R.put rv).slots (R.put rv).σ μ ((v :: args).take (R.put rv).slots.length) w' := by
      intro R rv sl σ1 v a' w' μ' L h0 h1 h2 h4 k3 hr2
      obtain ⟨⟨m, rd, v1⟩, q1, q2⟩ := Option.bind_eq_some_iff.1 h4
      simp only [Option.some.injEq] at q2; subst q2
      obtain ⟨us, k, hF, hn⟩ := hr2.taken q1
      obtain ⟨e1, _, _⟩ := k.rel hF
      have htk : (v :: a'.tmps.toList.take L).take R.n = (v :: args).take R.n := by
        obtain ⟨q, hRn⟩ : ∃ q, R.n = q + 1 := ⟨R.n - 1, by omega⟩
        rw [hRn]
        rw [h2] at hn
        simp only [List.take_succ_cons, List.take_take]
        rw [Nat.min_eq_left (by omega), take_same k3 (by omega)]
        simp only [Array.toList_append, Array.toList_replicate]
        rw [List.take_append_of_le_length (by omega)]
      rw [htk] at e1
      rw [Sig.put_len]
      exact ⟨_, e1⟩
    refine wp_mono' (hwp x y h _ _ _ hH rfl) (fun e a' w' k1 => ?_)
    have fin : (∃ st', Holds ⟨w, Rb, ok0⟩ st' a' w' ∧ SameC n { tmps := args.toArray ++ Array.replicate (fn.ntmps - args.toArray.size) undef, defers := [] } a' ∧ ((retOf C fn st').bind fun r => pickO outs .ret (r :: st'.slots) st'.σ) = some y) →
        a'.defers = [] ∧ ∃ v, (results fn a'.tmps).run C.P w' = .ok v w' ∧ OutP outs y (Ended ⟨w, Rb, ok0⟩ args w' (.returned v)) := by
      rintro ⟨st', k2, k3, hh⟩
      obtain ⟨r, h3, h4⟩ := Option.bind_eq_some_iff.1 hh
      obtain ⟨μ', hr'⟩ := Rel.of_holds k2
      obtain ⟨v, g1, g2⟩ := results_sound hr' h3
      refine ⟨k3.de, v, g2, ?_⟩
      have hr2 : Rel ⟨w, Rb, ok0⟩ (r :: st'.slots) st'.σ μ' (v :: a'.tmps.toList.take st'.slots.length) w' := { hr' with vals := RVL.cons' g1 hr'.vals }
      refine OutQ.monoM (pickO_spec ho h4) (fun o hmem y1 hy => ?_)
      obtain ⟨he, hget⟩ := hy
      have hRo := List.all_eq_true.1 hR o hmem
      simp only [Bool.and_eq_true, decide_eq_true_eq] at hRo
      rw [← he]
      exact endR o.R _ _ _ v a' w' μ' _ hRo.1 hRo.2 rfl hget k3 hr2
    cases e with
    | normal => exact fin k1
    | ret => exact fin k1
    | exit id => cases k1
    | goto l => cases k1
    | outgrown => cases k1
    | panic ch =>
      obtain ⟨pv, st', rfl, k2, k3, k4⟩ := k1
      refine ⟨k3.de, ?_⟩
      obtain ⟨μ', hr2⟩ := k2
      refine OutQ.monoM (pickO_spec ho k4) (fun o hmem y1 hy => ?_)
      obtain ⟨he, hget⟩ := hy
      have hRo := List.all_eq_true.1 hR o hmem
      simp only [Bool.and_eq_true, decide_eq_true_eq] at hRo
      rw [← he]
      refine ⟨pv, rfl, ?_⟩
      cases hsl : st'.slots with
      | nil =>
        have := hr2.vals
        rw [hsl] at this
        simp only [RVL] at this
        cases this
      | cons b sl =>
        rw [hsl] at hr2 hget
        exact endR o.R _ _ _ pv a' w' μ' sl.length hRo.1 hRo.2 rfl hget k3 hr2

/-- The rest of a body, reckoned. -/
theorem rest_ends {C : Cfg} (hC : ∀ g l N, C.orc g l = some N → Sat C.P g N) (hm : C.P.follows .mixedOrders = true) {fn : Func} {outs : List Out} {y : OutsV outs} {n : Nat} {body c : Code} {p : Nat} {st : St} {a0 a : Act}
    (h : evC C c p st (fun e st' => match e with
      | .normal | .ret => (retOf C fn st').bind fun r => pickO outs .ret (r :: st'.slots) st'.σ
      | .pan => pickO outs .pan st'.slots st'.σ
      | .exit _ => none) = some y) (hat : At body p c) (hd : dstOk n c = true) (hp : C.pcs = fun _ => none) (hH : Holds E st a w) (hs : SameC n a0 a) : c.wp C.P (EndsIn C fn outs y E n a0) a w := by
  refine evC_sound hC hm c p st _ y h hat hd (fun q c' pc _ _ hq => by rw [hp] at hq; cases hq) E a w _ hH (fun e st' k1 => ?_)
  cases e with
  | normal => exact fun a' w' k2 k3 => ⟨st', k2, hs.trans k3, k1⟩
  | ret => exact fun a' w' k2 k3 => ⟨st', k2, hs.trans k3, k1⟩
  | exit id => cases k1
  | pan => exact fun pv a' w' k2 k3 => ⟨pv, st', rfl, k2, hs.trans k3, k1⟩

/-- .. and it never ends normally. -/
theorem rest_leaves {C : Cfg} (hC : ∀ g l N, C.orc g l = some N → Sat C.P g N) (hm : C.P.follows .mixedOrders = true) {fn : Func} {outs : List Out} {y : OutsV outs} {n : Nat} {body c : Code} {p : Nat} {st : St} {a0 a : Act} {R : Act → World → Prop}
    (h : evC C c p st (fun e st' => match e with
      | .ret => (retOf C fn st').bind fun r => pickO outs .ret (r :: st'.slots) st'.σ
      | .pan => pickO outs .pan st'.slots st'.σ
      | _ => none) = some y) (hat : At body p c) (hd : dstOk n c = true) (hp : C.pcs = fun _ => none) (hH : Holds E st a w) (hs : SameC n a0 a) : c.wp C.P (Exit.then R (EndsIn C fn outs y E n a0)) a w := by
  refine evC_sound hC hm c p st _ y h hat hd (fun q c' pc _ _ hq => by rw [hp] at hq; cases hq) E a w _ hH (fun e st' k1 => ?_)
  cases e with
  | normal => cases k1
  | ret => exact fun a' w' k2 k3 => ⟨st', k2, hs.trans k3, k1⟩
  | exit id => cases k1
  | pan => exact fun pv a' w' k2 k3 => ⟨pv, st', rfl, k2, hs.trans k3, k1⟩

end
end Gv
