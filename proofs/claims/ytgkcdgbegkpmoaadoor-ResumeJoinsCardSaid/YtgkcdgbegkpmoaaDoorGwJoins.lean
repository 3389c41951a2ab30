/- Joining journals does not depend on their order, and a journal joined with a part of itself that ends anywhere is the journal: for every two lists of events and every place to cut (each list up to its first twelve events); the arguments read afterwards as before; the one listed variable is tied to the text of the program. -/
import Derived.Test.YtgkcdgbegkpmoaaDoorGwLw
import Derived.Test.YtgkcdgbegkpmoaaDoorGwT6
import Derived.Test.YtgkcdgbegkpmoaaDoorCards
import Derived.Test.YtgkcdgbegkpmoaaDoorTie
import Derived.WalkKit
import Derived.ProofKit
import Derived.OpenShut
import Derived.ShutString
import Derived.ChangeOld
import Derived.Below
import Derived.SizedLaws
import Derived.LaidHandle
import Derived.LaidLaws
import Derived.SevenTiedAt
import Derived.Test.YtgkcdgbegkpmoaaDoorGwPl
namespace Gv
open Go Go.Proofs Go.ChangeShapes Go.WideShapes Go.ChangeAt Go.RowKit Go.Proofs.YtgkcdgbegkpmoaaDoor
set_option linter.unusedVariables false
set_option linter.unusedSectionVars false
set_option linter.unusedSimpArgs false
theorem own : ownKnob Tryd.prog.godebug = none := by kernel_rfl
theorem laidOut : laidOutB Tryd.prog = true := by kernel_rfl
theorem ntok : ntOk Tryd.prog [38, 39] = true := by kernel_rfl
theorem ld.et : Tryd.prog.globalNamed "errors.errorType" = some 0 := by kernel_rfl
theorem ld.rt : (Tryd.prog.cutTypes.find? (·.1 == "internal/reflectlite.rtype")).map (·.2) = some 98 := by kernel_rfl
theorem ld.oneRow : ((List.range 144).filter fun t => Tryd.prog.rowNamed t [101, 114, 114, 111, 114]) = [50] := by kernel_rfl
theorem ld.size : Tryd.prog.types.size = 144 := by kernel_rfl

theorem handle_of_laid {W : World} (h : laidMetH Tryd.prog Rows.resumeJoinsRow.laid W) : W.cell? ⟨0, 0, none⟩ = some journal_code.hdl := by
  have h' : laidMet Tryd.prog [] W ∧ handlesMet Tryd.prog Rows.resumeJoinsRow.laid W := h
  obtain ⟨name, u, ty, e1, e2, e3, e4, e5⟩ := h'.2 _ (List.mem_singleton.2 rfl)
  have en : name = [101, 114, 114, 111, 114] := (Option.some.inj e1).symm
  subst en
  obtain rfl := Option.some.inj (ld.rt.symm.trans e2)
  have hm : ty ∈ (List.range 144).filter fun t => Tryd.prog.rowNamed t [101, 114, 114, 111, 114] := List.mem_filter.2 ⟨List.mem_range.2 (by rw [← ld.size]; exact e3), e4⟩
  rw [ld.oneRow] at hm
  obtain rfl := List.mem_singleton.1 hm
  have hh : typeHandle Tryd.prog 50 = .pointer (some ⟨1, 50, none⟩) := by kernel_rfl
  rw [hh] at e5
  simpa using World.var?_cell ld.et e5 0

noncomputable def laidWorld (os : Os) : World :=
  let w0 := World.holding Tryd.prog os ⟨#[], #[], []⟩
  { w0 with heap := w0.heap.modify 0 fun
      | .cells _ t frozen => .cells #[journal_code.hdl] t frozen
      | o => o }
theorem laidWorld_met (os : Os) (args : Array Value) : laidMetH Tryd.prog Rows.resumeJoinsRow.laid ((laidWorld os).forCall (fun _ _ => 0) ⟨#[], args, []⟩).memory :=
  laidMetH_of_parts (laidMet_nil _ _) (by kernel_rfl)
abbrev evSh : Sh := .pr (.int .i64) (.pr (.int .i64) (.pr (.pr (.int .i64) (.pr (.sl (.int .i64)) (.pr (.int .i64) (.pr .str .bool)))) (.pr (.int .i64) (.pr (.int .i64) (.pr (.int .i64) (.int .i64))))))
def law52_ResumeJoins.Pure : Prop := ∀ (x0 x1 : (Sh.sl evSh).T) (x2 : Int), Wf (.sl evSh) x0 → Wf (.sl evSh) x1 → Wf (.int .i64) x2 → ∃ k, law52_ResumeJoins.f k x0 x1 x2 = some true
set_option maxRecDepth 100000 in
theorem law52_ResumeJoins.lifted (hp : law52_ResumeJoins.Pure) (os : Os) (started : os.Started) (H : Type) (enc : TypeId × Value → H) :
    ReturnsInHanded {} Tryd.checked os 3 .any (fun w args => (Rows.resumeJoinsSpec.pre enc Tryd.prog Tryd.f3 [] false w args ∧ laidMetH Tryd.prog Rows.resumeJoinsRow.laid w) ∧ sizedMet enc Tryd.prog Tryd.f3 (OpenSpec.ofChange Rows.resumeJoinsSpec) false w args)
      (Rows.resumeJoinsSpec.post enc Tryd.prog Tryd.f3 false true false false) := by
  refine returnsInHanded_of_change_and (C := Tryd.checked) (X := fun w _ => laidMetH Tryd.prog Rows.resumeJoinsRow.laid w) (fun _ _ _ hh h => h.of_heap hh) own started (by kernel_rfl) Tryd.func3
    (ChangeSpec.witness_at (enc := enc) (C := Tryd.checked) (os := os) (X := fun w _ => laidMetH Tryd.prog Rows.resumeJoinsRow.laid w) false (laidWorld os) #[.slice none 0 0, .slice none 0 0, .int .i64 0] 8 rfl (by kernel_rfl) (by kernel_rfl) (by kernel_rfl) (by kernel_rfl) (by kernel_rfl) (laidWorld_met os _)) ?_
  intro W base args ds gs before hval0 hW _ hsz0 hL _
  have hsz : (DataW.weightsEach Tryd.prog (Tryd.f3.params.toList ++ Rows.resumeJoinsSpec.plain.varTypes Tryd.prog) (ds ++ gs)).all (· ≤ reachBytes) = true := hsz0
  have hval : ∀ (j : Nat) t v, Tryd.f3.params[j]? = some t → args[j]? = some v → Value.okWide Tryd.prog W .any base t v := hval0
  have hW' := hW
  obtain ⟨p, q, hA0, hV, rfl, hfz, hnd⟩ := hW
  have hA : DataW.TrodAll enc Tryd.prog W 0 (fun _ => true) true Tryd.f3.params.toList args.toList ds p := hA0
  rw [Tryd.params3] at hA hval hsz
  obtain ⟨v0, vs0, d0, ds0, p0, q0, hargs, rfl, rfl, h0, r0⟩ := trodAll_cons hA
  obtain ⟨v1, vs1, d1, ds1, p1, q1, rfl, rfl, rfl, h1, r1⟩ := trodAll_cons r0
  obtain ⟨v2, vs2, d2, ds2, p2, q2, rfl, rfl, rfl, h2, r2⟩ := trodAll_cons r1
  obtain ⟨rfl, rfl, rfl⟩ := trodAll_nil r2
  obtain rfl : args = #[v0, v1, v2] := by cases args; simp_all
  obtain ⟨rfl, rfl⟩ := trodVars_none hV
  have hall := List.all_eq_true.1 hsz
  obtain ⟨x0, rv0, wf0⟩ := arg_open (n := 20) (s := .sl evSh) ntok (by kernel_rfl) (hval 0 22 v0 rfl rfl) h0 (fun q hq => of_decide_eq_true (hall q (DataW.weights_mem_each (j := 0) rfl rfl q hq)))
  obtain ⟨x1, rv1, wf1⟩ := arg_open (n := 20) (s := .sl evSh) ntok (by kernel_rfl) (hval 1 22 v1 rfl rfl) h1 (fun q hq => of_decide_eq_true (hall q (DataW.weights_mem_each (j := 1) rfl rfl q hq)))
  obtain ⟨x2, rv2, wf2⟩ := arg_open (n := 20) (s := .int .i64) ntok (by kernel_rfl) (hval 2 3 v2 rfl rfl) h2 (fun q hq => of_decide_eq_true (hall q (DataW.weights_mem_each (j := 2) rfl rfl q hq)))
  have lt0 : ∀ x ∈ p0, x.block < W.heap.size := by obtain ⟨m, hm⟩ := h0; exact DataW.trod_lt m _ _ _ hm
  have lt1 : ∀ x ∈ p1, x.block < W.heap.size := by obtain ⟨m, hm⟩ := h1; exact DataW.trod_lt m _ _ _ hm
  have lt2 : ∀ x ∈ p2, x.block < W.heap.size := by obtain ⟨m, hm⟩ := h2; exact DataW.trod_lt m _ _ _ hm
  have hcell := handle_of_laid hL
  have hlt : 0 < W.heap.size := by
    rcases Nat.eq_zero_or_pos W.heap.size with h0 | h
    · simp [World.cell?, h0] at hcell
    · exact h
  obtain ⟨k, hk⟩ := hp x0 x1 x2 wf0 wf1 wf2
  clear hA0 hval0 hsz0 hsz
  refine (law_calls (law52_ResumeJoins.sat k) (x := ((), (x0, x1, x2, ()))) hk (fun c hc => by cases hc; exact ⟨hlt, hcell⟩) rfl (args := [v0, v1, v2]) (fun μ => RVL.cons' (rv0 μ) (RVL.cons' (rv1 μ) (RVL.cons' (rv2 μ) (RVL.nil_iff.2 rfl))))).mono fun e W' ⟨he, bel⟩ => ?_
  subst he
  exact ⟨_, rfl, _, _, _, [], _, [], hW', trodAll_mk1 (shut_bool Tryd.underlying4 _), (trodAll_cons_mk (Below.trod laidOut (by kernel_rfl) (of_decide_eq_true (by kernel_rfl)) h0 bel lt0) (trodAll_cons_mk (Below.trod laidOut (by kernel_rfl) (of_decide_eq_true (by kernel_rfl)) h1 bel lt1) (trodAll_cons_mk (Below.trod laidOut (by kernel_rfl) (of_decide_eq_true (by kernel_rfl)) h2 bel lt2) trodAll_mk0))), rfl, bel.frame _, fun h => by cases h⟩
theorem law52_ResumeJoins.over (hp : law52_ResumeJoins.Pure) : Rows.resumeJoinsRow.holds Tryd.pinned (OpenSpec.ofChange Rows.resumeJoinsSpec) :=
  OpenClaim.holds_of_wide 3 Tryd.f3 rfl rfl rfl rfl rfl rfl rfl ⟨rfl, rfl, rfl, rfl, rfl⟩ rfl rfl rfl rfl rfl (by kernel_rfl) Tryd.func3 (by kernel_rfl)
    (of_decide_eq_true (by kernel_rfl)) (by unfold Func.isWrapper; first | (rw [if_pos (by decide +kernel)]; kernel_rfl) | (rw [if_neg (by decide +kernel)]; exact ⟨rfl, rfl⟩))
    (fun os started H enc _ => law52_ResumeJoins.lifted hp os started H enc)
theorem law52_ResumeJoins.card (hp : law52_ResumeJoins.Pure) : Rows.ResumeJoinsCardSaid :=
  Claim7.holds_tied_plain_at .later [] [.handle] true (true, "2d8b6cf4fd30fcf14a83446d3cee2f02ad3c2e8cc2a076fbcd8c8aae073d22b4") true
    (law52_ResumeJoins.over hp) (fun _ h => by cases h) (by kernel_rfl) (fun _ h => by cases h) resumeJoins_row_tie rfl ⟨rfl, rfl⟩ (by kernel_rfl) rfl
    (fun f fn hf hfn => by
      obtain rfl : f = 3 := Option.some.inj ((show Tryd.prog.funcNamed "examboard/examboardlaw52.ResumeJoins" = some 3 by kernel_rfl).symm.trans hf) |>.symm
      obtain rfl : fn = Tryd.f3 := (Option.some.inj (Tryd.func3.symm.trans hfn)).symm
      exact ⟨by kernel_rfl, fun j t ht => by
        rw [Tryd.params3] at ht
        have h3 : t = 22 ∨ t = 3 := by
          rcases j with _ | _ | _ | j
          · left; simpa using ht.symm
          · left; simpa using ht.symm
          · right; simpa using ht.symm
          · simp at ht
        rcases h3 with rfl | rfl
        · exact (show Tryd.prog.wantsStandIn 22 = false by kernel_rfl)
        · exact (show Tryd.prog.wantsStandIn 3 = false by kernel_rfl)⟩)
    (by kernel_rfl)
end Gv

/- The plain law of ResumeJoins. -/
namespace Gv
open Go
set_option linter.unusedVariables false
set_option linter.unusedSimpArgs false

def evOf (t : evSh.T) : Ev := ⟨t.1, t.2.1, t.2.2.1.1, t.2.2.1.2.1, t.2.2.1.2.2.1, t.2.2.1.2.2.2.1, t.2.2.1.2.2.2.2, t.2.2.2.1, t.2.2.2.2.1, t.2.2.2.2.2.1, t.2.2.2.2.2.2⟩
abbrev d0 : Int := 14695981039346656037

theorem loop1 {k : Nat} (hk : 10000 ≤ k) (l m : List evSh.T) (b : List Int) (cut : Int) : ∀ (d q i : Nat) (a : List Int) (ps : List (List Int)) (d' : Int), 12 - i = d → i ≤ 12 → d < q → Js k d0 ps a d' → ps.length ≤ i →
    ∃ a' ps' d'', law52_ResumeJoins.l58 k q b l m cut a (i : Int) = some (.inl (b, m, cut, a')) ∧ Js k d0 ps' a' d'' ∧ ps'.length ≤ 12
  | d, q + 1, i, a, ps, d' => fun hd hi hq hj hp => by
    unfold law52_ResumeJoins.l58
    by_cases h1 : i < l.length ∧ i < 12
    · rw [decide_eq_true (show (i : Int) < (l.length : Int) by omega), decide_eq_true (show (i : Int) < 12 by omega)]
      simp only [cond_true, Option.bind_some]
      have hw := write_spec hk hj (by omega) (evOf (rdL evSh l (i : Int)))
      obtain ⟨x, c, hx, hc⟩ := hw
      simp only [evOf] at hx
      have e1 : IntKind.wrap .i64 ((i : Int) + 1) = ((i + 1 : Nat) : Int) := by rw [wrap64 (by omega) (by omega)]; rfl
      obtain ⟨d, rfl⟩ : ∃ e, d = e + 1 := ⟨d - 1, by omega⟩
      rw [law52_ResumeJoins.j466, inB_ok h1.1, cond_true, hx]
      simp only [Option.bind_some]
      by_cases h0 : c = 0
      · obtain ⟨p, s, hj', hlt⟩ := hc h0
        subst h0
        rw [decide_eq_false (show ¬ (x.length : Int) ≤ (a.length : Int) by omega)]
        simp only [beq_self_eq_true, cond_true, cond_false, Option.bind_some]
        rw [e1]
        exact loop1 hk l m b cut d q (i + 1) x (ps ++ [p]) s (by omega) (by omega) (by omega) hj' (by simp; omega)
      · have : (c == 0) = false := by simp [h0]
        simp only [this, cond_false, Option.bind_some]
        rw [e1]
        exact loop1 hk l m b cut d q (i + 1) a ps d' (by omega) (by omega) (by omega) hj (by omega)
    · refine ⟨a, ps, d', ?_, hj, by omega⟩
      by_cases h2 : i < l.length
      · rw [decide_eq_true (show (i : Int) < (l.length : Int) by omega), decide_eq_false (show ¬ (i : Int) < 12 by omega)]; rfl
      · rw [decide_eq_false (show ¬ (i : Int) < (l.length : Int) by omega)]; rfl
  | _, 0, _, _, _, _ => fun _ _ h => by omega

theorem loop2 {k : Nat} (hk : 10000 ≤ k) (m : List evSh.T) (a : List Int) (cut : Int) : ∀ (d q i : Nat) (b : List Int) (ps : List (List Int)) (d' : Int), 12 - i = d → i ≤ 12 → d < q → Js k d0 ps b d' → ps.length ≤ i →
    ∃ b' ps' d'', law52_ResumeJoins.l122 k q m cut a b (i : Int) = some (cut, a, b') ∧ Js k d0 ps' b' d'' ∧ ps'.length ≤ 12
  | d, q + 1, i, b, ps, d' => fun hd hi hq hj hp => by
    unfold law52_ResumeJoins.l122
    by_cases h1 : i < m.length ∧ i < 12
    · rw [decide_eq_true (show (i : Int) < (m.length : Int) by omega), decide_eq_true (show (i : Int) < 12 by omega)]
      simp only [cond_true, Option.bind_some]
      have hw := write_spec hk hj (by omega) (evOf (rdL evSh m (i : Int)))
      obtain ⟨x, c, hx, hc⟩ := hw
      simp only [evOf] at hx
      have e1 : IntKind.wrap .i64 ((i : Int) + 1) = ((i + 1 : Nat) : Int) := by rw [wrap64 (by omega) (by omega)]; rfl
      obtain ⟨d, rfl⟩ : ∃ e, d = e + 1 := ⟨d - 1, by omega⟩
      rw [law52_ResumeJoins.j978, inB_ok h1.1, cond_true, hx]
      simp only [Option.bind_some]
      by_cases h0 : c = 0
      · obtain ⟨p, s, hj', hlt⟩ := hc h0
        subst h0
        simp only [beq_self_eq_true, cond_true, cond_false, Option.bind_some]
        rw [e1]
        exact loop2 hk m a cut d q (i + 1) x (ps ++ [p]) s (by omega) (by omega) (by omega) hj' (by simp; omega)
      · have : (c == 0) = false := by simp [h0]
        simp only [this, cond_false, Option.bind_some]
        rw [e1]
        exact loop2 hk m a cut d q (i + 1) b ps d' (by omega) (by omega) (by omega) hj (by omega)
    · refine ⟨b, ps, d', ?_, hj, by omega⟩
      by_cases h2 : i < m.length
      · rw [decide_eq_true (show (i : Int) < (m.length : Int) by omega), decide_eq_false (show ¬ (i : Int) < 12 by omega)]; rfl
      · rw [decide_eq_false (show ¬ (i : Int) < (m.length : Int) by omega)]; rfl
  | _, 0, _, _, _, _ => fun _ _ h => by omega

theorem joinR_self {k : Nat} (hk : 100000 ≤ k) {a b : List Int} (x : List Int) (hx : x = a ∨ x = b) (la : a.length ≤ 30000) (lb : b.length ≤ 30000) (r : Bool) (hd : (a = b ∨ a.length ≠ b.length) ∨ r = false) (y : List Int) (K : Bool → Option Bool) :
    (Option.bind (cond ((joinR x y r).2 != (joinR x y r).2)
      (some true)
      ((law52_bytes.f k (joinR x y r).1 (joinR x y r).1).bind fun y27 =>
        some (!y27))) fun (c28 : Bool) =>
    Option.bind (cond c28
      (some true)
      (Option.bind (cond ((joinR x y r).2 == 0)
          ((law52_bytes.f k (joinR x y r).1 a).bind fun y29 =>
            some (!y29))
          (some false)) fun (c30 : Bool) =>
        Option.bind (cond c30
          ((law52_bytes.f k (joinR x y r).1 b).bind fun y31 =>
            some (!y31))
          (some false)) fun (c32 : Bool) =>
        some c32)) fun (c33 : Bool) => K c33) = K false := by
  have hxl : x.length ≤ 30000 := by rcases hx with rfl | rfl <;> assumption
  cases r with
  | false =>
    simp only [joinR, Bool.false_eq_true, if_false]
    rw [bne_self_eq_false, cond_false, lbytes_refl (by simp) (by simp; omega)]
    rfl
  | true =>
    simp only [joinR, if_true]
    rw [bne_self_eq_false, cond_false, lbytes_refl (by omega) (by omega)]
    simp only [Option.bind_some, Bool.not_true, cond_false, beq_self_eq_true, cond_true]
    rcases hx with rfl | rfl
    · rw [lbytes_refl (by omega) (by omega)]; rfl
    · rcases hd with (rfl | hd) | hd
      · rw [lbytes_refl (by omega) (by omega)]; rfl
      · rw [lbytes_ne (Ne.symm hd)]
        simp only [Option.bind_some, Bool.not_false, cond_true]
        rw [lbytes_refl (by omega) (by omega)]; rfl
      · cases hd

theorem pure_joins : law52_ResumeJoins.Pure := by
  intro l m cut _ _ _
  refine ⟨100000, ?_⟩
  have hk : 10000 ≤ 100000 := by omega
  obtain ⟨a, ps, da, h1, ja, pa⟩ := loop1 (k := 100000) hk l m [] cut 12 100000 0 [] [] d0 rfl (by omega) (by omega) (.nil _) (by simp)
  obtain ⟨b, ps2, db, h2, jb, pb⟩ := loop2 (k := 100000) hk m a cut 12 100000 0 [] [] d0 rfl (by omega) (by omega) (.nil _) (by simp)
  rw [show ((0 : Nat) : Int) = 0 from rfl] at h1 h2
  have la := ja.len
  have lb := jb.len
  have ba := ja.bytes
  have bb := jb.bytes
  have ta := trim_full hk ja (by omega)
  have tb := trim_full hk jb (by omega)
  obtain ⟨r1, j1, q1⟩ := join_spec ta tb ba bb
  obtain ⟨r2, j2, q2⟩ := join_spec tb ta bb ba
  rw [law52_ResumeJoins.f, h1]
  simp only [Option.bind_some]
  rw [h2]
  simp only [Option.bind_some]
  rw [j1]
  simp only [Option.bind_some]
  rw [j2]
  simp only [Option.bind_some]
  -- the two joins are alike
  obtain ⟨x, y, r, e1, e2, hx, hd⟩ : ∃ x y r, (if a.length < b.length then joinR b a r1 else joinR a b r1) = joinR x y r ∧ (if b.length < a.length then joinR a b r2 else joinR b a r2) = joinR x y r ∧ (x = a ∨ x = b) ∧ ((a = b ∨ a.length ≠ b.length) ∨ r = false) := by
    rcases Nat.lt_trichotomy a.length b.length with h | h | h
    · rw [if_pos h] at q1 ⊢
      rw [if_neg (by omega)] at q2 ⊢
      have : r1 = r2 := by
        cases r1 <;> cases r2 <;> simp_all
      subst this
      exact ⟨b, a, r1, rfl, rfl, .inr rfl, .inl (.inr (by omega))⟩
    · rw [if_neg (by omega)] at q1 q2 ⊢
      rw [if_neg (by omega)]
      rw [← h, List.take_length] at q1
      rw [h, List.take_length] at q2
      cases r1 with
      | true =>
        have e := q1.1 rfl
        subst e
        have : r2 = true := q2.2 rfl
        subst this
        exact ⟨a, a, true, rfl, rfl, .inl rfl, .inl (.inl rfl)⟩
      | false =>
        have : r2 = false := by
          cases r2 with
          | false => rfl
          | true => have := q1.2 (q2.1 rfl).symm; cases this
        subst this
        exact ⟨a, b, false, rfl, rfl, .inl rfl, .inr rfl⟩
    · rw [if_neg (by omega)] at q1 ⊢
      rw [if_pos h] at q2 ⊢
      have : r1 = r2 := by
        cases r1 <;> cases r2 <;> simp_all
      subst this
      exact ⟨a, b, r1, rfl, rfl, .inl rfl, .inl (.inr (by omega))⟩
  rw [e1, e2]
  rw [joinR_self (k := 100000) (by omega) x hx (by omega) (by omega) r hd y]
  simp only [cond_false]
  -- a part of a journal
  obtain ⟨c, hj, hc⟩ : ∃ c : Nat, law52_ResumeJoins.j510 100000 cut a = some ((c : Int), a) ∧ c ≤ a.length := by
    unfold law52_ResumeJoins.j510
    by_cases h0 : cut < 0
    · rw [decide_eq_true h0]
      exact ⟨a.length, rfl, Nat.le_refl _⟩
    · rw [decide_eq_false h0]
      by_cases hg : cut > (a.length : Int)
      · rw [decide_eq_true hg]
        exact ⟨a.length, rfl, Nat.le_refl _⟩
      · rw [decide_eq_false hg]
        refine ⟨cut.toNat, ?_, by omega⟩
        simp only [cond_false, Option.bind_some]
        congr 2
        omega
  rw [hj]
  simp only [Option.bind_some]
  rw [decide_eq_true (show (0 : Int) ≤ 0 by omega), decide_eq_true (show (0 : Int) ≤ (c : Int) by omega), decide_eq_true (show (c : Int) ≤ (a.length : Int) by omega), Int.toNat_natCast]
  simp only [Bool.and_self, cond_true]
  rw [show Int.toNat 0 = 0 from rfl, List.drop_zero]
  obtain ⟨n, hn, tc⟩ := trim_part hk ja (by omega) c
  have tn : journal_Trim.f 100000 [] = some [] := trim_full hk (.nil _) (by simp)
  have bc : IsB ((a.take c).take n) := (ba.take c).take n
  obtain ⟨r3, j3, q3⟩ := join_spec tc ta bc ba
  obtain ⟨r4, j4, q4⟩ := join_spec ta tn ba (fun z hz => by simp at hz)
  have hxl : ((a.take c).take n).length = n := by rw [List.length_take]; omega
  have hxe : (a.take c).take n = a.take n := by
    rw [List.length_take] at hn
    rw [List.take_take, Nat.min_eq_left (by omega)]
  have hnl : n ≤ a.length := by rw [List.length_take] at hn; omega
  have g3 : (if ((a.take c).take n).length < a.length then joinR a ((a.take c).take n) r3 else joinR ((a.take c).take n) a r3) = (a, 0) := by
    rw [hxl] at q3 ⊢
    by_cases h : n < a.length
    · rw [if_pos h] at q3 ⊢
      have : r3 = true := q3.2 (by rw [hxe])
      rw [this]; rfl
    · rw [if_neg h] at q3 ⊢
      have e : (a.take c).take n = a := by rw [hxe]; exact List.take_of_length_le (by omega)
      rw [e] at q3 ⊢
      have : r3 = true := q3.2 (List.take_length)
      rw [this]; rfl
  have g4 : (if a.length < ([] : List Int).length then joinR [] a r4 else joinR a [] r4) = (a, 0) := by
    rw [if_neg (by simp)] at q4 ⊢
    have : r4 = true := q4.2 (by simp)
    rw [this]; rfl
  rw [j3, g3]
  simp only [Option.bind_some]
  rw [j4, g4]
  simp only [Option.bind_some, beq_self_eq_true, cond_true]
  rw [lbytes_refl (by omega) (by omega)]
  rfl

end Gv
namespace Go.Proofs.YtgkcdgbegkpmoaaDoor
theorem resumeJoins_holds : Rows.ResumeJoinsCardSaid := Gv.law52_ResumeJoins.card Gv.pure_joins
end Go.Proofs.YtgkcdgbegkpmoaaDoor
