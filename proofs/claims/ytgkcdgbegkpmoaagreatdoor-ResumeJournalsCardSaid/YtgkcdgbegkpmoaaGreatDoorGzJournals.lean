/- Any journal with an event behind it, the events of any bytes and their length, and the longer one of two journals, or the errors, are those of the reference: for every two lists of bytes of up to 5000 each (others: nothing is said of them) and every event; the arguments read afterwards as before; the one listed variable is tied to the text of the program. -/
import Derived.Test.YtgkcdgbegkpmoaaGreatDoorGwLw
import Derived.Test.YtgkcdgbegkpmoaaGreatDoorGzT8
import Derived.Test.YtgkcdgbegkpmoaaGreatDoorCards
import Derived.Test.YtgkcdgbegkpmoaaGreatDoorTie
import Derived.WalkKit
import Derived.ProofKit
import Derived.OpenShut
import Derived.ShutString
import Derived.ChangeOld
import Derived.Below
import Derived.SizedLaws
import Derived.LaidHandle
import Derived.LaidLaws
import Derived.SevenTiedAt
import Derived.Test.YtgkcdgbegkpmoaaGreatDoorGzPm
namespace Gv
open Go Go.Proofs Go.ChangeShapes Go.WideShapes Go.ChangeAt Go.RowKit Go.Proofs.YtgkcdgbegkpmoaaGreatDoor
set_option linter.unusedVariables false
set_option linter.unusedSectionVars false
set_option linter.unusedSimpArgs false
theorem own : ownKnob Tryz.prog.godebug = none := by kernel_rfl
theorem laidOut : laidOutB Tryz.prog = true := by kernel_rfl
theorem ntok : ntOk Tryz.prog [41, 42] = true := by kernel_rfl
theorem ld.et : Tryz.prog.globalNamed "errors.errorType" = some 0 := by kernel_rfl
theorem ld.rt : (Tryz.prog.cutTypes.find? (·.1 == "internal/reflectlite.rtype")).map (·.2) = some 119 := by kernel_rfl
theorem ld.oneRow : ((List.range 170).filter fun t => Tryz.prog.rowNamed t [101, 114, 114, 111, 114]) = [59] := by kernel_rfl
theorem ld.size : Tryz.prog.types.size = 170 := by kernel_rfl

theorem handle_of_laid {W : World} (h : laidMetH Tryz.prog Rows.resumeJournalsRow.laid W) : W.cell? ⟨0, 0, none⟩ = some journal_code.hdl := by
  have h' : laidMet Tryz.prog [] W ∧ handlesMet Tryz.prog Rows.resumeJournalsRow.laid W := h
  obtain ⟨name, u, ty, e1, e2, e3, e4, e5⟩ := h'.2 _ (List.mem_singleton.2 rfl)
  have en : name = [101, 114, 114, 111, 114] := (Option.some.inj e1).symm
  subst en
  obtain rfl := Option.some.inj (ld.rt.symm.trans e2)
  have hm : ty ∈ (List.range 170).filter fun t => Tryz.prog.rowNamed t [101, 114, 114, 111, 114] := List.mem_filter.2 ⟨List.mem_range.2 (by rw [← ld.size]; exact e3), e4⟩
  rw [ld.oneRow] at hm
  obtain rfl := List.mem_singleton.1 hm
  have hh : typeHandle Tryz.prog 59 = .pointer (some ⟨1, 59, none⟩) := by kernel_rfl
  rw [hh] at e5
  simpa using World.var?_cell ld.et e5 0

noncomputable def laidWorld (os : Os) : World :=
  let w0 := World.holding Tryz.prog os ⟨#[], #[], []⟩
  { w0 with heap := w0.heap.modify 0 fun
      | .cells _ t frozen => .cells #[journal_code.hdl] t frozen
      | o => o }
theorem laidWorld_met (os : Os) (args : Array Value) : laidMetH Tryz.prog Rows.resumeJournalsRow.laid ((laidWorld os).forCall (fun _ _ => 0) ⟨#[], args, []⟩).memory :=
  laidMetH_of_parts (laidMet_nil _ _) (by kernel_rfl)
abbrev evSh : Sh := .pr (.int .i64) (.pr (.int .i64) (.pr (.pr (.int .i64) (.pr (.sl (.int .i64)) (.pr (.int .i64) (.pr .str .bool)))) (.pr (.int .i64) (.pr (.int .i64) (.pr (.int .i64) (.int .i64))))))
def law52_ResumeJournals.Pure : Prop := ∀ (x0 x1 : List Int) (x2 : evSh.T), Wf (.sl (.int .u8)) x0 → Wf (.sl (.int .u8)) x1 → Wf evSh x2 → ∃ k, law52_ResumeJournals.f k x0 x1 x2.1 x2.2.1 x2.2.2.1.1 x2.2.2.1.2.1 x2.2.2.1.2.2.1 x2.2.2.1.2.2.2.1 x2.2.2.1.2.2.2.2 x2.2.2.2.1 x2.2.2.2.2.1 x2.2.2.2.2.2.1 x2.2.2.2.2.2.2 = some true
set_option maxRecDepth 100000 in
theorem law52_ResumeJournals.lifted (hp : law52_ResumeJournals.Pure) (os : Os) (started : os.Started) (H : Type) (enc : TypeId × Value → H) :
    ReturnsInHanded {} Tryz.checked os 3 .any (fun w args => (Rows.resumeJournalsSpec.pre enc Tryz.prog Tryz.f3 [] false w args ∧ laidMetH Tryz.prog Rows.resumeJournalsRow.laid w) ∧ sizedMet enc Tryz.prog Tryz.f3 (OpenSpec.ofChange Rows.resumeJournalsSpec) false w args)
      (Rows.resumeJournalsSpec.post enc Tryz.prog Tryz.f3 false true false false) := by
  refine returnsInHanded_of_change_and (C := Tryz.checked) (X := fun w _ => laidMetH Tryz.prog Rows.resumeJournalsRow.laid w) (fun _ _ _ hh h => h.of_heap hh) own started (by kernel_rfl) Tryz.func3
    (ChangeSpec.witness_at (enc := enc) (C := Tryz.checked) (os := os) (X := fun w _ => laidMetH Tryz.prog Rows.resumeJournalsRow.laid w) false (laidWorld os) #[.slice none 0 0, .slice none 0 0, .agg #[.int .i64 0, .int .i64 0, .int .i64 0, .slice none 0 0, .int .i64 0, .string ByteArray.empty, .bool false, .int .i64 0, .int .i64 0, .int .i64 0, .int .i64 0]] 8 rfl (by kernel_rfl) (by kernel_rfl) (by kernel_rfl) (by kernel_rfl) (by kernel_rfl) (laidWorld_met os _)) ?_
  intro W base args ds gs before hval0 hW _ hsz0 hL _
  have hsz : (DataW.weightsEach Tryz.prog (Tryz.f3.params.toList ++ Rows.resumeJournalsSpec.plain.varTypes Tryz.prog) (ds ++ gs)).all (· ≤ reachBytes) = true := hsz0
  have hval : ∀ (j : Nat) t v, Tryz.f3.params[j]? = some t → args[j]? = some v → Value.okWide Tryz.prog W .any base t v := hval0
  have hW' := hW
  obtain ⟨p, q, hA0, hV, rfl, hfz, hnd⟩ := hW
  have hA : DataW.TrodAll enc Tryz.prog W 0 (fun _ => true) true Tryz.f3.params.toList args.toList ds p := hA0
  rw [Tryz.params3] at hA hval hsz
  obtain ⟨v0, vs0, d0, ds0, p0, q0, hargs, rfl, rfl, h0, r0⟩ := trodAll_cons hA
  obtain ⟨v1, vs1, d1, ds1, p1, q1, rfl, rfl, rfl, h1, r1⟩ := trodAll_cons r0
  obtain ⟨v2, vs2, d2, ds2, p2, q2, rfl, rfl, rfl, h2, r2⟩ := trodAll_cons r1
  obtain ⟨rfl, rfl, rfl⟩ := trodAll_nil r2
  obtain rfl : args = #[v0, v1, v2] := by cases args; simp_all
  obtain ⟨rfl, rfl⟩ := trodVars_none hV
  have hall := List.all_eq_true.1 hsz
  obtain ⟨x0, rv0, wf0⟩ := arg_open (n := 20) (s := .sl (.int .u8)) ntok (by kernel_rfl) (hval 0 22 v0 rfl rfl) h0 (fun q hq => of_decide_eq_true (hall q (DataW.weights_mem_each (j := 0) rfl rfl q hq)))
  obtain ⟨x1, rv1, wf1⟩ := arg_open (n := 20) (s := .sl (.int .u8)) ntok (by kernel_rfl) (hval 1 22 v1 rfl rfl) h1 (fun q hq => of_decide_eq_true (hall q (DataW.weights_mem_each (j := 1) rfl rfl q hq)))
  obtain ⟨x2, rv2, wf2⟩ := arg_open (n := 20) (s := evSh) ntok (by kernel_rfl) (hval 2 29 v2 rfl rfl) h2 (fun q hq => of_decide_eq_true (hall q (DataW.weights_mem_each (j := 2) rfl rfl q hq)))
  have lt0 : ∀ x ∈ p0, x.block < W.heap.size := by obtain ⟨m, hm⟩ := h0; exact DataW.trod_lt m _ _ _ hm
  have lt1 : ∀ x ∈ p1, x.block < W.heap.size := by obtain ⟨m, hm⟩ := h1; exact DataW.trod_lt m _ _ _ hm
  have lt2 : ∀ x ∈ p2, x.block < W.heap.size := by obtain ⟨m, hm⟩ := h2; exact DataW.trod_lt m _ _ _ hm
  have hcell := handle_of_laid hL
  have hlt : 0 < W.heap.size := by
    rcases Nat.eq_zero_or_pos W.heap.size with h0 | h
    · simp [World.cell?, h0] at hcell
    · exact h
  obtain ⟨k, hk⟩ := hp x0 x1 x2 wf0 wf1 wf2
  clear hA0 hval0 hsz0 hsz
  refine (law_calls (law52_ResumeJournals.sat k) (x := ((), (x0, x1, (x2.1, x2.2.1, x2.2.2.1.1, x2.2.2.1.2.1, x2.2.2.1.2.2.1, x2.2.2.1.2.2.2.1, x2.2.2.1.2.2.2.2, x2.2.2.2.1, x2.2.2.2.2.1, x2.2.2.2.2.2.1, x2.2.2.2.2.2.2, ()), ()))) hk (fun c hc => by cases hc; exact ⟨hlt, hcell⟩) rfl (args := [v0, v1, v2]) (fun μ => RVL.cons' (rv0 μ) (RVL.cons' (rv1 μ) (RVL.cons' (rv2 μ) (RVL.nil_iff.2 rfl))))).mono fun e W' ⟨he, bel⟩ => ?_
  subst he
  exact ⟨_, rfl, _, _, _, [], _, [], hW', trodAll_mk1 (shut_bool Tryz.underlying4 _), (trodAll_cons_mk (Below.trod laidOut (by kernel_rfl) (of_decide_eq_true (by kernel_rfl)) h0 bel lt0) (trodAll_cons_mk (Below.trod laidOut (by kernel_rfl) (of_decide_eq_true (by kernel_rfl)) h1 bel lt1) (trodAll_cons_mk (Below.trod laidOut (by kernel_rfl) (of_decide_eq_true (by kernel_rfl)) h2 bel lt2) trodAll_mk0))), rfl, bel.frame _, fun h => by cases h⟩
theorem law52_ResumeJournals.over (hp : law52_ResumeJournals.Pure) : Rows.resumeJournalsRow.holds Tryz.pinned (OpenSpec.ofChange Rows.resumeJournalsSpec) :=
  OpenClaim.holds_of_wide 3 Tryz.f3 rfl rfl rfl rfl rfl rfl rfl ⟨rfl, rfl, rfl, rfl, rfl⟩ rfl rfl rfl rfl rfl (by kernel_rfl) Tryz.func3 (by kernel_rfl)
    (of_decide_eq_true (by kernel_rfl)) (by unfold Func.isWrapper; first | (rw [if_pos (by decide +kernel)]; kernel_rfl) | (rw [if_neg (by decide +kernel)]; exact ⟨rfl, rfl⟩))
    (fun os started H enc _ => law52_ResumeJournals.lifted hp os started H enc)
theorem law52_ResumeJournals.card (hp : law52_ResumeJournals.Pure) : Rows.ResumeJournalsCardSaid :=
  Claim7.holds_tied_plain_at .later [] [.handle] true (true, "db97320ef596893e4ba84a1da9b13e39f5e763b7e7251a2c14e771c77d0fe19b") true
    (law52_ResumeJournals.over hp) (fun _ h => by cases h) (by kernel_rfl) (fun _ h => by cases h) resumeJournals_row_tie rfl ⟨rfl, rfl⟩ (by kernel_rfl) rfl
    (fun f fn hf hfn => by
      obtain rfl : f = 3 := Option.some.inj ((show Tryz.prog.funcNamed "examboard/examboardlaw52.ResumeJournals" = some 3 by kernel_rfl).symm.trans hf) |>.symm
      obtain rfl : fn = Tryz.f3 := (Option.some.inj (Tryz.func3.symm.trans hfn)).symm
      exact ⟨by kernel_rfl, fun j t ht => by
        rw [Tryz.params3] at ht
        have h3 : t = 22 ∨ t = 29 := by
          rcases j with _ | _ | _ | j
          · left; simpa using ht.symm
          · left; simpa using ht.symm
          · right; simpa using ht.symm
          · simp at ht
        rcases h3 with rfl | rfl
        · exact (show Tryz.prog.wantsStandIn 22 = false by kernel_rfl)
        · exact (show Tryz.prog.wantsStandIn 29 = false by kernel_rfl)⟩)
    (by kernel_rfl)
end Gv

/- The plain law of ResumeJournals. -/
namespace Gv
open Go
set_option linter.unusedVariables false
set_option linter.unusedSimpArgs false

theorem append_both {k : Nat} (hk : 20000 ≤ k) {b : List Int} (hl : b.length ≤ 5000) (hB : IsB b) {e : Ev} (h : e.Ok) : ∃ (r : List Int) (c : Int), journal_Append.f k b 50 3 0 ⟨#[]⟩ (encKids e) = some (r, c) ∧ ref49_Append.f k b 50 3 0 ⟨#[]⟩ (encKids e) = some (r, c) ∧ r.length ≤ 10000 := by
  obtain ⟨nodes, d, c, h1, h2, h3, h4, h5⟩ := read_same (k := k) (by omega) hl hB
  rw [journal_Append.f, ref49_Append.f, h4]
  simp only [Option.bind_some]
  rcases h5 with ⟨h0, h5⟩ | ⟨h0, h5⟩ <;> rw [h5]
  · subst h0
    have hel := encN_len h
    simp only [Option.bind_some, journal_codeN.f, bne_self_eq_false, cond_false]
    rw [Encode_spec (by omega) h, Encode_ref (by omega) h]
    simp only [Option.bind_some, bne_self_eq_false, cond_false]
    by_cases g2 : (encN e).enc.length ≤ 2000
    · rw [decide_eq_false (show ¬ ((encN e).enc.length : Int) > 2000 by omega)]
      by_cases g3 : nodes.length = 300
      · rw [decide_eq_true (show (nodes.length : Int) ≥ 300 by omega)]
        simp only [cond_false, Option.bind_some, cond_true]
        exact ⟨[], 5, rfl, rfl, by simp⟩
      · rw [decide_eq_false (show ¬ (nodes.length : Int) ≥ 300 by omega)]
        simp only [cond_false, Option.bind_some]
        rw [wrapu64 ((encN e).enc.length : Int), Int.emod_eq_of_lt (by omega) (by omega), big4 (by omega), bytes4 (by omega) (by omega) (by omega)]
        simp only [Option.bind_some]
        have hb4 : (be4 ((encN e).enc.length : Int)).length = 4 := rfl
        obtain ⟨s, hs, s0, s1⟩ := chain_spec (k := k) (b := be4 ((encN e).enc.length : Int) ++ (encN e).enc) (by simp only [List.length_append]; omega) (by simp only [List.length_append]; omega) d
        rw [clone_id (by omega), copied_spec (by omega) (by omega)]
        simp only [Option.bind_some]
        rw [chain_same, hs, fits_ok (by omega), cond_true, cond_true, fits_ok (by simp only [List.length_append]; omega), cond_true, cond_true]
        simp only [Option.bind_some]
        rw [big8 (by omega), bytes8 (by omega) s0 s1]
        simp only [Option.bind_some]
        have hb8 : (be8 s).length = 8 := rfl
        rw [fits_ok (by simp only [List.length_append]; omega), cond_true]
        exact ⟨_, 0, rfl, rfl, by simp only [List.length_append]; omega⟩
    · rw [decide_eq_true (show ((encN e).enc.length : Int) > 2000 by omega)]
      simp only [cond_true, Option.bind_some]
      exact ⟨[], 5, rfl, rfl, by simp⟩
  · have : (c != 0) = true := by simp [h0]
    simp only [Option.bind_some, journal_code.f, this, cond_true]
    exact ⟨[], c, rfl, rfl, by simp⟩

theorem write_both {k : Nat} (hk : 20000 ≤ k) {b : List Int} (hl : b.length ≤ 5000) (hB : IsB b) (e : Ev) : ∃ (r : List Int) (c : Int), resume_Write.f k b e.kind e.at_ e.c e.sc e.d e.tx e.b e.t0 e.t1 e.t2 e.t3 = some (r, c) ∧ ref52_Write.f k b e.kind e.at_ e.c e.sc e.d e.tx e.b e.t0 e.t1 e.t2 e.t3 = some (r, c) ∧ r.length ≤ 10000 := by
  obtain ⟨v, hv, hok⟩ := valid_spec k e
  rw [resume_Write.f, ref52_Write.f, encode_spec (by omega) e hv hok, encode_spec' (by omega) e hv hok]
  simp only [Option.bind_some]
  unfold encR
  by_cases h0 : v = 0
  · rw [if_pos h0]
    obtain ⟨r, c, a1, a2, a3⟩ := append_both hk hl hB (hok h0)
    simp only [bne_self_eq_false, cond_false]
    rw [a1, a2]
    exact ⟨r, c, rfl, rfl, a3⟩
  · rw [if_neg h0]
    have : (v != 0) = true := by simp [h0]
    simp only [this, cond_true]
    exact ⟨[], v, rfl, rfl, by simp⟩

theorem trim_both {k : Nat} (hk : 20000 ≤ k) {b : List Int} (hl : b.length ≤ 5000) (hB : IsB b) : ∃ m, m ≤ b.length ∧ journal_Trim.f k b = some (b.take m) ∧ ref49_Trim.f k b = some (b.take m) := by
  obtain ⟨nodes, d, c, h1, h2, h3, h4, h5⟩ := read_same (k := k) (by omega) hl hB
  refine ⟨tot nodes, h3, ?_, ?_⟩
  · have hlen : (b.take (tot nodes)).length ≤ 5000 := by rw [List.length_take]; omega
    have key : cond ((decide ((0 : Int) ≤ 0)) && ((decide ((0 : Int) ≤ ((tot nodes : Nat) : Int))) && (decide (((tot nodes : Nat) : Int) ≤ (b.length : Int)))))
      (cond (fits (0 + (List.drop (Int.toNat 0) (List.take (Int.toNat ((tot nodes : Nat) : Int)) b)).length) 1)
        (some (([] : List Int) ++ (List.drop (Int.toNat 0) (List.take (Int.toNat ((tot nodes : Nat) : Int)) b))))
        (none))
      (none) = some (b.take (tot nodes)) := by
      rw [decide_eq_true (show (0 : Int) ≤ 0 by omega), decide_eq_true (show (0 : Int) ≤ ((tot nodes : Nat) : Int) by omega), decide_eq_true (show ((tot nodes : Nat) : Int) ≤ (b.length : Int) by omega), Int.toNat_natCast]
      simp only [Bool.and_self, cond_true]
      rw [show Int.toNat 0 = 0 from rfl, List.drop_zero, fits_ok (by omega), cond_true, List.nil_append]
    rw [journal_Trim.f]
    rcases h5 with ⟨h0, h5⟩ | ⟨h0, h5⟩ <;> rw [h5] <;> exact key
  · rw [ref49_Trim.f, h4]
    simp only [Option.bind_some]
    rw [decide_eq_true (show (0 : Int) ≤ 0 by omega), decide_eq_true (show (0 : Int) ≤ ((tot nodes : Nat) : Int) by omega), decide_eq_true (show ((tot nodes : Nat) : Int) ≤ (b.length : Int) by omega), Int.toNat_natCast]
    simp only [Bool.and_self, cond_true]
    rw [show Int.toNat 0 = 0 from rfl, List.drop_zero, copied_spec (by rw [List.length_take]; omega) (by rw [List.length_take]; omega)]
    rfl

theorem ext_loop {k : Nat} {x y : List Int} (hl : y.length ≤ x.length) (h5 : x.length ≤ 1000000) : ∀ (m q i : Nat), i + m = y.length → m < q → ∃ z, ref49_Extends.l58 k q x y (y.length : Int) (i : Int) = some z ∧ ((z = .inl () ∧ (x.take y.length).drop i = y.drop i) ∨ (z = .inr false ∧ (x.take y.length).drop i ≠ y.drop i))
  | 0, q + 1, i => fun hi _ => by
    refine ⟨.inl (), ?_, .inl ⟨rfl, ?_⟩⟩
    · rw [ref49_Extends.l58, decide_eq_false (by omega), cond_false]
    · rw [List.drop_eq_nil_of_le (by rw [List.length_take]; omega), List.drop_eq_nil_of_le (by omega)]
  | m + 1, q + 1, i => fun hi hq => by
    have hy : i < y.length := by omega
    have hx : i < x.length := by omega
    have ey : y[i]? = some y[i] := List.getElem?_eq_getElem hy
    have ex : x[i]? = some x[i] := List.getElem?_eq_getElem hx
    have dy : y.drop i = y[i] :: y.drop (i + 1) := List.drop_eq_getElem_cons hy
    have dx : (x.take y.length).drop i = x[i] :: (x.take y.length).drop (i + 1) := by
      rw [List.drop_eq_getElem_cons (by rw [List.length_take]; omega), List.getElem_take]
    have e1 : IntKind.wrap .i64 ((i : Int) + 1) = ((i + 1 : Nat) : Int) := by rw [wrap64 (by omega) (by omega)]; rfl
    rw [ref49_Extends.l58, decide_eq_true (by omega), inB_ok hy, inB_ok hx, rdL_ok (e := .int .u8) ey, rdL_ok (e := .int .u8) ex, e1]
    simp only [cond_true]
    by_cases h : x[i] = y[i]
    · rw [h, bne_self_eq_false, cond_false]
      obtain ⟨z, g1, g2⟩ := ext_loop (k := k) hl h5 m q (i + 1) (by omega) (by omega)
      refine ⟨z, g1, ?_⟩
      rw [dx, dy, h]
      rcases g2 with ⟨g2, g3⟩ | ⟨g2, g3⟩
      · exact .inl ⟨g2, by rw [g3]⟩
      · exact .inr ⟨g2, fun e => g3 (List.cons.inj e).2⟩
    · have : (x[i] != y[i]) = true := by simp [h]
      rw [this, cond_true]
      exact ⟨.inr false, rfl, .inr ⟨rfl, fun e => by rw [dx, dy] at e; exact h (List.cons.inj e).1⟩⟩
  | _, 0, _ => fun _ h => by omega
theorem ext_spec {k : Nat} {x y : List Int} (h5 : x.length ≤ 1000000) (hy : y.length ≤ 1000000) (hk : y.length < k) : ∃ r, ref49_Extends.f k x y = some r ∧ (r = true ↔ x.take y.length = y) := by
  rw [ref49_Extends.f]
  by_cases h : y.length ≤ x.length
  · rw [decide_eq_false (show ¬ (y.length : Int) > (x.length : Int) by omega), cond_false]
    obtain ⟨z, g1, g2⟩ := ext_loop (k := k) h h5 y.length k 0 (by omega) hk
    rw [show ((0 : Nat) : Int) = 0 from rfl] at g1
    rw [g1]
    rw [List.drop_zero, List.drop_zero] at g2
    rcases g2 with ⟨rfl, g3⟩ | ⟨rfl, g3⟩
    · exact ⟨true, rfl, by simp [g3]⟩
    · exact ⟨false, rfl, by simp [g3]⟩
  · rw [decide_eq_true (show (y.length : Int) > (x.length : Int) by omega), cond_true]
    refine ⟨false, rfl, ?_⟩
    constructor
    · intro h; cases h
    · intro e
      have := congrArg List.length e
      rw [List.length_take] at this
      omega

theorem join_both {k : Nat} (hk : 20000 ≤ k) {a b : List Int} (hla : a.length ≤ 5000) (hBa : IsB a) (hlb : b.length ≤ 5000) (hBb : IsB b) : ∃ (r : List Int) (c : Int), resume_Join.f k a b = some (r, c) ∧ ref52_Join.f k a b = some (r, c) ∧ r.length ≤ 5000 := by
  obtain ⟨m, hm, a1, a2⟩ := trim_both hk hla hBa
  obtain ⟨n, hn, b1, b2⟩ := trim_both hk hlb hBb
  have lx : (a.take m).length ≤ 5000 := by rw [List.length_take]; omega
  have ly : (b.take n).length ≤ 5000 := by rw [List.length_take]; omega
  have Bx : IsB (a.take m) := hBa.take m
  have By : IsB (b.take n) := hBb.take n
  rw [resume_Join.f, ref52_Join.f, a1, a2]
  simp only [Option.bind_some]
  rw [b1, b2]
  simp only [Option.bind_some, journal_Extends.f]
  generalize a.take m = x at lx Bx ⊢
  generalize b.take n = y at ly By ⊢
  obtain ⟨r1, p1, q1⟩ := ext_spec (k := k) (x := x) (y := y) (by omega) (by omega) (by omega)
  obtain ⟨r2, p2, q2⟩ := ext_spec (k := k) (x := y) (y := x) (by omega) (by omega) (by omega)
  rw [p1, p2]
  simp only [Option.bind_some]
  by_cases h : x.length < y.length
  · obtain ⟨r, h1, h2⟩ := prefix_spec k By Bx
    have e1 : r1 = false := by
      cases r1 with
      | false => rfl
      | true =>
        have := congrArg List.length (q1.1 rfl)
        rw [List.length_take] at this
        omega
    have e2 : r2 = r := by
      have := q2.trans h2.symm
      cases r2 <;> cases r <;> simp_all
    rw [decide_eq_true (show (x.length : Int) < (y.length : Int) by omega), cond_true, h1, e1, e2]
    simp only [Option.bind_some, cond_false]
    cases r
    · exact ⟨[], 11, rfl, rfl, by simp⟩
    · exact ⟨y, 0, rfl, rfl, ly⟩
  · obtain ⟨r, h1, h2⟩ := prefix_spec k Bx By
    have e1 : r1 = r := by
      have := q1.trans h2.symm
      cases r1 <;> cases r <;> simp_all
    rw [decide_eq_false (show ¬ (x.length : Int) < (y.length : Int) by omega), cond_false, h1, e1]
    simp only [Option.bind_some]
    cases hr : r with
    | true => exact ⟨x, 0, rfl, rfl, lx⟩
    | false =>
      have e2 : r2 = false := by
        cases hr2 : r2 with
        | false => rfl
        | true =>
          exfalso
          have e := q2.1 hr2
          have hl := congrArg List.length e
          rw [List.length_take] at hl
          have hxy : y = x := by rw [← e]; exact (List.take_of_length_le (by omega)).symm
          have : r = true := h2.2 (by rw [hxy]; exact List.take_length)
          rw [hr] at this; cases this
      rw [e2]
      exact ⟨[], 11, rfl, rfl, by simp⟩

theorem wf_bytes {l : List Int} (h : Wf (.sl (.int .u8)) l) : IsB l := fun c hc => by
  obtain ⟨_, h⟩ := h
  have h1 : (Lit.int .u8 c).wf = true := h c hc
  simp only [Lit.wf, Bool.and_eq_true, decide_eq_true_eq] at h1
  have e0 : IntKind.u8.min = 0 := by decide
  have e1 : IntKind.u8.max = 255 := by decide
  omega

theorem pure_journals : law52_ResumeJournals.Pure := by
  intro a b ev ha hb _
  refine ⟨100000, ?_⟩
  rw [law52_ResumeJournals.f]
  by_cases h1 : a.length ≤ 5000
  · by_cases h2 : b.length ≤ 5000
    · rw [decide_eq_false (show ¬ (a.length : Int) > 5000 by omega), decide_eq_false (show ¬ (b.length : Int) > 5000 by omega)]
      simp only [cond_false, Option.bind_some]
      have hBa : IsB a := wf_bytes ha
      have hBb : IsB b := wf_bytes hb
      obtain ⟨r, c, w1, w2, w3⟩ := write_both (k := 100000) (by omega) h1 hBa ⟨ev.1, ev.2.1, ev.2.2.1.1, ev.2.2.1.2.1, ev.2.2.1.2.2.1, ev.2.2.1.2.2.2.1, ev.2.2.1.2.2.2.2, ev.2.2.2.1, ev.2.2.2.2.1, ev.2.2.2.2.2.1, ev.2.2.2.2.2.2⟩
      simp only at w1 w2
      obtain ⟨out, p, c2, v1, v2, v3, v4⟩ := events_both (k := 100000) (by omega) h1 hBa
      obtain ⟨x, c3, u1, u2, u3⟩ := join_both (k := 100000) (by omega) h1 hBa h2 hBb
      rw [w1, w2]
      simp only [Option.bind_some, bne_self_eq_false, cond_false]
      rw [lbytes_refl (by omega) (by omega)]
      simp only [Option.bind_some, Bool.not_true, cond_false]
      rw [v3, v4]
      simp only [Option.bind_some, bne_self_eq_false, cond_false]
      rw [levents_refl (by omega) v2 v1]
      simp only [Option.bind_some, Bool.not_true, cond_false]
      rw [u1, u2]
      simp only [Option.bind_some, beq_self_eq_true, cond_true]
      rw [lbytes_refl (by omega) (by omega)]
      rfl
    · rw [decide_eq_false (show ¬ (a.length : Int) > 5000 by omega), decide_eq_true (show (b.length : Int) > 5000 by omega)]
      rfl
  · rw [decide_eq_true (show (a.length : Int) > 5000 by omega)]
    rfl
end Gv
namespace Go.Proofs.YtgkcdgbegkpmoaaGreatDoor
theorem resumeJournals_holds : Rows.ResumeJournalsCardSaid := Gv.law52_ResumeJournals.card Gv.pure_journals
end Go.Proofs.YtgkcdgbegkpmoaaGreatDoor
