import Derived.Test.YtgkcdgbegkpmoaaGreatDoorGzT87
import Derived.Test.YtgkcdgbegkpmoaaGreatDoorGwBy
namespace Gv
open Go Go.Proofs
set_option linter.unusedVariables false
set_option linter.unusedSectionVars false
set_option linter.unusedSimpArgs false
set_option maxRecDepth 1000000
section
variable [GlobI] {En : Env} {σ : List Ob} {μ : Nat → Option Value} {w : World}

abbrev dcD : Form := .cons (.v (.sl (.int .u8))) (.cons (.v (.int .i64)) .nilL)
abbrev dcR : Sig := ⟨5, [.slot 2, .slot 3, .slot 4], dcO, [2, 3, 4], dcB⟩
abbrev dcP : Sig := ⟨6, [.slot 3, .slot 4, .slot 5], dcO, [0, 3, 4, 5], .cons (.ifc 112 (.agg dcI)) dcB⟩
abbrev dcA7 : Sig := ⟨17, [.slot 2, .slot 3, .slot 4], dcO, [0, 2, 3, 4], .cons (.v (.sl (.int .u8))) dcB⟩
abbrev dcA31 : Sig := ⟨17, [.slot 2, .slot 3, .slot 4, .slot 5], .cons (.obox dcN) (.cons (.obox dcI) (.cons (.obox dcI) (.cons (.obox dcD) .nilL))), [2, 3, 4, 5], .cons (.boxr 0 0) (.cons (.boxr 1 0) (.cons (.boxr 2 0) (.cons (.boxr 3 0) .nilL)))⟩
abbrev dcO31 : List Out := [⟨.ret, dcR, dcR.V, id, id⟩]
abbrev dcO7 : List Out := [⟨.ret, dcR, dcR.V, id, id⟩, ⟨.pan, dcP, dcP.V, id, id⟩]
def dcY31 (x : dcA31.V) : dcR.V := ((x.1.1, (x.1.2.2.2.1.2.1, ()), (0, ()), ()), ((), (), (), ()))
abbrev dcPc : Pc := ⟨dcA31, dcO31, fun x => some (dcY31 x)⟩
noncomputable def dc62 : Array Oper := opsIn ((codeAt 60 (bodyOf Tryz.f74) 62).getD .skip)
noncomputable abbrev dc31 : Code := .seq (.region 4 dc62 true) .ret
theorem dc31_at : codeAt 60 (bodyOf Tryz.f74) 31 = some dc31 := by kernel_rfl
theorem dc62_ev (x : dcA31.V) : evAnyL dcC dc62 (fun st => pickO dcO31 .ret st.slots st.σ) dc62.size (Array.replicate dc62.size false) (dcA31.put x) = List.replicate 15 (some (dcY31 x)) := by kernel_rfl
theorem dc62_ds : (dc62.toList.all fun o => match o.dst with | some d => decide (5 ≤ d) | none => true) = true := by kernel_rfl
theorem dc_piece {C : Cfg} (hP : C.P = Tryz.prog) : Piece C.P 5 dc31 dcPc := by
  rw [hP]
  intro x y h E a w Q hH hK
  simp only [Option.some.injEq] at h
  subst h
  refine wp_seq (any_sound (C := dcC) (n0 := 5) dcC_orc mixed dc62_ds (dc62_ev x) hH (fun a1 w1 st1 q1 q2 q3 => ?_))
  refine wp_ret ?_
  have := pickO_spec (ooC (fun _ => rfl) ooN) q1
  obtain ⟨he, hget⟩ := this
  exact hK a1 w1 (q2.sig hget) q3

noncomputable abbrev dcC7 (k : Nat) : Cfg := ⟨Tryz.prog, shs, look2 [(87, [], codec_decoder_node.E k)], look [(31, dcPc)]⟩
def dcX7 (b : List Int) : dcA7.V := (((0, 0, 0, ⟨#[]⟩, [], ()), (0, ()), (0, ()), ()), (b, (), (), (), ()))
noncomputable abbrev dc7 : Code := (codeAt 60 (bodyOf Tryz.f74) 7).getD .skip
theorem dc7_at : codeAt 60 (bodyOf Tryz.f74) 7 = some dc7 := by kernel_rfl
theorem dc7_ev (k : Nat) (b : List Int) : evP (dcC7 k) dc7 7 dcA7 dcO7 (dcX7 b) = (codec_decoder_node.f k b 0 1).bind fun y => Sum.casesOn (motive := fun _ => Option (OutsV dcO7)) y
    (fun y => some (.inl (((y.2.2.1, y.2.2.2.1, y.2.2.2.2.1, y.2.2.2.2.2.1, y.2.2.2.2.2.2, ()), (y.2.1, ()), (0, ()), ()), ((), (), (), ()))))
    (fun z => some (.inr (((0, 0, 0, ⟨#[]⟩, [], ()), (0, ()), (0, ()), ()), ((z.2.2, ()), (), (), (), ())))) := by kernel_rfl
theorem dc7_ds : dstOk 5 dc7 = true := by kernel_rfl

/-- Before the deferred call. -/
noncomputable def dc2 : Array Oper := opsIn ((codeAt 60 (bodyOf Tryz.f74) 2).getD .skip)
noncomputable def dc6 : Array Oper := opsIn ((codeAt 60 (bodyOf Tryz.f74) 6).getD .skip)
theorem f34_at : Tryz.prog.funcs[74]? = some Tryz.f74 := by kernel_rfl
theorem f34_nt : Tryz.f74.ntmps = 17 := by kernel_rfl
theorem f34_nm : (Tryz.f74.name == "runtime.NumGoroutine") = false := by kernel_rfl
theorem f34_body : Tryz.f74.body = some (.seq (.region 0 dc2 false) (.seq (.region 1 dc6 false) dc7)) := by kernel_rfl
def dcS0 (b : List Int) : St := ⟨[.dat (.sl (.int .u8)) b] ++ List.replicate 16 .any, []⟩
theorem dc2_ev (b : List Int) : evOps dcC dc2 (fun _ => (none : Option dcA7.V)) 4 dc2.toList (dcS0 b) (fun st => dcA7.get st.slots st.σ) = some (dcX7 b) := by kernel_rfl
theorem dc2_ds : (dc2.toList.all fun o => match o.dst with | some d => decide (1 ≤ d) | none => true) = true := by kernel_rfl

abbrev codec_Decode.A : Sig := ⟨1, [], .nilL, [0], (.cons (.v (.sl (.int .u8))) .nilL)⟩
abbrev codec_Decode.R0 : Sig := ⟨1, [], .nilL, [0], (.cons (.tup (.cons (.agg dcN) (.cons (.v (.int .i64)) (.cons (.v (.int .i64)) .nilL)))) .nilL)⟩
abbrev codec_Decode.outs : List Out := [⟨.ret, codec_Decode.R0, Int × Int × Int × ByteArray × List Nd × Int × Int, fun y => ((), (((y.1, y.2.1, y.2.2.1, y.2.2.2.1, y.2.2.2.2.1, ()), y.2.2.2.2.2.1, y.2.2.2.2.2.2, ()), ())), fun x => (x.2.1.1.1, x.2.1.1.2.1, x.2.1.1.2.2.1, x.2.1.1.2.2.2.1, x.2.1.1.2.2.2.2.1, x.2.1.2.1, x.2.1.2.2.1)⟩]
def codec_Decode.f (k : Nat) (b : List Int) : Option (Int × Int × Int × ByteArray × List Nd × Int × Int) :=
  (codec_decoder_node.f k b 0 1).bind fun y => Sum.casesOn (motive := fun _ => Option (Int × Int × Int × ByteArray × List Nd × Int × Int)) y
    (fun y => some (y.2.2.1, y.2.2.2.1, y.2.2.2.2.1, y.2.2.2.2.2.1, y.2.2.2.2.2.2, y.2.1, 0))
    (fun z => some (0, 0, 0, ⟨#[]⟩, [], 0, z.2.2))
abbrev codec_Decode.E (k : Nat) : Ent := ⟨codec_Decode.A, codec_Decode.outs, fun x => codec_Decode.f k x.2.1⟩

def dcRes (y : Int × Int × Int × ByteArray × List Nd × Int × Int) : dcS.V := (((y.1, y.2.1, y.2.2.1, y.2.2.2.1, y.2.2.2.2.1, ()), (y.2.2.2.2.2.1, ()), (y.2.2.2.2.2.2, ()), ()), ((), (), (), ()))
def dcStE (z : dcS.V) : St := ⟨[.any, .any] ++ (dcS.put z).slots, (dcS.put z).σ⟩
theorem dc_ret (y : Int × Int × Int × ByteArray × List Nd × Int × Int) : (retOf dcC Tryz.f74 (dcStE (dcRes y))).bind (fun r => codec_Decode.R0.get (r :: (dcStE (dcRes y)).slots) (dcStE (dcRes y)).σ) = some ((), (((y.1, y.2.1, y.2.2.1, y.2.2.2.1, y.2.2.2.2.1, ()), y.2.2.2.2.2.1, y.2.2.2.2.2.2, ()), ())) := by kernel_rfl

/-- The end: the named results are read. -/
theorem dc_leave {y : Int × Int × Int × ByteArray × List Nd × Int × Int} {p2 p3 p4 : Value} (hR : Rel En (dcS.put (dcRes y)).slots (dcS.put (dcRes y)).σ μ [p2, p3, p4] w) {tmps : Array Value} (ht : ∃ a b tl, tmps.toList = a :: b :: p2 :: p3 :: p4 :: tl) (args : List Value) :
    ∃ v, (results Tryz.f74 tmps).run Tryz.prog w = .ok v w ∧ OutP codec_Decode.outs y (Ended En args w (.returned v)) := by
  obtain ⟨a, b, tl, ht⟩ := ht
  have hH : HR En (dcStE (dcRes y)).σ μ (dcStE (dcRes y)) { tmps := tmps, defers := [] } w := by
    unfold HR
    have e : (({ tmps := tmps, defers := [] } : Act).tmps.toList.take (dcStE (dcRes y)).slots.length) = [a, b] ++ [p2, p3, p4] := by
      have hl : (dcStE (dcRes y)).slots.length = 5 := by simp [dcStE, Sig.put_len]
      rw [hl, ht]; rfl
    rw [e]
    exact { hR with vals := (RVL.anys [a, b]).append hR.vals }
  obtain ⟨r, h1, h2⟩ := Option.bind_eq_some_iff.1 (dc_ret y)
  obtain ⟨v, g1, g2⟩ := results_sound (C := dcC) (fn := Tryz.f74) hH h1
  refine ⟨v, g2, ?_⟩
  have hr2 : Rel En (r :: (dcStE (dcRes y)).slots) (dcStE (dcRes y)).σ μ (v :: tmps.toList.take (dcStE (dcRes y)).slots.length) w := { hH with vals := RVL.cons' g1 hH.vals }
  obtain ⟨⟨m, rd, v1⟩, q1, q2⟩ := Option.bind_eq_some_iff.1 h2
  simp only [Option.some.injEq] at q2; subst q2
  obtain ⟨us, k, hF, hn⟩ := hr2.taken q1
  obtain ⟨e1, _, _⟩ := k.rel hF
  exact ⟨_, e1⟩

theorem list5 {l : List Value} (h : 5 ≤ l.length) : ∃ a b c d e tl, l = a :: b :: c :: d :: e :: tl := by
  match l, h with
  | a :: b :: c :: d :: e :: tl, _ => exact ⟨a, b, c, d, e, tl, rfl⟩

theorem dc_relR {z : dcR.V} {a : Act} (h : Holds En (dcR.put z) a w) : ∃ t0 t1 p2 p3 p4 tl μ, a.tmps.toList = t0 :: t1 :: p2 :: p3 :: p4 :: tl ∧ Rel En (dcS.put z).slots (dcS.put z).σ μ [p2, p3, p4] w := by
  obtain ⟨μ, hr⟩ := h
  have hlen := hr.vals.len
  rw [Sig.put_len, List.length_take] at hlen
  obtain ⟨t0, t1, p2, p3, p4, tl, e⟩ := list5 (l := a.tmps.toList) (by simp only [dcR] at hlen; omega)
  refine ⟨t0, t1, p2, p3, p4, tl, μ, e, ?_⟩
  rw [Sig.put_len, e] at hr
  exact { hr with vals := hr.vals.drop 2 }

theorem dc_relP {z : dcP.V} {pv : Value} {a : Act} (h : HoldsP En (dcP.put z) pv a w) : pv = .iface 112 (.agg #[.int .i64 z.2.1.1]) ∧ ∃ t0 t1 p2 p3 p4 tl μ, a.tmps.toList = t0 :: t1 :: p2 :: p3 :: p4 :: tl ∧ Rel En (dcS.put (z.1, ((), (), (), ()))).slots (dcS.put (z.1, ((), (), (), ()))).σ μ [p2, p3, p4] w := by
  obtain ⟨μ, hr⟩ := h
  have hlen := hr.vals.len
  rw [Sig.put_len, List.length_cons, List.length_take] at hlen
  obtain ⟨t0, t1, p2, p3, p4, tl, e⟩ := list5 (l := a.tmps.toList) (by simp only [dcP] at hlen; omega)
  rw [Sig.put_len, e] at hr
  refine ⟨?_, t0, t1, p2, p3, p4, tl, μ, e, { hr with vals := hr.vals.drop 3 }⟩
  have h0 := hr.vals
  obtain ⟨v, r, e1, h1, _⟩ := RVL.cons_iff.1 (show RVL _ _ _ (.ifc 112 (.agg [.dat (.int .i64) z.2.1.1]) :: _) _ from h0)
  injection e1 with e1 e2
  subst e1
  simp only [RV] at h1
  obtain ⟨x, rfl, cs, rfl, h2⟩ := h1
  obtain ⟨v, r', e3, h3, h4⟩ := RVL.cons_iff.1 h2
  simp only [Sh.C, RV, List.cons.injEq, and_true] at h3
  have := RVL.nil_iff.1 h4
  subst this; subst h3
  congr 2
  exact Array.toList_inj.1 e3

theorem dc6_wp {a : Act} {t0 t1 p2 p3 p4 : Value} {tl : List Value} (ht : a.tmps.toList = t0 :: t1 :: p2 :: p3 :: p4 :: tl) (hl : 12 ≤ tl.length) (hd : a.defers = []) {Q : Exit → Act → World → Prop}
    (h : Q .normal { tmps := a.tmps.setIfInBounds 6 (.func (.func 86) #[] #[p2, p3, p4]), defers := [{ target := .fn (.func 86) #[p2, p3, p4], args := #[] }] } w) : (Code.region 1 dc6 false).wp Tryz.prog Q a w := by
  have hc := f34_body
  unfold Tryz.f74 at hc
  injection hc with hc
  injection hc with h1 h2
  injection h2 with h2 h5
  injection h2 with h3 hops h4
  have hmf : ∀ (fn : Fn) (first cap : Array Value) (w : World), (Instr.makeFunc fn first cap).run Tryz.prog w = .ok (.func fn first cap) w := fun _ _ _ _ => rfl
  apply wp_region
  rw [← hops]
  obtain ⟨tm, ds⟩ := a
  obtain ⟨tm⟩ := tm
  simp only at ht hd h
  subst ht; subst hd
  match tl, hl with
  | t5 :: t6 :: tl, _ =>
    simp [wpOps, Oper.wp, Oper.upon, execOp, go_sem, hmf]
    exact .inl (.inl h)

theorem dc_tmps6 {t0 t1 p2 p3 p4 : Value} {tl : List Value} {a a' : Act} (ha : a.tmps.toList = t0 :: t1 :: p2 :: p3 :: p4 :: tl) {f : Value} (h : SameC 5 { tmps := a.tmps.setIfInBounds 6 f, defers := a'.defers } a') {t0' t1' p2' p3' p4' : Value} {tl' : List Value} (ha' : a'.tmps.toList = t0' :: t1' :: p2' :: p3' :: p4' :: tl') : p2' = p2 ∧ p3' = p3 ∧ p4' = p4 := by
  have key : ∀ i, i < 5 → a'.tmps.toList[i]? = a.tmps.toList[i]? := by
    intro i hi
    have := h.tm i hi
    rw [Array.getElem?_setIfInBounds_ne (by omega)] at this
    simpa using this
  have h2 := key 2 (by omega)
  have h3 := key 3 (by omega)
  have h4 := key 4 (by omega)
  rw [ha, ha'] at h2 h3 h4
  simp at h2 h3 h4
  exact ⟨h2, h3, h4⟩

theorem codec_Decode.sat (k : Nat) : Sat Tryz.prog 74 (codec_Decode.E k) where
  fn := ⟨Tryz.f74, f34_at, f34_nm, by rw [f34_body]; rfl⟩
  run := by
    intro b0 y h w Rb ok0 μ args hr
    obtain ⟨u1, b, u2⟩ := b0
    simp only at h hr
    refine calls_of_wp_defers f34_at f34_body ?_
    have hlen := hr.vals.len
    rw [Sig.put_len] at hlen
    obtain ⟨v0, rfl⟩ : ∃ v0, args = [v0] := by
      match args, hlen with
      | [v0], _ => exact ⟨v0, rfl⟩
    have hH : Holds ⟨w, Rb, ok0⟩ (dcS0 b) { tmps := [v0].toArray ++ Array.replicate (Tryz.f74.ntmps - [v0].toArray.size) undef, defers := [] } w := by
      refine ⟨μ, ?_⟩
      have e : (({ tmps := [v0].toArray ++ Array.replicate (Tryz.f74.ntmps - [v0].toArray.size) undef, defers := [] } : Act).tmps.toList.take (dcS0 b).slots.length) = [v0] ++ List.replicate 16 undef := by
        rw [f34_nt]; rfl
      rw [e]
      exact { hr with vals := hr.vals.append (RVL.anys (List.replicate 16 undef)) }
    refine wp_seq (region_sound (C := dcC) dcC_orc (dc2_ev b) hH (fun a1 w1 st1 k1 k2 k3 => ?_) (fun _ _ _ _ k1 => by cases k1))
    have hd1 : a1.defers = [] := k3.1
    have hA := k2.sig k1
    have hsz : 17 ≤ a1.tmps.toList.length := by
      obtain ⟨μ1, hr1⟩ := hA
      have := hr1.vals.len
      rw [Sig.put_len, List.length_take] at this
      simp only at this
      omega
    obtain ⟨t0, t1, p2, p3, p4, tl, ht⟩ := list5 (l := a1.tmps.toList) (by omega)
    have hl : 12 ≤ tl.length := by rw [ht] at hsz; simp at hsz; omega
    refine wp_seq (dc6_wp ht hl hd1 ?_)
    have hA2 : Holds ⟨w, Rb, ok0⟩ (dcA7.put (dcX7 b)) { tmps := a1.tmps.setIfInBounds 6 (.func (.func 86) #[] #[p2, p3, p4]), defers := [{ target := .fn (.func 86) #[p2, p3, p4], args := #[] }] } w1 := by
      obtain ⟨μ1, hr1⟩ := hA
      refine ⟨μ1, ?_⟩
      have hs := hr1.set (i := 6) (a := .any) (v := .func (.func 86) #[] #[p2, p3, p4]) trivial
      have e1 : (dcA7.put (dcX7 b)).slots.set 6 .any = (dcA7.put (dcX7 b)).slots := rfl
      rw [e1] at hs
      simp only [Array.toList_setIfInBounds]
      rw [List.take_set]
      exact hs
    unfold codec_Decode.f at h
    obtain ⟨z, hz, h⟩ := Option.bind_eq_some_iff.1 h
    have hev := dc7_ev k b
    rw [hz] at hev
    simp only [Option.bind_some] at hev
    have hC : ∀ g l N, (dcC7 k).orc g l = some N → Sat (dcC7 k).P g N := satAll (satCons (codec_decoder_node.sat k) satNil)
    have fin : ∀ yy : OutsV dcO7, evP (dcC7 k) dc7 7 dcA7 dcO7 (dcX7 b) = some yy → OutP dcO7 yy (Goes ⟨w, Rb, ok0⟩ (SameC 5 { tmps := a1.tmps.setIfInBounds 6 (.func (.func 86) #[] #[p2, p3, p4]), defers := [{ target := .fn (.func 86) #[p2, p3, p4], args := #[] }] }) (bodyPostD Tryz.prog Tryz.f74 fun en w' => OutP codec_Decode.outs y (Ended ⟨w, Rb, ok0⟩ [v0] w' en))) →
        dc7.wp Tryz.prog (bodyPostD Tryz.prog Tryz.f74 fun en w' => OutP codec_Decode.outs y (Ended ⟨w, Rb, ok0⟩ [v0] w' en)) { tmps := a1.tmps.setIfInBounds 6 (.func (.func 86) #[] #[p2, p3, p4]), defers := [{ target := .fn (.func 86) #[p2, p3, p4], args := #[] }] } w1 := by
      intro yy hy hO
      unfold evP at hy
      refine evC_sound (C := { dcC7 k with pcs := fun q => if q == 7 then none else (dcC7 k).pcs q }) hC mixed (n := 5) (body := bodyOf Tryz.f74) dc7 7 _ _ yy hy ?_ dc7_ds (fun q c' pc hq hat hpc => ?_) _ _ w1 _ hA2 (fun e st' k1 => pick_goes (ooC (fun _ => rfl) (ooC (fun _ => rfl) ooN)) rfl k1 hO)
      · have hb : bodyOf Tryz.f74 = .seq (.region 0 dc2 false) (.seq (.region 1 dc6 false) dc7) := by unfold bodyOf; rw [f34_body]; rfl
        rw [hb]
        exact .seqR (p := 3) (.seqR (p := 1) .root)
      · by_cases h7 : q = 7
        · subst h7; simp at hpc
        · have e7 : (q == 7) = false := by simpa using h7
          simp only [e7, Bool.false_eq_true, if_false, look] at hpc
          split at hpc
          · rename_i h31
            simp only [beq_iff_eq] at h31
            subst h31
            cases hpc
            have := hat.uniq dc31_at
            subst this
            exact dc_piece (C := dcC7 k) rfl
          · cases hpc
    cases z with
    | inl z =>
      simp only [Option.some.injEq] at h
      subst h
      refine fin _ hev ?_
      intro a' w' k2 k3
      obtain ⟨t0', t1', p2', p3', p4', tl', μ', ht', hR'⟩ := dc_relR k2
      have hde := k3.de
      simp only at hde
      obtain ⟨rfl, rfl, rfl⟩ := dc_tmps6 ht (by rw [← hde] at k3; exact k3) ht'
      show Leaves _ _ _ _ _ _ _
      rw [hde]
      refine leaves_cons (f := 86) (args := #[p2', p3', p4']) (by simp) (by simp [go_sem]) ((cl_idle hR').mono ?_)
      rintro e u' w'' ⟨rfl, rfl, μ'', hR''⟩
      obtain ⟨v, g1, g2⟩ := dc_leave (y := (z.2.2.1, z.2.2.2.1, z.2.2.2.2.1, z.2.2.2.2.2.1, z.2.2.2.2.2.2, z.2.1, 0)) hR'' ⟨_, _, _, ht'⟩ [v0]
      exact ⟨v, g1, g2⟩
    | inr z =>
      simp only [Option.some.injEq] at h
      subst h
      refine fin _ hev ?_
      intro pv a' w' k2 k3
      obtain ⟨hpv, t0', t1', p2', p3', p4', tl', μ', ht', hR'⟩ := dc_relP k2
      subst hpv
      have hde := k3.de
      simp only at hde
      obtain ⟨rfl, rfl, rfl⟩ := dc_tmps6 ht (by rw [← hde] at k3; exact k3) ht'
      show Leaves _ _ _ _ _ _ _
      rw [hde]
      refine leaves_cons (f := 86) (args := #[p2', p3', p4']) (by simp) (by simp [go_sem]) ((cl_pan hR' _).mono ?_)
      rintro e u' w'' ⟨rfl, rfl, μ'', hR''⟩
      obtain ⟨v, g1, g2⟩ := dc_leave (y := (0, 0, 0, ⟨#[]⟩, [], 0, z.2.2)) hR'' ⟨_, _, _, ht'⟩ [v0]
      exact ⟨v, g1, g2⟩
end
end Gv

/- Contracts by hand: bytes.Clone; errors.As and journal.code. -/
namespace Gv
open Go Go.Proofs
set_option linter.unusedVariables false
set_option linter.unusedSectionVars false
set_option linter.unusedSimpArgs false
set_option maxRecDepth 1000000
section
variable [GlobI]
/-! ### bytes_Clone0: function 35 (bytes.Clone) -/
abbrev bytes_Clone0.A : Sig := ⟨1, [], (.nilL), [0], (.cons (.v (.sl (.int .u8))) .nilL)⟩
abbrev bytes_Clone0.R0 : Sig := ⟨1, [.slot 0], (.cons (.orow 5 (.int .u8)) .nilL), [0], (.cons (.rowr 0) .nilL)⟩
abbrev bytes_Clone0.outs : List Out := [⟨.ret, bytes_Clone0.R0, List Int, fun y => ((y, ()), ((), ())), fun x => x.1.1⟩]
def bytes_Clone0.f (k : Nat) (a0 : List Int) : Option (List Int) :=
  cond (decide (0 < a0.length))
  (cond (fits (0 + a0.length) 1)
    (some (([] : List Int) ++ a0))
    (none))
  (none)
abbrev bytes_Clone0.E (k : Nat) : Ent := ⟨bytes_Clone0.A, bytes_Clone0.outs, fun x => bytes_Clone0.f k x.2.1⟩
noncomputable abbrev bytes_Clone0.C (k : Nat) : Cfg := ⟨Tryz.prog, shs, look2 [], look []⟩
theorem bytes_Clone0.ev (k : Nat) (x : bytes_Clone0.A.V) : evF (bytes_Clone0.C k) Tryz.f35 bytes_Clone0.A bytes_Clone0.outs x = bytes_Clone0.f k x.2.1 := by kernel_rfl
theorem bytes_Clone0.at : Tryz.prog.funcs[35]? = some Tryz.f35 := by kernel_rfl
theorem bytes_Clone0.bo : Tryz.f35.body = some (bodyOf (Tryz.f35)) := by kernel_rfl
theorem bytes_Clone0.nm : (Tryz.f35.name == "runtime.NumGoroutine") = false := by kernel_rfl
theorem bytes_Clone0.sat (k : Nat) : Sat Tryz.prog 35 (bytes_Clone0.E k) :=
  have hC : ∀ g l N, (bytes_Clone0.C k).orc g l = some N → Sat Tryz.prog g N := satAll satNil
  sat_of (C := bytes_Clone0.C k) hC mixed bytes_Clone0.at bytes_Clone0.nm bytes_Clone0.bo (all_pieces rfl locNil) (bytes_Clone0.ev k) (ooC (fun _ => rfl) ooN) (dstOk_zero _) (by decide) rfl
/-! ### bytes.Clone: nil or not -/
section
variable {En : Env} {σ : List Ob} {μ : Nat → Option Value} {w : World}
noncomputable def cn2 : Array Oper := opsIn ((codeAt 60 (bodyOf Tryz.f35) 2).getD .skip)
noncomputable def cn12 : Array Oper := opsIn ((codeAt 60 (bodyOf Tryz.f35) 12).getD .skip)
noncomputable def cn26 : Code := (codeAt 60 (bodyOf Tryz.f35) 26).getD .skip
noncomputable def cn7 : Code := (codeAt 60 (bodyOf Tryz.f35) 7).getD .skip
theorem cn_body : Tryz.f35.body = some (.seq (.region 0 cn2 false) (.seq (.seq (.region 1 cn12 false) (.cond (.tmp 4) cn26 .skip)) cn7)) := by kernel_rfl
theorem cn_nt : Tryz.f35.ntmps = 8 := by kernel_rfl
theorem cn_eq (a : Option Addr) (n c : Nat) (w : World) : (Go.binOp .eql 22 (.slice a n c) (.slice none 0 0)).run Tryz.prog w = .ok (.bool a.isNone) w := by
  cases a <;> kernel_rfl

theorem cn12_wp {a : Act} {tl : List Value} {ad : Option Addr} {n c : Nat} (ht : a.tmps.toList = .slice ad n c :: tl) (h7 : 7 ≤ tl.length) {Q : Exit → Act → World → Prop}
    (h : Q .normal { tmps := (a.tmps.setIfInBounds 3 (.slice ad n c)).setIfInBounds 4 (.bool ad.isNone), defers := a.defers } w) : (Code.region 1 cn12 false).wp Tryz.prog Q a w := by
  have hc := cn_body
  unfold Tryz.f35 at hc
  injection hc with hc
  injection hc with h1 h2
  injection h2 with h2 h5
  injection h2 with h2 h6
  injection h2 with h3 hops h4
  apply wp_region
  rw [← hops]
  obtain ⟨tm, ds⟩ := a
  obtain ⟨tm⟩ := tm
  simp only at ht h
  subst ht
  match tl, h7 with
  | t1 :: t2 :: t3 :: t4 :: tl, _ =>
    simp [wpOps, Oper.wp, Oper.upon, execOp, go_sem, cn_eq]
    exact .inl (.inl h)

def cnS (l : List Int) : St := ⟨[.dat (.sl (.int .u8)) l] ++ List.replicate 7 .any, []⟩
noncomputable abbrev cnC : Cfg := bytes_Clone0.C 0
abbrev cnO : List Out := bytes_Clone0.outs
abbrev cnA : Sig := ⟨8, [], .nilL, [0], .cons (.v (.sl (.int .u8))) .nilL⟩
theorem cn2_ev (l : List Int) : evOps cnC cn2 (fun _ => (none : Option cnA.V)) 4 cn2.toList (cnS l) (fun st => cnA.get st.slots st.σ) = some ((), (l, ())) := by kernel_rfl
theorem cn2_ds : (cn2.toList.all fun o => match o.dst with | some d => decide (1 ≤ d) | none => true) = true := by kernel_rfl
def cnK (C : Cfg) (fn : Func) (outs : List Out) : Ex → St → Option (OutsV outs) := fun e st' => match e with
  | .normal | .ret => (retOf C fn st').bind fun r => pickO outs .ret (r :: st'.slots) st'.σ
  | .pan => pickO outs .pan st'.slots st'.σ
  | .exit _ => none
theorem cn26_ev : evC cnC cn26 26 (cnS []) (fun e st' => match e with
      | .ret => (retOf cnC Tryz.f35 st').bind fun r => pickO cnO .ret (r :: st'.slots) st'.σ
      | .pan => pickO cnO .pan st'.slots st'.σ
      | _ => none) = some [] := by kernel_rfl
theorem cn7_ev : evC cnC cn7 7 (cnS []) (cnK cnC Tryz.f35 cnO) = some [] := by kernel_rfl
theorem cn26_ds : dstOk 1 cn26 = true := by kernel_rfl
theorem cn7_ds : dstOk 1 cn7 = true := by kernel_rfl

theorem cn_at7 : At (bodyOf Tryz.f35) 7 cn7 := by
  have hb : bodyOf Tryz.f35 = .seq (.region 0 cn2 false) (.seq (.seq (.region 1 cn12 false) (.cond (.tmp 4) cn26 .skip)) cn7) := by unfold bodyOf; rw [cn_body]; rfl
  rw [hb]
  exact .seqR (p := 3) (.seqR (p := 1) .root)
theorem cn_at26 : At (bodyOf Tryz.f35) 26 cn26 := by
  have hb : bodyOf Tryz.f35 = .seq (.region 0 cn2 false) (.seq (.seq (.region 1 cn12 false) (.cond (.tmp 4) cn26 .skip)) cn7) := by unfold bodyOf; rw [cn_body]; rfl
  rw [hb]
  exact .condL (p := 13) (.seqR (p := 6) (.seqL (p := 3) (.seqR (p := 1) .root)))
end

def bytes_Clone.f (k : Nat) : List Int → Option (List Int)
  | [] => some []
  | y :: l => bytes_Clone0.f k (y :: l)
abbrev bytes_Clone.E (k : Nat) : Ent := ⟨bytes_Clone0.A, bytes_Clone0.outs, fun x => bytes_Clone.f k x.2.1⟩

theorem cn_empty : Sat Tryz.prog 35 ⟨bytes_Clone0.A, bytes_Clone0.outs, fun x => match x.2.1 with
    | [] => some []
    | _ :: _ => none⟩ := by
  refine sat_by (C := cnC) (n := 1) bytes_Clone0.at bytes_Clone0.nm cn_body (ooC (fun _ => rfl) ooN) (Nat.le_refl _) rfl (fun x y h E a w hH hd => ?_)
  obtain ⟨u1, l, u2⟩ := x
  cases l with
  | cons _ _ => cases h
  | nil =>
    simp only [Option.some.injEq] at h
    subst h
    have hH' : Holds E (cnS []) a w := by
      have e : start Tryz.f35 bytes_Clone0.A (u1, [], u2) = cnS [] := by unfold start; rw [cn_nt]; rfl
      rw [← e]; exact hH
    have hC : ∀ g l N, cnC.orc g l = some N → Sat cnC.P g N := satAll satNil
    refine wp_seq (region_sound (C := cnC) hC (cn2_ev []) hH' (fun a1 w1 st1 k1 k2 k3 => ?_) (fun _ _ _ _ k1 => by cases k1))
    have hS1 := k3.toC cn2_ds
    have hA := k2.sig k1
    obtain ⟨v0, tl, ht, h7, ad, c, rfl⟩ : ∃ v0 tl, a1.tmps.toList = v0 :: tl ∧ 7 ≤ tl.length ∧ ∃ ad c, v0 = .slice ad 0 c := by
      obtain ⟨μ1, hr1⟩ := hA
      have hlen := hr1.vals.len
      rw [Sig.put_len, List.length_take] at hlen
      simp only at hlen
      have hv := hr1.vals
      rw [Sig.put_len] at hv
      match hl : a1.tmps.toList with
      | [] => rw [hl] at hlen; simp at hlen
      | v0 :: tl =>
        rw [hl] at hlen hv
        simp only [List.length_cons] at hlen
        refine ⟨v0, tl, rfl, by omega, ?_⟩
        obtain ⟨v, r, e, g, _⟩ := RVL.cons_iff.1 (show RVL _ _ _ (.dat (.sl (.int .u8)) [] :: List.replicate 7 .any) _ from hv)
        simp only [List.take_succ_cons, List.cons.injEq] at e
        obtain ⟨rfl, _⟩ := e
        simp only [RV, Sh.C, List.cons.injEq, and_true] at g
        obtain ⟨ad, c, e, _⟩ := g
        exact ⟨ad, c, e⟩
    refine wp_seq (wp_seq (cn12_wp ht h7 ?_))
    have hA2 : Holds E (cnS []) { tmps := (a1.tmps.setIfInBounds 3 (.slice ad 0 c)).setIfInBounds 4 (.bool ad.isNone), defers := a1.defers } w1 := by
      obtain ⟨μ1, hr1⟩ := hA
      refine ⟨μ1, ?_⟩
      have hs := (hr1.set (i := 3) (a := .any) (v := .slice ad 0 c) trivial).set (i := 4) (a := .any) (v := .bool ad.isNone) trivial
      have e1 : ((cnA.put ((), ([], ()))).slots.set 3 .any).set 4 .any = (cnS []).slots := rfl
      rw [e1] at hs
      simp only [Array.toList_setIfInBounds]
      rw [List.take_set, List.take_set]
      exact hs
    have hS2 : SameC 1 a { tmps := (a1.tmps.setIfInBounds 3 (.slice ad 0 c)).setIfInBounds 4 (.bool ad.isNone), defers := a1.defers } :=
      hS1.trans ⟨rfl, fun i hi => by rw [Array.getElem?_setIfInBounds_ne (by omega), Array.getElem?_setIfInBounds_ne (by omega)]⟩
    have hv : Act.eval { tmps := (a1.tmps.setIfInBounds 3 (.slice ad 0 c)).setIfInBounds 4 (.bool ad.isNone), defers := a1.defers } (.tmp 4) = .bool ad.isNone := by
      have hsz : 4 < a1.tmps.size := by
        have : a1.tmps.toList.length = tl.length + 1 := by rw [ht]; rfl
        simp only [Array.length_toList] at this
        omega
      simp [Act.eval, hsz]
    refine wp_cond hv ?_
    generalize ad.isNone = bb at hA2 hS2 ⊢
    cases bb with
    | true =>
      exact rest_leaves hC mixed (y := ([] : List Int)) (outs := cnO) (fn := Tryz.f35) cn26_ev cn_at26 cn26_ds rfl hA2 hS2
    | false =>
      refine wp_skip ?_
      exact rest_ends hC mixed (y := ([] : List Int)) (outs := cnO) (fn := Tryz.f35) cn7_ev cn_at7 cn7_ds rfl hA2 hS2

theorem bytes_Clone.sat (k : Nat) : Sat Tryz.prog 35 (bytes_Clone.E k) where
  fn := cn_empty.fn
  run := by
    rintro ⟨u1, l, u2⟩ y h
    cases l with
    | nil => exact cn_empty.run (u1, [], u2) y h
    | cons z l => exact (bytes_Clone0.sat k).run (u1, z :: l, u2) y h
end
end Gv
