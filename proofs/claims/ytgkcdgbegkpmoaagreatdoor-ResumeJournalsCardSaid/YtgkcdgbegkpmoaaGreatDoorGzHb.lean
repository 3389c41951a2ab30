/- errors.As at a concrete target: lines of the worked example Toyas, turned to this program's numbers. -/
import Derived.Test.YtgkcdgbegkpmoaaGreatDoorGzHa
import Derived.WalkKit
import Derived.LaidEql
import Derived.Stop.Asserts
import Derived.RowKitTokens
namespace GvAs
open Go Go.Proofs Go.RowKit Go.Extern.Stop Go.Stop Go.Extern
set_option linter.unusedVariables false
set_option linter.unusedSimpArgs false

theorem as_nil (t : Value) (w : World) :
    Calls Tryz.prog 56 #[.nilIface, t] w fun e w' => e = .returned (.bool false) ∧ w' = w := by
  go_enter Tryz.func56, Tryz.ntmps56
  go_wp2
  go_ret
  exact ⟨rfl, rfl⟩

theorem AsvalueOf27 (t : Addr) (w : World) : (ReflectliteValue.unpack (.iface 80 (.pointer (some t)))).run Tryz.prog w
    = .ok (.agg #[.pointer (some ⟨1, 80, none⟩), .pointer (some ⟨w.heap.size, 0, none⟩), .int .u64 150]) (w.alloc (.cells #[.pointer (some t)] 80)) := by kernel_rfl
theorem Astype27 (a : Addr) (w : World) : (ReflectliteValue.methodAny (ReflectliteValue.valueError "reflectlite.Value.Type" 0) (fun t _ _ _ => ReflectliteType.toType t) #[.agg #[.pointer (some ⟨1, 80, none⟩), .pointer (some a), .int .u64 150]]).run Tryz.prog w
    = .ok (.iface 119 (.agg #[.pointer (some ⟨1, 80, none⟩)])) w := by kernel_rfl
theorem AsmethodKind (h : Value) (w : World) : (Go.method 270 119 (.agg #[h]) "Kind").run Tryz.prog w = .ok (112, h) w := by kernel_rfl
theorem Askind27 (w : World) : ((ReflectliteType.abiMethod fun t => (fun a : Nat => Value.int IntKind.u8 (a : Int)) <$> Rtype.kind t) #[.pointer (some ⟨1, 80, none⟩)]).run Tryz.prog w = .ok (.int .u8 22) w := by kernel_rfl
theorem Askind25 (w : World) : ((ReflectliteType.abiMethod fun t => (fun a : Nat => Value.int IntKind.u8 (a : Int)) <$> Rtype.kind t) #[.pointer (some ⟨1, 74, none⟩)]).run Tryz.prog w = .ok (.int .u8 22) w := by kernel_rfl

theorem rlm (z : Sem Value) (f : TypeId → Addr → Nat → Nat → Sem Value) (v : Value) :
    ReflectliteValue.method z f #[v] = (do match ← ReflectliteValue.parts v with | none => z | some (t, a, fl) => f t a fl (fl % 32)) := rfl
theorem Asparts27 (a : Addr) (w : World) : (ReflectliteValue.parts (.agg #[.pointer (some ⟨1, 80, none⟩), .pointer (some a), .int .u64 150])).run Tryz.prog w = .ok (some (80, a, 150)) w := by kernel_rfl
theorem AsisNil27 (a p : Addr) (W : World) (ha : W.cell? a = some (.pointer (some p))) :
    (ReflectliteValue.method (ReflectliteValue.valueError "reflectlite.Value.IsNil" 0) ReflectliteValue.isNil #[.agg #[.pointer (some ⟨1, 80, none⟩), .pointer (some a), .int .u64 150]]).run Tryz.prog W = .ok (.bool false) W := by
  rw [rlm]
  simp only [Sem.run_bind, Asparts27, Result.andThen]
  simp [ReflectliteValue.isNil, loadVar, isAgg, underlying, Tryz.underlying80, ha, Result.andThen]

theorem AsmethodElem (h : Value) (w : World) : (Go.method 270 119 (.agg #[h]) "Elem").run Tryz.prog w = .ok (122, .agg #[h]) w := by kernel_rfl
theorem AsmethodImplements (h : Value) (w : World) : (Go.method 270 119 (.agg #[h]) "Implements").run Tryz.prog w = .ok (123, .agg #[h]) w := by kernel_rfl
theorem AsmethodAssignableTo (h : Value) (w : World) : (Go.method 270 119 (.agg #[h]) "AssignableTo").run Tryz.prog w = .ok (120, .agg #[h]) w := by kernel_rfl
theorem Aselem27 (w : World) : (ReflectliteType.method ReflectliteType.elem #[.agg #[.pointer (some ⟨1, 80, none⟩)]]).run Tryz.prog w = .ok (.iface 119 (.agg #[.pointer (some ⟨1, 74, none⟩)])) w := by kernel_rfl
theorem Asimplements25 (w : World) : (ReflectliteType.relation "Implements" ReflectliteType.implements_ #[.agg #[.pointer (some ⟨1, 74, none⟩)], .iface 119 (.agg #[.pointer (some ⟨1, 59, none⟩)])]).run Tryz.prog w = .ok (.bool true) w := by kernel_rfl
theorem AstypeOf25 (v : Value) (w : World) : (ReflectliteType.typeOf #[.iface 74 v]).run Tryz.prog w = .ok (.iface 119 (.agg #[.pointer (some ⟨1, 74, none⟩)])) w := by kernel_rfl
theorem Asassignable25 (w : World) : (ReflectliteType.relation "AssignableTo" ReflectliteType.assignableTo #[.agg #[.pointer (some ⟨1, 74, none⟩)], .iface 119 (.agg #[.pointer (some ⟨1, 74, none⟩)])]).run Tryz.prog w = .ok (.bool true) w := by kernel_rfl
theorem AsvalueOf25 (e : Addr) (w : World) : (ReflectliteValue.unpack (.iface 74 (.pointer (some e)))).run Tryz.prog w
    = .ok (.agg #[.pointer (some ⟨1, 74, none⟩), .pointer (some ⟨w.heap.size, 0, none⟩), .int .u64 150]) (w.alloc (.cells #[.pointer (some e)] 74)) := by kernel_rfl

theorem AselemOf27 (w : World) : (Rtype.elem? 80).run Tryz.prog w = .ok (some 74) w := by kernel_rfl
theorem Asmk25 (p : Addr) (w : World) : (ReflectliteValue.mk 74 p ReflectliteValue.flagAddr).run Tryz.prog w = .ok (.agg #[.pointer (some ⟨1, 74, none⟩), .pointer (some p), .int .u64 406]) w := by kernel_rfl
theorem AselemV27 (a p : Addr) (W : World) (ha : W.cell? a = some (.pointer (some p))) :
    (ReflectliteValue.method (ReflectliteValue.valueError "reflectlite.Value.Elem" 0) ReflectliteValue.elem #[.agg #[.pointer (some ⟨1, 80, none⟩), .pointer (some a), .int .u64 150]]).run Tryz.prog W
      = .ok (.agg #[.pointer (some ⟨1, 74, none⟩), .pointer (some p), .int .u64 406]) W := by
  rw [rlm]
  simp only [Sem.run_bind, Asparts27, Result.andThen]
  simp [ReflectliteValue.elem, loadVar, isAgg, underlying, Tryz.underlying80, ha, Result.andThen, AselemOf27, Asmk25]
theorem rls (v x : Value) : ReflectliteValue.set #[v, x] = (do
    let (some (dst, a, fl), some (src, b, _)) := (← ReflectliteValue.parts v, ← ReflectliteValue.parts x)
      | unsupported (.noEntry "extern/(internal/reflectlite.Value).Set.zeroValue")
    if fl / ReflectliteValue.flagAddr % 2 == 0 then unsupported (.noEntry "extern/(internal/reflectlite.Value).Set.unaddressable")
    let val ← loadVar src b
    if ← Rtype.directlyAssignable dst src then storeVar dst a val
    else if ← Rtype.implements dst src then
      if (← Rtype.kind src) == 20 then
        match val with
        | .nilIface => unsupported (.noEntry "extern/reflectlite: a nil value of one interface type handed on as a value of another")
        | _ => storeVar dst a val
      else storeVar dst a (.iface src val)
    else panicString ("reflectlite.Set: value of type " ++ (← Rtype.spelt src) ++ " is not assignable to type " ++ (← Rtype.spelt dst))
    pure (.tuple #[])) := rfl
theorem Asparts25a (a : Addr) (w : World) : (ReflectliteValue.parts (.agg #[.pointer (some ⟨1, 74, none⟩), .pointer (some a), .int .u64 406])).run Tryz.prog w = .ok (some (74, a, 406)) w := by kernel_rfl
theorem Asparts25 (a : Addr) (w : World) : (ReflectliteValue.parts (.agg #[.pointer (some ⟨1, 74, none⟩), .pointer (some a), .int .u64 150])).run Tryz.prog w = .ok (some (74, a, 150)) w := by kernel_rfl
theorem Asdirect25 (w : World) : (Rtype.directlyAssignable 74 74).run Tryz.prog w = .ok true w := by kernel_rfl
theorem Assize25 (w : World) : (Go.sizeOf 74).run Tryz.prog w = .ok 1 w := by kernel_rfl
theorem Asset25 (ta b e : Addr) (old : Value) (W : World) (hb : W.cell? b = some (.pointer (some e))) (ht : W.cell? ta = some old) (hf : W.frozen? ta = false) :
    (ReflectliteValue.set #[.agg #[.pointer (some ⟨1, 74, none⟩), .pointer (some ta), .int .u64 406], .agg #[.pointer (some ⟨1, 74, none⟩), .pointer (some b), .int .u64 150]]).run Tryz.prog W
      = .ok (.tuple #[]) (W.setCell ta (.pointer (some e))) := by
  rw [rls]
  simp only [Sem.run_bind, Asparts25a, Asparts25, Result.andThen]
  simp [ReflectliteValue.flagAddr, loadVar, isAgg, underlying, Tryz.underlying74, hb, Result.andThen, Asdirect25, storeVar, Value.cells, storeCells, Addr.add]
  rw [run_store Tryz.prog W ta _ _ (by rfl)]
  simp [ht, hf]

set_option maxRecDepth 100000 in
set_option maxHeartbeats 8000000 in
theorem as_hit (e t : Addr) (old : Value) (w : World) (hg : w.cell? ⟨0, 0, none⟩ = some (.iface 119 (.agg #[.pointer (some ⟨1, 59, none⟩)]))) (ht0 : w.cell? t = some old) (hf0 : w.frozen? t = false) :
    Calls Tryz.prog 56 #[.iface 74 (.pointer (some e)), .iface 80 (.pointer (some t))] w fun ev w' => ev = .returned (.bool true) ∧ w' = ((((w.alloc (.cells #[.pointer (some t)] 80)).alloc (.cells #[.pointer (some ⟨1, 80, none⟩), .pointer (some ⟨w.heap.size, 0, none⟩), .int .u64 150] 95)).alloc (.cells #[.pointer (some ⟨1, 80, none⟩), .pointer (some ⟨w.heap.size, 0, none⟩), .int .u64 150] 95)).alloc (.cells #[.pointer (some e)] 74)).setCell t (.pointer (some e)) := by
  have h6 := @run_callFunc_extern Tryz.prog 75 _ (fun args => ReflectliteValue.unpack (args.getD 0 (.tuple #[]))) Tryz.func75 (by kernel_rfl) (by kernel_rfl) (by kernel_rfl) (by kernel_rfl)
  have h7 := @run_callFunc_extern Tryz.prog 76 _ (ReflectliteValue.methodAny (ReflectliteValue.valueError "reflectlite.Value.Type" 0) (fun t _ _ _ => ReflectliteType.toType t)) Tryz.func76 (by kernel_rfl) (by kernel_rfl) (by kernel_rfl) (by kernel_rfl)
  have h8 := @run_callFunc_extern Tryz.prog 77 _ (ReflectliteValue.method (ReflectliteValue.valueError "reflectlite.Value.IsNil" 0) ReflectliteValue.isNil) Tryz.func77 (by kernel_rfl) (by kernel_rfl) (by kernel_rfl) (by kernel_rfl)
  have h27 := @run_callFunc_extern Tryz.prog 112 _ (ReflectliteType.abiMethod fun t => do pure (.int .u8 (← Rtype.kind t))) Tryz.func112 (by kernel_rfl) (by kernel_rfl) (by kernel_rfl) (by kernel_rfl)
  have h37 := @run_callFunc_extern Tryz.prog 122 _ (ReflectliteType.method ReflectliteType.elem) Tryz.func122 (by kernel_rfl) (by kernel_rfl) (by kernel_rfl) (by kernel_rfl)
  have h38 := @run_callFunc_extern Tryz.prog 123 _ (ReflectliteType.relation "Implements" ReflectliteType.implements_) Tryz.func123 (by kernel_rfl) (by kernel_rfl) (by kernel_rfl) (by kernel_rfl)
  have h10 := @run_callFunc_extern Tryz.prog 88 _ ReflectliteType.typeOf Tryz.func88 (by kernel_rfl) (by kernel_rfl) (by kernel_rfl) (by kernel_rfl)
  have h35 := @run_callFunc_extern Tryz.prog 120 _ (ReflectliteType.relation "AssignableTo" ReflectliteType.assignableTo) Tryz.func120 (by kernel_rfl) (by kernel_rfl) (by kernel_rfl) (by kernel_rfl)
  have h11 := @run_callFunc_extern Tryz.prog 89 _ (ReflectliteValue.method (ReflectliteValue.valueError "reflectlite.Value.Elem" 0) ReflectliteValue.elem) Tryz.func89 (by kernel_rfl) (by kernel_rfl) (by kernel_rfl) (by kernel_rfl)
  have h12 := @run_callFunc_extern Tryz.prog 90 _ ReflectliteValue.set Tryz.func90 (by kernel_rfl) (by kernel_rfl) (by kernel_rfl) (by kernel_rfl)
  have tO := AstypeOf25
  have mA := AsmethodAssignableTo
  have a25 := Asassignable25
  have v25 := AsvalueOf25
  have f6 := AsvalueOf27
  have f7 := Astype27
  have mK := AsmethodKind
  have mE := AsmethodElem
  have mI := AsmethodImplements
  have k27 := Askind27
  have k25 := Askind25
  have e27 := Aselem27
  have i25 := Asimplements25
  have n8 := AsisNil27 ⟨w.heap.size, 0, none⟩ t ((w.alloc (.cells #[.pointer (some t)] 80)).alloc (.cells #[.pointer (some ⟨1, 80, none⟩), .pointer (some ⟨w.heap.size, 0, none⟩), .int .u64 150] 95)) (by simp)
  have hlt : 0 < w.heap.size := by
    rcases Nat.eq_zero_or_pos w.heap.size with h0 | h
    · simp [World.cell?, h0] at hg
    · exact h
  have hg2 : ((w.alloc (.cells #[.pointer (some t)] 80)).alloc (.cells #[.pointer (some ⟨1, 80, none⟩), .pointer (some ⟨w.heap.size, 0, none⟩), .int .u64 150] 95)).cell? ⟨0, 0, none⟩ = some (.iface 119 (.agg #[.pointer (some ⟨1, 59, none⟩)])) := by
    rw [World.cell?_alloc_lt _ _ ⟨0, 0, none⟩ (by simp), World.cell?_alloc_lt _ _ ⟨0, 0, none⟩ hlt]; exact hg
  have htl : t.block < w.heap.size := by
    rcases Nat.lt_or_ge t.block w.heap.size with h | h
    · exact h
    · simp [World.cell?, Array.getElem?_eq_none h] at ht0
  have el := AselemV27 ⟨w.heap.size, 0, none⟩ t (((w.alloc (.cells #[.pointer (some t)] 80)).alloc (.cells #[.pointer (some ⟨1, 80, none⟩), .pointer (some ⟨w.heap.size, 0, none⟩), .int .u64 150] 95)).alloc (.cells #[.pointer (some ⟨1, 80, none⟩), .pointer (some ⟨w.heap.size, 0, none⟩), .int .u64 150] 95)) (by rw [World.cell?_alloc_lt _ _ ⟨w.heap.size, 0, none⟩ (by simp; omega)]; simp)
  have st := Asset25 t ⟨w.heap.size + 1 + 1 + 1, 0, none⟩ e old ((((w.alloc (.cells #[.pointer (some t)] 80)).alloc (.cells #[.pointer (some ⟨1, 80, none⟩), .pointer (some ⟨w.heap.size, 0, none⟩), .int .u64 150] 95)).alloc (.cells #[.pointer (some ⟨1, 80, none⟩), .pointer (some ⟨w.heap.size, 0, none⟩), .int .u64 150] 95)).alloc (.cells #[.pointer (some e)] 74))
    (by rw [World.cell?_alloc_at _ _ _ _ (by simp)]; rfl)
    (by rw [World.cell?_alloc_lt _ _ t (by simp; omega), World.cell?_alloc_lt _ _ t (by simp; omega), World.cell?_alloc_lt _ _ t (by simp; omega), World.cell?_alloc_lt _ _ t htl]; exact ht0)
    (by rw [World.frozen?_alloc_old _ _ t (by simp; omega), World.frozen?_alloc_old _ _ t (by simp; omega), World.frozen?_alloc_old _ _ t (by simp; omega), World.frozen?_alloc_old _ _ t (Nat.ne_of_lt htl)]; exact hf0)
  go_enter Tryz.func56, Tryz.ntmps56
  go_wp2
  refine wp_loop_rounds 1 ?_
  rw [rounds_succ]
  go_wp2
  go_ret
  exact ⟨rfl, rfl⟩

end GvAs

/- journal.code: by errors.As. -/
namespace GvAs
open Go Go.Proofs Go.RowKit Go.Extern.Stop Go.Stop Go.Extern
set_option linter.unusedVariables false
set_option linter.unusedSimpArgs false

set_option maxRecDepth 100000 in
set_option maxHeartbeats 8000000 in
theorem code_nil (w : World) : Calls Tryz.prog 32 #[.nilIface] w fun ev w' => ev = .returned (.int .i64 0) ∧ w' = w.alloc (.cells #[.pointer none] 74) := by
  go_enter Tryz.func32, Tryz.ntmps32
  go_wp2_with (first | (go_at_call 56; refine (as_nil _ _).mono ?_; rintro e w' ⟨rfl, rfl⟩))
  go_ret
  exact ⟨rfl, rfl⟩

set_option maxRecDepth 100000 in
set_option maxHeartbeats 8000000 in
theorem code_hit (b off : Nat) (c : Int) (w : World) (hg : w.cell? ⟨0, 0, none⟩ = some (.iface 119 (.agg #[.pointer (some ⟨1, 59, none⟩)]))) (he : w.cell? ⟨b, off, none⟩ = some (.int .i64 c)) : Calls Tryz.prog 32 #[.iface 74 (.pointer (some ⟨b, off, none⟩))] w fun ev w' => ev = .returned (.int .i64 c) ∧ Below w.heap.size w w' := by
  have hlt : 0 < w.heap.size := by
    rcases Nat.eq_zero_or_pos w.heap.size with h0 | h
    · simp [World.cell?, h0] at hg
    · exact h
  have hel : b < w.heap.size := by
    rcases Nat.lt_or_ge b w.heap.size with h | h
    · exact h
    · simp [World.cell?, Array.getElem?_eq_none h] at he
  have hgA : (w.alloc (.cells #[.pointer none] 74)).cell? ⟨0, 0, none⟩ = some (.iface 119 (.agg #[.pointer (some ⟨1, 59, none⟩)])) := by
    rw [World.cell?_alloc_lt _ _ ⟨0, 0, none⟩ hlt]; exact hg
  have htA : (w.alloc (.cells #[.pointer none] 74)).cell? ⟨w.heap.size, 0, none⟩ = some (.pointer none) := by simp
  have hfA : (w.alloc (.cells #[.pointer none] 74)).frozen? ⟨w.heap.size, 0, none⟩ = false := by simp
  go_enter Tryz.func32, Tryz.ntmps32
  have ha := as_hit ⟨b, off, none⟩ ⟨w.heap.size, 0, none⟩ (.pointer none) _ hgA htA hfA
  obtain ⟨W, hW⟩ : ∃ W, W = (((((w.alloc (.cells #[.pointer none] 74)).alloc (.cells #[.pointer (some ⟨w.heap.size, 0, none⟩)] 80)).alloc (.cells #[.pointer (some ⟨1, 80, none⟩), .pointer (some ⟨(w.alloc (.cells #[.pointer none] 74)).heap.size, 0, none⟩), .int .u64 150] 95)).alloc (.cells #[.pointer (some ⟨1, 80, none⟩), .pointer (some ⟨(w.alloc (.cells #[.pointer none] 74)).heap.size, 0, none⟩), .int .u64 150] 95)).alloc (.cells #[.pointer (some ⟨b, off, none⟩)] 74)).setCell ⟨w.heap.size, 0, none⟩ (.pointer (some ⟨b, off, none⟩)) := ⟨_, rfl⟩
  rw [← hW] at ha
  have c1 : W.cell? ⟨b, off, none⟩ = some (.int .i64 c) := by
    rw [hW, World.cell?_setCell_other _ _ _ _ (by intro e; injection e with e1 e2 e3; omega)]
    rw [World.cell?_alloc_lt _ _ ⟨b, off, none⟩ (by simp; omega), World.cell?_alloc_lt _ _ ⟨b, off, none⟩ (by simp; omega), World.cell?_alloc_lt _ _ ⟨b, off, none⟩ (by simp; omega), World.cell?_alloc_lt _ _ ⟨b, off, none⟩ (by simp; omega), World.cell?_alloc_lt _ _ ⟨b, off, none⟩ hel]
    exact he
  have c2 : W.cell? ⟨w.heap.size, 0, none⟩ = some (.pointer (some ⟨b, off, none⟩)) := by
    rw [hW]
    refine World.cell?_setCell_same (u := .pointer none) _ _ _ ?_
    rw [World.cell?_alloc_lt _ _ ⟨w.heap.size, 0, none⟩ (by simp; omega), World.cell?_alloc_lt _ _ ⟨w.heap.size, 0, none⟩ (by simp; omega), World.cell?_alloc_lt _ _ ⟨w.heap.size, 0, none⟩ (by simp; omega), World.cell?_alloc_lt _ _ ⟨w.heap.size, 0, none⟩ (by simp)]
    exact htA
  have c3 : Below w.heap.size w W := by
    rw [hW]
    refine (((((Below.refl _ w).alloc (Nat.le_refl _) _).alloc (by simp) _).alloc (by simp; omega) _).alloc (by simp; omega) _ |>.alloc (by simp; omega) _).setCell (Nat.le_refl _) _
  clear hW
  go_wp2_with (first | (go_at_call 56; refine ha.mono ?_; rintro e w' ⟨rfl, rfl⟩))
  go_ret
  exact ⟨rfl, c3⟩
end GvAs

/- journal.code: its contracts. -/
namespace Gv
open Go Go.Proofs
set_option linter.unusedVariables false
set_option linter.unusedSectionVars false
set_option linter.unusedSimpArgs false

abbrev journal_code.hdl : Value := .iface 119 (.agg #[.pointer (some ⟨1, 59, none⟩)])
instance laidI : GlobI := ⟨some journal_code.hdl⟩

/-- A number comes back. -/
theorem ended_int {E : Env} {w w' : World} {av : List AV} {σ : List Ob} {μ : Nat → Option Value} {vs : List Value} (hr : Rel ⟨w, E.Rb, E.ok0⟩ av σ μ vs w) (hB : RowKit.Below w.heap.size w w') (R : Sig) (x : R.V) (c : Int)
    (h1 : (R.put x).slots = [.dat (.int .i64) c]) (h2 : (R.put x).σ = []) (args : List Value) : Ended ⟨w, E.Rb, E.ok0⟩ args w' (.returned (.int .i64 c)) .ret (R.put x) := by
  refine ⟨fun _ => none, ?_⟩
  rw [h1, h2]
  exact {
    vals := RVL.cons' (by simp [RV, Sh.C]) (RVL.nil_iff.2 (by simp))
    objs := fun t o ht => by simp at ht
    dist := fun t t' b h => by obtain ⟨o, v, h, _⟩ := h; simp at h
    own := fun t b h => by obtain ⟨o, v, h, _⟩ := h; simp at h
    dom := fun t v h => by cases h
    frm := hr.frm.below hB }

theorem f16_at : Tryz.prog.funcs[32]? = some Tryz.f32 := by kernel_rfl
theorem f16_nm : (Tryz.f32.name == "runtime.NumGoroutine") = false := by kernel_rfl
theorem f16_bd : Tryz.f32.body.isNone = false := by kernel_rfl

abbrev journal_codeN.A : Sig := ⟨1, [], .nilL, [0], .cons .nili .nilL⟩
abbrev journal_codeN.R0 : Sig := ⟨1, [], .nilL, [0], .cons (.v (.int .i64)) .nilL⟩
abbrev journal_codeN.outs : List Out := [⟨.ret, journal_codeN.R0, Int, fun y => ((), (y, ())), fun x => x.2.1⟩]
def journal_codeN.f (k : Nat) : Option Int := some 0
abbrev journal_codeN.E (k : Nat) : Ent := ⟨journal_codeN.A, journal_codeN.outs, fun x => journal_codeN.f k⟩
theorem journal_codeN.sat (k : Nat) : Sat Tryz.prog 32 (journal_codeN.E k) where
  fn := ⟨Tryz.f32, f16_at, f16_nm, f16_bd⟩
  run := by
    intro x y h w Rb ok0 μ args hr
    simp only [journal_codeN.f, Option.some.injEq] at h
    subst h
    obtain ⟨v, r, rfl, g1, g2⟩ := RVL.cons_iff.1 (show RVL _ _ _ [.cst .nilIface] _ from hr.vals)
    have := RVL.nil_iff.1 g2; subst this
    simp only [RV] at g1
    obtain ⟨rfl, _⟩ := g1
    refine (GvAs.code_nil w).mono ?_
    rintro en w' ⟨rfl, rfl⟩
    exact ended_int (E := ⟨w, Rb, ok0⟩) hr (below_alloc w _) journal_codeN.R0 ((), (0, ())) 0 rfl rfl _

abbrev journal_code.A : Sig := ⟨1, [], .nilL, [0], .cons (.ifc 74 (.cp (.cons (.v (.int .i64)) .nilL))) .nilL⟩
abbrev journal_code.outs : List Out := journal_codeN.outs
def journal_code.f (k : Nat) (c : Int) : Option Int := some c
abbrev journal_code.E (k : Nat) : Ent := ⟨journal_code.A, journal_code.outs, fun x => journal_code.f k x.2.1.1⟩
theorem journal_code.sat (k : Nat) : Sat Tryz.prog 32 (journal_code.E k) where
  fn := ⟨Tryz.f32, f16_at, f16_nm, f16_bd⟩
  run := by
    intro x y h w Rb ok0 μ args hr
    obtain ⟨u1, ⟨c, u2⟩, u3⟩ := x
    simp only [journal_code.f, Option.some.injEq] at h
    subst h
    obtain ⟨v, r, rfl, g1, g2⟩ := RVL.cons_iff.1 (show RVL _ _ _ [.ifc 74 (.cptr [.dat (.int .i64) c])] _ from hr.vals)
    have := RVL.nil_iff.1 g2; subst this
    simp only [RV] at g1
    obtain ⟨p, rfl, b, off, cs, rfl, hb, hcs, g3⟩ := g1
    obtain ⟨v1, r1, rfl, g4, g5⟩ := RVL.cons_iff.1 g3
    simp only [RV, Sh.C, List.cons.injEq, and_true] at g4
    subst g4
    have he : w.cell? ⟨b, off, none⟩ = some (.int .i64 c) := by simpa using hcs 0 (.int .i64 c) (by simp)
    obtain ⟨_, _, hg⟩ := hr.frm.glob journal_code.hdl rfl
    refine (GvAs.code_hit b off c w hg he).mono ?_
    rintro en w' ⟨rfl, hB⟩
    exact ended_int (E := ⟨w, Rb, ok0⟩) hr hB journal_codeN.R0 ((), (c, ())) c rfl rfl _
end Gv
