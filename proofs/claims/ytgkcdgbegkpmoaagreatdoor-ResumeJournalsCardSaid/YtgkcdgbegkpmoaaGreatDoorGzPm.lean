/- Plain laws: numbers read, by the program and by the reference. -/
import Derived.Test.YtgkcdgbegkpmoaaGreatDoorGzPl
namespace Gv
open Go
set_option linter.unusedVariables false
set_option linter.unusedSimpArgs false

theorem decode_both {k : Nat} (x : Nd) (hk : x.sz + 100 < k) (hf : Fit x) : ∃ e ok, resume_Decode.f k x.tag x.kind x.n x.s x.kids = some (decR e ok) ∧ ref52_Decode.f k x.tag x.kind x.n x.s x.kids = some (decR e ok) ∧ (ok = true → e.Ok ∧ x = encN e) := by
  obtain ⟨ok1, d1, i1⟩ := decode_spec (k := k) x (by omega) hf
  by_cases h2 : 2 ≤ x.kids.length
  · obtain ⟨ok2, d2, i2⟩ := ref_decode_spec (k := k) x (by omega) hf h2
    cases h1 : ok1 with
    | true =>
      obtain ⟨o1, v1, e1⟩ := i1.1 h1
      have hp : pos x.kids = gss x.kids := by
        have := pos_enc o1
        rwa [← encN_kids e1] at this
      have : ok2 = true := i2.2 (by rw [hp]; exact ⟨o1, v1, e1⟩)
      subst this
      exact ⟨gss x.kids, true, by rw [d1, h1], by rw [d2, hp], fun _ => ⟨o1, e1⟩⟩
    | false =>
      have : ok2 = false := by
        cases h3 : ok2 with
        | false => rfl
        | true =>
          exfalso
          obtain ⟨o2, v2, e2⟩ := i2.1 h3
          have hp : gss x.kids = pos x.kids := by
            have := gss_enc o2
            rwa [← encN_kids e2] at this
          have : ok1 = true := i1.2 (by rw [hp]; exact ⟨o2, v2, e2⟩)
          rw [h1] at this; cases this
      subst this
      refine ⟨gss x.kids, false, by rw [d1, h1], ?_, fun h => by cases h⟩
      rw [d2]; rfl
  · have h1 : ok1 = false := by
      cases h3 : ok1 with
      | false => rfl
      | true =>
        exfalso
        obtain ⟨_, _, e1⟩ := i1.1 h3
        have := encKids_len (gss x.kids)
        rw [← encN_kids e1] at this
        exact h2 this
    subst h1
    have d0 : decide ((x.kids.length : Int) < 2) = true := by simp; omega
    refine ⟨gss x.kids, false, d1, ?_, fun h => by cases h⟩
    rw [ref52_Decode.f]
    simp only [d0, cond_true]
    rfl

/-- A number, read off bytes: the number and the rest. -/
def rdV (first : Bool) : Nat → List Int → Option (Int × List Int)
  | _, [] => none
  | 0, c :: t => if c = 1 ∨ (c = 0 ∧ first = true) then some (c, t) else none
  | d + 1, c :: t => if c = 0 ∧ first = false then none else if c < 128 then some (c, t) else (rdV false d t).bind fun x => some (c - 128 + 128 * x.1, x.2)

theorem rdV_canon : ∀ (d : Nat) (first : Bool) (l : List Int) (y : Int) (r : List Int), IsB l → rdV first d l = some (y, r) → l = vi d y ++ r ∧ 0 ≤ y ∧ (first = false → 1 ≤ y) ∧ y < 2 * 128 ^ d
  | d, first, [], y, r, _, h => by cases d <;> simp [rdV] at h
  | 0, first, c :: t, y, r, hb, h => by
    simp only [rdV] at h
    split at h
    · rename_i hc
      cases h
      rcases hc with rfl | ⟨rfl, rfl⟩ <;> simp [vi]
    · cases h
  | d + 1, first, c :: t, y, r, hb, h => by
    have hc := hb c (by simp)
    have hp : (1 : Int) ≤ 128 ^ d := by
      have : (0 : Int) < 128 ^ d := Int.pow_pos (by omega)
      omega
    have e : (2 : Int) * 128 ^ (d + 1) = 128 * (2 * 128 ^ d) := by rw [Int.pow_succ]; omega
    simp only [rdV] at h
    split at h
    · cases h
    · rename_i hc0
      split at h
      · cases h
        refine ⟨by unfold vi; rw [if_pos (by omega)]; rfl, hc.1, fun hf => ?_, ?_⟩
        · have : ¬ c = 0 := fun h0 => hc0 ⟨h0, hf⟩
          have := hc.1
          omega
        · rw [e]; omega
      · obtain ⟨x, h1, h2⟩ := Option.bind_eq_some_iff.1 h
        cases h2
        obtain ⟨g1, g2, g3, g4⟩ := rdV_canon d false t x.1 x.2 (fun z hz => hb z (by simp [hz])) h1
        have g3 := g3 rfl
        refine ⟨?_, by omega, fun _ => by omega, ?_⟩
        · unfold vi
          rw [if_neg (by omega)]
          have e1 : (c - 128 + 128 * x.1) % 128 + 128 = c := by omega
          have e2 : (c - 128 + 128 * x.1) / 128 = x.1 := by omega
          rw [e1, e2, List.cons_append, ← g1]
        · rw [e]; generalize (2 : Int) * 128 ^ d = z at g4 ⊢; omega

theorem next_end (k : Nat) {b : List Int} (hb : b.length ≤ 1000000) : codec_decoder_next.f k b (b.length : Int) = some (.inr (b, (b.length : Int), 4)) := by
  unfold codec_decoder_next.f codec_decoder_next.j6
  rw [decide_eq_false (show ¬ (b.length : Int) ≥ 1048576 by omega)]
  simp only [cond_false, Option.bind_some]
  rw [decide_eq_true (show (b.length : Int) ≥ (b.length : Int) by omega)]
  rfl

/-- Where no number can be read, the program says so. -/
theorem codeV_none {k : Nat} : ∀ (d i q : Nat) (acc : Int) (pre l : List Int), d + i = 9 → d + 1 < q → IsB l → (pre ++ l).length ≤ 1000000 → rdV (decide (i = 0)) d l = none →
    ∃ u e, codec_decoder_varint.l58 k q (pre ++ l) (pre.length : Int) acc (i : Int) = some (.inr (pre ++ l, u, e)) ∧ e ≠ 0
  | d, i, q + 1, acc, pre, [], hdi, hq, hb, hl, h => by
    unfold codec_decoder_varint.l58
    rw [decide_eq_true (show (i : Int) < 10 by omega), cond_true]
    have e0 : (pre.length : Int) = ((pre ++ []).length : Int) := by simp
    rw [e0, next_end k hl]
    exact ⟨_, 4, rfl, by decide⟩
  | d, i, q + 1, acc, pre, c :: t, hdi, hq, hb, hl, h => by
    have hc := hb c (by simp)
    unfold codec_decoder_varint.l58
    rw [decide_eq_true (show (i : Int) < 10 by omega), cond_true, next_spec k (c := c) (by simp) hl]
    simp only [Option.bind_some]
    have e7 : IntKind.wrap .i64 (7 * (i : Int)) = ((7 * i : Nat) : Int) := by rw [wrap64 (by omega) (by omega)]; omega
    have e1 : IntKind.wrap .i64 ((i : Int) + 1) = ((i + 1 : Nat) : Int) := by rw [wrap64 (by omega) (by omega)]; rfl
    have eb : pre ++ c :: t = (pre ++ [c]) ++ t := by simp
    have el : ((pre.length + 1 : Nat) : Int) = ((pre ++ [c]).length : Int) := by simp
    rcases Nat.eq_zero_or_pos i with rfl | hi
    · -- the first byte
      obtain ⟨d, rfl⟩ : ∃ d', d = d' + 1 := ⟨d - 1, by omega⟩
      simp only [rdV, decide_true, Bool.true_eq_false, and_false, if_false] at h
      have h9 : (((0 : Nat) : Int) == 9) = false := rfl
      have h0 : decide (((0 : Nat) : Int) > 0) = false := rfl
      rw [h9, h0]
      have hcz : (cond (c == 0) (some false) (some false) : Option Bool) = some false := by cases (c == 0) <;> rfl
      simp only [cond_false, Option.bind_some, hcz]
      rw [decide_eq_false (show ¬ IntKind.wrap .i64 (7 * ((0 : Nat) : Int)) < 0 by rw [e7]; omega)]
      simp only [cond_false]
      split at h
      · cases h
      · rename_i hlt
        rw [decide_eq_false (show ¬ c < 128 by omega), cond_false]
        have hn : rdV false d t = none := by
          cases hr : rdV false d t with
          | none => rfl
          | some x => rw [hr] at h; cases h
        rw [e1, eb, el]
        obtain ⟨u, e, g1, g2⟩ := codeV_none (k := k) d 1 q _ (pre ++ [c]) t (by omega) (by omega) (fun z hz => hb z (by simp [hz])) (by rw [← eb]; exact hl) (by simpa using hn)
        exact ⟨u, e, g1, g2⟩
    · have hf : decide (i = 0) = false := by simp; omega
      rw [hf] at h
      cases d with
      | zero =>
        simp only [rdV, Bool.false_eq_true, and_false, or_false] at h
        have hi9 : i = 9 := by omega
        subst hi9
        have h9 : (((9 : Nat) : Int) == 9) = true := rfl
        have h0 : decide (((9 : Nat) : Int) > 0) = true := rfl
        rw [h9, h0]
        split at h
        · cases h
        · rename_i hc1
          by_cases hz : c = 0
          · subst hz
            rw [decide_eq_false (show ¬ (0 : Int) > 1 by omega)]
            exact ⟨_, _, rfl, by decide⟩
          · rw [decide_eq_true (show c > 1 by omega)]
            exact ⟨_, _, rfl, by decide⟩
      | succ d =>
        simp only [rdV] at h
        have h9 : ((i : Int) == 9) = false := by simp; omega
        have h0 : decide ((i : Int) > 0) = true := by simp; omega
        rw [h9, h0]
        by_cases hz : c = 0
        · subst hz
          exact ⟨_, _, rfl, by decide⟩
        · rw [if_neg (by simp [hz])] at h
          have hcz : (c == 0) = false := by simp [hz]
          rw [hcz]
          simp only [cond_false, Option.bind_some]
          rw [decide_eq_false (show ¬ IntKind.wrap .i64 (7 * (i : Int)) < 0 by rw [e7]; omega)]
          simp only [cond_false]
          split at h
          · cases h
          · rename_i hlt
            rw [decide_eq_false (show ¬ c < 128 by omega), cond_false]
            have hn : rdV false d t = none := by
              cases hr : rdV false d t with
              | none => rfl
              | some x => rw [hr] at h; cases h
            rw [e1, eb, el]
            exact codeV_none (k := k) d (i + 1) q _ (pre ++ [c]) t (by omega) (by omega) (fun z hz => hb z (by simp [hz])) (by rw [← eb]; exact hl) (by simpa using hn)
  | _, _, 0, _, _, _, _, h, _, _, _ => by omega

/-- What a number read is: the program. -/
theorem codeV {k : Nat} (hk : 12 ≤ k) {b pre l : List Int} (hb : b = pre ++ l) (hB : IsB l) (hl : b.length ≤ 1000000) :
    (∃ y r, rdV true 9 l = some (y, r) ∧ codec_decoder_varint.f k b (pre.length : Int) = some (.inl (b, ((pre ++ vi 9 y).length : Int), y)) ∧ l = vi 9 y ++ r ∧ 0 ≤ y ∧ y < 18446744073709551616) ∨
    (rdV true 9 l = none ∧ ∃ u e, codec_decoder_varint.f k b (pre.length : Int) = some (.inr (b, u, e)) ∧ e ≠ 0) := by
  cases h : rdV true 9 l with
  | some x =>
    obtain ⟨y, r⟩ := x
    left
    obtain ⟨g1, g2, _, g4⟩ := rdV_canon 9 true l y r hB h
    have g4 : y < 18446744073709551616 := g4
    exact ⟨y, r, rfl, varint_at hk g2 g4 (rest := r) (by rw [hb, g1]) hl, g1, g2, g4⟩
  | none =>
    right
    subst hb
    obtain ⟨u, e, h1, h2⟩ := codeV_none (k := k) 9 0 k 0 pre l rfl (by omega) hB hl h
    refine ⟨rfl, u, e, ?_, h2⟩
    rw [show ((0 : Nat) : Int) = 0 from rfl] at h1
    rw [codec_decoder_varint.f, h1]
    rfl
end Gv

/- Plain laws: numbers read by the reference. -/
namespace Gv
open Go
set_option linter.unusedVariables false
set_option linter.unusedSimpArgs false

theorem vi_succ (d : Nat) (x : Int) : vi (d + 1) x = if x ≤ 127 then [x] else (x % 128 + 128) :: vi d (x / 128) := rfl
theorem need_spec (k : Nat) {b : List Int} (hl : b.length ≤ 1000000) {p n : Nat} (hp : p ≤ b.length) (hn : n ≤ 1000000) : ref10_need.f k b (p : Int) (n : Int) = some (if n ≤ b.length - p then 0 else 4) := by
  unfold ref10_need.f
  rw [if_neg (show ¬ (1048576 : Int) < (b.length : Int) by omega), wrap64 (by omega) (by omega)]
  by_cases h : n ≤ b.length - p
  · rw [decide_eq_true (show (n : Int) ≤ (b.length : Int) - (p : Int) by omega), if_pos h]; rfl
  · rw [decide_eq_false (show ¬ (n : Int) ≤ (b.length : Int) - (p : Int) by omega), decide_eq_false (show ¬ (b.length : Int) > 1048576 by omega), if_neg h]; rfl

theorem rvstep {i : Nat} (hi : i ≤ 9) {acc c P : Int} (hP : P = 2 ^ (7 * i)) (h0 : 0 ≤ acc) (hc0 : 0 ≤ c) (hc1 : c < 256) (hP0 : 0 < P) (hq : acc + (c % 128) * P < 18446744073709551616) :
    IntKind.wrap .u64 (acc + (IntKind.wrap .u64 ((Int.tmod (IntKind.wrap .u64 c) 128) * 2 ^ (min (Int.toNat (IntKind.wrap .u64 (IntKind.wrap .i64 (7 * (i : Int))))) 64)))) = acc + (c % 128) * P := by
  have e1 : IntKind.wrap .u64 (IntKind.wrap .i64 (7 * (i : Int))) = ((7 * i : Nat) : Int) := by rw [wrap64 (by omega) (by omega), wrapu64]; omega
  have hn : 0 ≤ (c % 128) * P := Int.mul_nonneg (by omega) (by omega)
  have ec : IntKind.wrap .u64 c = c := by rw [wrapu64]; omega
  rw [e1, ec, Int.toNat_natCast, Nat.min_eq_left (by omega), Int.tmod_eq_emod_of_nonneg hc0, ← hP, wrapu64 ((c % 128) * P), Int.emod_eq_of_lt hn (by omega), wrapu64, Int.emod_eq_of_lt (by omega) hq]

theorem refV_loop {k : Nat} : ∀ (d i q : Nat) (acc P : Int) (pre l : List Int), d + i = 9 → d + 1 < q → IsB l → (pre ++ l).length ≤ 1000000 → P = 2 ^ (7 * i) → P * (2 * 128 ^ d) = 18446744073709551616 → 0 ≤ acc → acc < P →
    match rdV (decide (i = 0)) d l with
    | some x => ref10_number.l58 k q (pre ++ l) (pre.length : Int) acc (i : Int) = some (.inr (acc + x.1 * P, ((pre ++ vi d x.1).length : Int), 0))
    | none => ∃ u v e, ref10_number.l58 k q (pre ++ l) (pre.length : Int) acc (i : Int) = some (.inr (u, v, e)) ∧ e ≠ 0
  | d, i, q + 1, acc, P, pre, [], hdi, hq, hb, hl, hP, hPQ, h0, h1 => by
    have : rdV (decide (i = 0)) d [] = none := by cases d <;> rfl
    rw [this]
    simp only
    unfold ref10_number.l58
    have hnd := need_spec k hl (p := pre.length) (n := 1) (by simp) (by omega)
    rw [if_neg (by simp), show ((1 : Nat) : Int) = 1 from rfl] at hnd
    rw [decide_eq_true (show (i : Int) < 10 by omega), cond_true, hnd]
    exact ⟨0, 0, 4, rfl, by decide⟩
  | d, i, q + 1, acc, P, pre, c :: t, hdi, hq, hb, hl, hP, hPQ, h0, h1 => by
    have hc := hb c (by simp)
    have hP0 : 0 < P := by omega
    have hnd := need_spec k hl (p := pre.length) (n := 1) (by simp) (by omega)
    rw [if_pos (by simp), show ((1 : Nat) : Int) = 1 from rfl] at hnd
    have hin : inB (pre.length : Int) (pre ++ c :: t).length = true := inB_ok (by simp)
    have hrd : rdL (.int .u8) (pre ++ c :: t) (pre.length : Int) = c := rdL_ok (e := .int .u8) (l := pre ++ c :: t) (i := pre.length) (x := c) (by simp)
    have e1 : IntKind.wrap .i64 ((i : Int) + 1) = ((i + 1 : Nat) : Int) := by rw [wrap64 (by omega) (by omega)]; rfl
    have e2 : IntKind.wrap .i64 ((pre.length : Int) + 1) = ((pre ++ [c]).length : Int) := by
      have : pre.length ≤ 1000000 := by simp at hl; omega
      rw [wrap64 (by omega) (by omega)]; simp
    have e3 : IntKind.wrap .u64 (IntKind.wrap .i64 (7 * (i : Int))) = ((7 * i : Nat) : Int) := by rw [wrap64 (by omega) (by omega), wrapu64]; omega
    have eb : pre ++ c :: t = (pre ++ [c]) ++ t := by simp
    have ec : IntKind.wrap .u64 c = c := by rw [wrapu64]; omega
    have hpow : (1 : Int) ≤ 128 ^ d := by
      have : (0 : Int) < 128 ^ d := Int.pow_pos (by omega)
      omega
    have hval : IntKind.wrap .u64 (acc + (IntKind.wrap .u64 ((Int.tmod (IntKind.wrap .u64 (rdL (.int .u8) (pre ++ c :: t) (pre.length : Int))) 128) * 2 ^ (min (Int.toNat (IntKind.wrap .u64 (IntKind.wrap .i64 (7 * (i : Int))))) 64)))) = acc + (c % 128) * P ∨ 2 * 128 ^ d ≤ c % 128 := by
      by_cases hq' : c % 128 < 2 * 128 ^ d
      · left
        have hm : (c % 128) * P ≤ (2 * 128 ^ d - 1) * P := Int.mul_le_mul_of_nonneg_right (by omega) (by omega)
        rw [Int.sub_mul, Int.one_mul, Int.mul_comm (2 * 128 ^ d) P, hPQ] at hm
        rw [hrd]
        exact rvstep (by omega) hP h0 hc.1 hc.2 hP0 (by omega)
      · right; omega
    unfold ref10_number.l58
    rw [decide_eq_true (show (i : Int) < 10 by omega), cond_true, hnd]
    simp only [Option.bind_some, bne_self_eq_false, cond_false]
    rw [hin, cond_true]
    rw [show (decide (IntKind.wrap .u64 (rdL (.int .u8) (pre ++ c :: t) (pre.length : Int)) > 1)) = decide (c > 1) by rw [hrd, ec], show ((IntKind.wrap .u64 (rdL (.int .u8) (pre ++ c :: t) (pre.length : Int))) == 0) = (c == 0) by rw [hrd, ec], show (decide (IntKind.wrap .u64 (rdL (.int .u8) (pre ++ c :: t) (pre.length : Int)) < 128)) = decide (c < 128) by rw [hrd, ec]]
    rw [decide_eq_false (show ¬ IntKind.wrap .u64 (IntKind.wrap .i64 (7 * (i : Int))) < 0 by rw [e3]; omega)]
    simp only [cond_false]
    cases d with
    | zero =>
      have hi9 : i = 9 := by omega
      subst hi9
      simp only [show decide ((9 : Nat) = 0) = false from rfl, rdV, Bool.false_eq_true, and_false, or_false]
      rw [show (((9 : Nat) : Int) == 9) = true from rfl, show decide (((9 : Nat) : Int) > 0) = true from rfl]
      by_cases hc1 : c = 1
      · subst hc1
        rw [if_pos rfl]
        rcases hval with hval | hval
        · rw [hval]
          simp only [show decide ((1 : Int) > 1) = false from rfl, show ((1 : Int) == 0) = false from rfl, show decide ((1 : Int) < 128) = true from rfl, cond_true, cond_false, Option.bind_some]
          rw [e2]
          simp [vi]
        · simp at hval
      · rw [if_neg hc1]
        by_cases hz : c = 0
        · subst hz
          exact ⟨0, 0, 2, rfl, by decide⟩
        · rw [decide_eq_true (show c > 1 by omega)]
          exact ⟨0, 0, 2, rfl, by decide⟩
    | succ d =>
      have h9 : ((i : Int) == 9) = false := by simp; omega
      rw [h9]
      have hpow' : (1 : Int) ≤ 128 ^ d := by
        have : (0 : Int) < 128 ^ d := Int.pow_pos (by omega)
        omega
      have hval' : IntKind.wrap .u64 (acc + (IntKind.wrap .u64 ((Int.tmod (IntKind.wrap .u64 (rdL (.int .u8) (pre ++ c :: t) (pre.length : Int))) 128) * 2 ^ (min (Int.toNat (IntKind.wrap .u64 (IntKind.wrap .i64 (7 * (i : Int))))) 64)))) = acc + (c % 128) * P := by
        rcases hval with h | h
        · exact h
        · exfalso
          rw [Int.pow_succ] at h
          omega
      rw [hval', e2]
      simp only [rdV]
      by_cases hz : c = 0 ∧ decide (i = 0) = false
      · rw [if_pos hz]
        have hi0 : decide ((i : Int) > 0) = true := by
          have := hz.2
          simp at this
          simp; omega
        rw [hi0, hz.1]
        exact ⟨0, 0, 2, rfl, by decide⟩
      · rw [if_neg hz]
        have hcz : (cond (decide ((i : Int) > 0)) (some (c == 0)) (some false) : Option Bool) = some false := by
          by_cases hi0 : i = 0
          · subst hi0; rfl
          · have : ¬ c = 0 := fun h => hz ⟨h, by simp [hi0]⟩
            rw [decide_eq_true (show (i : Int) > 0 by omega), show (c == 0) = false by simp [this]]; rfl
        simp only [hcz, cond_false, Option.bind_some]
        by_cases hlt : c < 128
        · rw [if_pos hlt, decide_eq_true hlt]
          simp only [cond_true]
          have ev : vi (d + 1) c = [c] := by unfold vi; rw [if_pos (by omega)]
          rw [ev, show c % 128 = c by omega]
        · rw [if_neg hlt, decide_eq_false hlt]
          simp only [cond_false]
          have hm : (c % 128) * P ≤ 127 * P := Int.mul_le_mul_of_nonneg_right (by omega) (by omega)
          have hm0 : 0 ≤ (c % 128) * P := Int.mul_nonneg (by omega) (by omega)
          have hPQ' : P * 128 * (2 * 128 ^ d) = 18446744073709551616 := by
            rw [← hPQ, Int.pow_succ, Int.mul_assoc]
            congr 1
            omega
          have := refV_loop (k := k) d (i + 1) q (acc + (c % 128) * P) (P * 128) (pre ++ [c]) t (by omega) (by omega) (fun z hz => hb z (by simp [hz])) (by rw [← eb]; exact hl) (by rw [hP, show 7 * (i + 1) = 7 * i + 7 by omega, Int.pow_add]; rfl) hPQ' (by omega) (by omega)
          rw [show decide (i + 1 = 0) = false from by simp, ← eb] at this
          rw [e1]
          cases hr : rdV false d t with
          | none => rw [hr] at this; exact this
          | some x =>
            rw [hr] at this
            obtain ⟨y, r⟩ := x
            simp only [Option.bind_some] at this ⊢
            rw [this]
            obtain ⟨g1, g2, g3, g4⟩ := rdV_canon d false t y r (fun z hz => hb z (by simp [hz])) hr
            have g3 := g3 rfl
            have ev : vi (d + 1) (c - 128 + 128 * y) = c :: vi d y := by
              rw [vi_succ, if_neg (by omega)]
              have a1 : (c - 128 + 128 * y) % 128 + 128 = c := by omega
              have a2 : (c - 128 + 128 * y) / 128 = y := by omega
              rw [a1, a2]
            rw [ev]
            have el : (pre ++ [c] ++ vi d y).length = (pre ++ c :: vi d y).length := by simp
            rw [el]
            have eq : acc + c % 128 * P + y * (P * 128) = acc + (c - 128 + 128 * y) * P := by
              have a1 : c % 128 = c - 128 := by omega
              rw [a1, Int.add_mul (c - 128) (128 * y) P, Int.add_assoc]
              congr 2
              rw [← Int.mul_assoc, Int.mul_comm (y * P) 128, ← Int.mul_assoc]
            rw [eq]
  | _, _, 0, _, _, _, _, _, h, _, _, _, _, _, _ => by omega

/-- What a number read is: the reference. -/
theorem refV {k : Nat} (hk : 12 ≤ k) {b pre l : List Int} (hb : b = pre ++ l) (hB : IsB l) (hl : b.length ≤ 1000000) :
    match rdV true 9 l with
    | some x => ref10_number.f k b (pre.length : Int) = some (x.1, ((pre ++ vi 9 x.1).length : Int), 0)
    | none => ∃ u v e, ref10_number.f k b (pre.length : Int) = some (u, v, e) ∧ e ≠ 0 := by
  subst hb
  have := refV_loop (k := k) 9 0 k 0 1 pre l rfl (by omega) hB hl rfl rfl (by omega) (by omega)
  rw [show decide ((0 : Nat) = 0) = true from rfl, show ((0 : Nat) : Int) = 0 from rfl] at this
  cases hr : rdV true 9 l with
  | none =>
    rw [hr] at this
    obtain ⟨u, v, e, h1, h2⟩ := this
    exact ⟨u, v, e, by rw [ref10_number.f, h1]; rfl, h2⟩
  | some x =>
    rw [hr] at this
    simp only at this ⊢
    rw [ref10_number.f, this]
    simp
end Gv

/- Plain laws: a tree read, by the program and by the reference. -/
namespace Gv
open Go
set_option linter.unusedVariables false
set_option linter.unusedSimpArgs false

theorem bytesOf_data (l : List Int) : (bytesOf l).data.toList = l.map fun n => UInt8.ofNat n.toNat := by
  have key : ∀ (l : List Int) (r : ByteArray), (l.foldl (fun r n => r.push (UInt8.ofNat n.toNat)) r).data.toList = r.data.toList ++ l.map fun n => UInt8.ofNat n.toNat := by
    intro l
    induction l with
    | nil => intro r; simp
    | cons a l ih =>
      intro r
      rw [List.foldl_cons, ih]
      simp [ByteArray.push]
  have := key l ByteArray.empty
  rw [show (ByteArray.empty.data.toList : List UInt8) = [] from rfl, List.nil_append] at this
  exact this
theorem u8_inj {a b : Int} (h0 : 0 ≤ a) (h1 : a < 256) (g0 : 0 ≤ b) (g1 : b < 256) (h : UInt8.ofNat a.toNat = UInt8.ofNat b.toNat) : a = b := by
  have := congrArg UInt8.toNat h
  simp only [UInt8.toNat_ofNat'] at this
  rw [Nat.mod_eq_of_lt (by omega), Nat.mod_eq_of_lt (by omega)] at this
  omega
theorem map_u8_inj : ∀ {l l' : List Int}, IsB l → IsB l' → (l.map fun n => UInt8.ofNat n.toNat) = (l'.map fun n => UInt8.ofNat n.toNat) → l = l'
  | [], [], _, _, _ => rfl
  | [], _ :: _, _, _, h => by simp at h
  | _ :: _, [], _, _, h => by simp at h
  | a :: l, b :: l', h, h', e => by
    simp only [List.map_cons, List.cons.injEq] at e
    have ha := h a (by simp)
    have hb := h' b (by simp)
    rw [u8_inj ha.1 ha.2 hb.1 hb.2 e.1, map_u8_inj (fun c hc => h c (by simp [hc])) (fun c hc => h' c (by simp [hc])) e.2]

theorem IsB.take {l : List Int} (h : IsB l) (n : Nat) : IsB (l.take n) := fun c hc => h c (List.mem_of_mem_take hc)

theorem equal_spec (k : Nat) {a b : List Int} (ha : IsB a) (hb : IsB b) : ∃ r, bytes_Equal.f k a b = some r ∧ (r = true ↔ a = b) := by
  refine ⟨_, rfl, ?_⟩
  rw [bytes_toList, bytes_toList, bytesOf_data, bytesOf_data]
  constructor
  · intro h
    exact map_u8_inj ha hb (by simpa using h)
  · intro h
    subst h
    simp

theorem prefix_spec (k : Nat) {a b : List Int} (ha : IsB a) (hb : IsB b) : ∃ r, bytes_HasPrefix.f k a b = some r ∧ (r = true ↔ a.take b.length = b) := by
  unfold bytes_HasPrefix.f
  by_cases h : b.length ≤ a.length
  · obtain ⟨r, h1, h2⟩ := equal_spec k (ha.take b.length) hb
    refine ⟨r, ?_, h2⟩
    rw [decide_eq_true (show (a.length : Int) ≥ (b.length : Int) by omega), decide_eq_true (show (0 : Int) ≤ 0 by omega), decide_eq_true (show (0 : Int) ≤ (b.length : Int) by omega), Int.toNat_natCast]
    simp only [Bool.and_self, cond_true]
    rw [show Int.toNat 0 = 0 from rfl, List.drop_zero, h1]
    rfl
  · refine ⟨false, ?_, ?_⟩
    · rw [decide_eq_false (show ¬ (a.length : Int) ≥ (b.length : Int) by omega)]
      rfl
    · constructor
      · intro h; cases h
      · intro e
        have := congrArg List.length e
        simp only [List.length_take] at this
        omega

theorem same_bytes {k : Nat} {a : List Int} (hl : a.length ≤ 1000000) : ∀ (d q i : Nat), a.length - i = d → i ≤ a.length → d < q → law52_bytes.l58 k q a a (i : Int) = some (.inl ())
  | 0, q + 1, i => fun hd hi _ => by
    unfold law52_bytes.l58
    rw [decide_eq_false (by omega)]; rfl
  | d + 1, q + 1, i => fun hd hi hq => by
    have hlt : i < a.length := by omega
    unfold law52_bytes.l58
    rw [decide_eq_true (by omega), inB_ok hlt, bne_self_eq_false]
    simp only [cond_true, cond_false]
    have e1 : IntKind.wrap .i64 ((i : Int) + 1) = ((i + 1 : Nat) : Int) := by rw [wrap64 (by omega) (by omega)]; rfl
    rw [e1]
    exact same_bytes hl d q (i + 1) (by omega) (by omega) (by omega)
  | _, 0, _ => fun _ _ h => by omega
theorem lbytes_refl {k : Nat} {a : List Int} (hl : a.length ≤ 1000000) (hk : a.length < k) : law52_bytes.f k a a = some true := by
  have := same_bytes (k := k) hl a.length k 0 (by omega) (by omega) hk
  rw [show ((0 : Nat) : Int) = 0 from rfl] at this
  rw [law52_bytes.f, bne_self_eq_false, cond_false, this]
  rfl
theorem lbytes_ne {k : Nat} {a b : List Int} (h : a.length ≠ b.length) : law52_bytes.f k a b = some false := by
  have : ((a.length : Int) != (b.length : Int)) = true := by simp; omega
  rw [law52_bytes.f, this, cond_true]


theorem strList_bytesOf {l : List Int} (h : IsB l) : strList (bytesOf l) = l := by
  unfold strList
  rw [bytesOf_data, List.map_map]
  have : ∀ {l : List Int}, IsB l → l.map ((fun b : UInt8 => (b.toNat : Int)) ∘ fun n => UInt8.ofNat n.toNat) = l := by
    intro l
    induction l with
    | nil => intro _; rfl
    | cons a l ih =>
      intro h
      have ha := h a (by simp)
      rw [List.map_cons, ih fun c hc => h c (by simp [hc])]
      congr 1
      simp only [Function.comp, UInt8.toNat_ofNat']
      omega
  exact this h
theorem bytesOf_size (l : List Int) : (bytesOf l).size = l.length := by
  have : (bytesOf l).data.toList.length = l.length := by rw [bytesOf_data]; simp
  simpa using this

def unzz (z : Int) : Int := if z % 2 = 1 then -(z / 2) - 1 else z / 2
theorem and1 {z : Int} (h0 : 0 ≤ z) (h1 : z < 18446744073709551616) : IntKind.wrap .u64 (((BitVec.ofInt 64 z) &&& (BitVec.ofInt 64 1)).toNat : Int) = z % 2 := by
  obtain ⟨a, rfl⟩ := Int.eq_ofNat_of_zero_le h0
  rw [show (1 : Int) = ((1 : Nat) : Int) from rfl, BitVec.ofInt_natCast, BitVec.ofInt_natCast, BitVec.toNat_and, BitVec.toNat_ofNat, BitVec.toNat_ofNat, Nat.mod_eq_of_lt (by omega), Nat.mod_eq_of_lt (show 1 < 2 ^ 64 by decide), Nat.and_one_is_mod, wrapu64]
  omega
theorem zz_unzz {z : Int} (h0 : 0 ≤ z) (h1 : z < 18446744073709551616) : zz (unzz z) = z := by
  unfold zz codec_zigzag.f unzz
  by_cases hz : z % 2 = 1
  · rw [if_pos hz, decide_eq_true (show -(z / 2) - 1 < 0 by omega), cond_true, Option.getD_some]
    rw [wrap64 (n := -(z / 2) - 1 + 1) (by omega) (by omega), wrap64 (by omega) (by omega), wrapu64 (0 - (-(z / 2) - 1 + 1)), show (0 - (-(z / 2) - 1 + 1)) % 18446744073709551616 = z / 2 by omega, wrapu64 (z / 2 * 2 ^ 1), show (2 : Int) ^ 1 = 2 from rfl, show (z / 2 * 2) % 18446744073709551616 = z / 2 * 2 by omega, BitVec.or_comm]
    have := or64 (x := 1) (m := z / 2) 1 (by omega) (by decide) (by omega) (by rw [show (2 : Int) ^ 1 = 2 from rfl]; omega)
    rw [show (2 : Int) ^ 1 = 2 from rfl] at this
    rw [this]; omega
  · rw [if_neg hz, decide_eq_false (show ¬ z / 2 < 0 by omega), cond_false, Option.getD_some]
    rw [wrapu64 (z / 2), show (z / 2) % 18446744073709551616 = z / 2 by omega, show (2 : Int) ^ 1 = 2 from rfl, wrapu64]
    omega

/-- A list's kids, read off bytes. -/
def rdK (f : List Int → Option (Nd × List Int)) : Nat → List Int → Option (List Nd × List Int)
  | 0, l => some ([], l)
  | m + 1, l => (f l).bind fun x => (rdK f m x.2).bind fun y => some (x.1 :: y.1, y.2)
/-- A tree, read off bytes. -/
def rdN : Nat → List Int → Option (Nd × List Int)
  | 0, _ => none
  | d + 1, l => (rdV true 9 l).bind fun x => if x.1 > 9999999 then none else match x.2 with
    | [] => none
    | c :: l2 =>
      if c = 1 then (rdV true 9 l2).bind fun z => some (⟨x.1, 1, unzz z.1, ⟨#[]⟩, []⟩, z.2)
      else if c = 2 then (rdV true 9 l2).bind fun z => if z.1 > 2000 then none else if z.2.length < z.1.toNat then none else some (⟨x.1, 2, 0, bytesOf (z.2.take z.1.toNat), []⟩, z.2.drop z.1.toNat)
      else if c = 3 then (rdV true 9 l2).bind fun z => if z.1 > 1024 then none else (rdK (rdN d) z.1.toNat z.2).bind fun y => some (⟨x.1, 3, 0, ⟨#[]⟩, y.1⟩, y.2)
      else none

theorem IsB.of_append {l r : List Int} (h : IsB (l ++ r)) : IsB r := fun c hc => h c (by simp [hc])
theorem IsB.of_append' {l r : List Int} (h : IsB (l ++ r)) : IsB l := fun c hc => h c (by simp [hc])
theorem IsB.tail {c : Int} {r : List Int} (h : IsB (c :: r)) : IsB r := fun z hz => h z (by simp [hz])

theorem rdK_canon {f : List Int → Option (Nd × List Int)} {d : Nat} (hf : ∀ l n r, IsB l → f l = some (n, r) → l = n.enc ++ r ∧ Vd d n) : ∀ (m : Nat) (l : List Int) (ns : List Nd) (r : List Int), IsB l → rdK f m l = some (ns, r) → l = Nd.enc.encL ns ++ r ∧ ns.length = m ∧ ∀ x ∈ ns, Vd d x
  | 0, l, ns, r, hb, h => by
    simp only [rdK] at h; cases h
    exact ⟨by simp [Nd.enc.encL], rfl, by simp⟩
  | m + 1, l, ns, r, hb, h => by
    simp only [rdK] at h
    obtain ⟨⟨n, r1⟩, h1, h⟩ := Option.bind_eq_some_iff.1 h
    obtain ⟨⟨ns', r2⟩, h2, h⟩ := Option.bind_eq_some_iff.1 h
    cases h
    obtain ⟨g1, g2⟩ := hf l n r1 hb h1
    have hb1 : IsB r1 := by rw [g1] at hb; exact hb.of_append
    obtain ⟨g3, g4, g5⟩ := rdK_canon hf m r1 ns' r2 hb1 h2
    refine ⟨?_, by simp [g4], ?_⟩
    · simp only [Nd.enc.encL]
      rw [g1, List.append_assoc, ← g3]
    · intro x hx
      rcases List.mem_cons.1 hx with rfl | hx
      · exact g2
      · exact g5 x hx

theorem rdN_canon : ∀ (d : Nat) (l : List Int) (n : Nd) (r : List Int), IsB l → rdN d l = some (n, r) → l = n.enc ++ r ∧ Vd d n
  | 0, l, n, r, hb, h => by simp [rdN] at h
  | d + 1, l, n, r, hb, h => by
    simp only [rdN] at h
    obtain ⟨⟨t, l1⟩, h1, h⟩ := Option.bind_eq_some_iff.1 h
    obtain ⟨g1, g2, _, _⟩ := rdV_canon 9 true l t l1 hb h1
    have hb1 : IsB l1 := by rw [g1] at hb; exact hb.of_append
    simp only at h
    split at h
    · cases h
    · rename_i ht
      cases l1 with
      | nil => cases h
      | cons c l2 =>
        have hb2 := hb1.tail
        simp only at h
        split at h
        · rename_i hc
          subst hc
          obtain ⟨⟨z, l3⟩, h3, h⟩ := Option.bind_eq_some_iff.1 h
          cases h
          obtain ⟨q1, q2, _, q4⟩ := rdV_canon 9 true l2 z l3 hb2 h3
          refine ⟨?_, .int d t _ g2 (by omega)⟩
          simp only [Nd.enc, if_true]
          rw [zz_unzz q2 q4, g1, q1]
          simp
        · split at h
          · rename_i hc
            subst hc
            obtain ⟨⟨z, l3⟩, h3, h⟩ := Option.bind_eq_some_iff.1 h
            obtain ⟨q1, q2, _, q4⟩ := rdV_canon 9 true l2 z l3 hb2 h3
            have hb3 : IsB l3 := by rw [q1] at hb2; exact hb2.of_append
            simp only at h
            split at h
            · cases h
            · rename_i hz
              split at h
              · cases h
              · rename_i hlen
                cases h
                have hsz : (bytesOf (l3.take z.toNat)).size = z.toNat := by rw [bytesOf_size, List.length_take]; omega
                refine ⟨?_, .str d t _ g2 (by omega) (by omega)⟩
                simp only [Nd.enc, show ((2 : Int) = 1) = False by decide, if_false, if_true]
                rw [hsz, strList_bytesOf (hb3.take _), g1, q1, show ((z.toNat : Nat) : Int) = z by omega]
                simp
          · split at h
            · rename_i hc
              subst hc
              obtain ⟨⟨z, l3⟩, h3, h⟩ := Option.bind_eq_some_iff.1 h
              obtain ⟨q1, q2, _, q4⟩ := rdV_canon 9 true l2 z l3 hb2 h3
              have hb3 : IsB l3 := by rw [q1] at hb2; exact hb2.of_append
              simp only at h
              split at h
              · cases h
              · rename_i hz
                obtain ⟨⟨ns, r2⟩, h4, h⟩ := Option.bind_eq_some_iff.1 h
                cases h
                obtain ⟨p1, p2, p3⟩ := rdK_canon (fun l n r hb h => rdN_canon d l n r hb h) z.toNat l3 ns r2 hb3 h4
                refine ⟨?_, .lst d t ns g2 (by omega) (by omega) p3⟩
                simp only [Nd.enc, show ((3 : Int) = 1) = False by decide, show ((3 : Int) = 2) = False by decide, if_false]
                rw [p2, show ((z.toNat : Nat) : Int) = z by omega, g1, q1, p1]
                simp
            · cases h
end Gv

/- Plain laws: what the program's decoder and the reference's do. -/
namespace Gv
open Go
set_option linter.unusedVariables false
set_option linter.unusedSimpArgs false

/-- Too few bytes for a string. -/
theorem bytes_short {self : List Int → Int → Int → Option ((List Int × Int × Int × Int × Int × ByteArray × List Nd) ⊕ (List Int × Int × Int))} {k : Nat} {b : List Int} (hl : b.length ≤ 1000000) (x2 x3 x4 : Int) (x5 : ByteArray) (x6 : List Nd) (x7 x8 x9 : Int) (x10 : ByteArray) (x11 : List Nd) (m : Nat) (hm : m ≤ 2000) :
    ∀ (l pre : List Int) (q i : Nat) (acc : List Int), i + l.length < m → acc.length = i → l.length < q → b = pre ++ l →
      ∃ u e, codec_decoder_node.l128474 self k q b (pre.length : Int) x2 x3 x4 x5 x6 x7 x8 x9 x10 x11 acc (m : Int) (i : Int) = some (.inr (b, u, e)) ∧ e ≠ 0
  | [], pre, q + 1, i, acc => fun him _ _ hb => by
    unfold codec_decoder_node.l128474
    simp only [List.length_nil] at him
    have hbl : (pre.length : Int) = (b.length : Int) := by rw [hb]; simp
    rw [decide_eq_true (by omega), cond_true, hbl, next_end k hl]
    exact ⟨_, 4, rfl, by decide⟩
  | c :: l, pre, q + 1, i, acc => fun him ha hq hb => by
    unfold codec_decoder_node.l128474
    simp only [List.length_cons] at him hq
    rw [decide_eq_true (by omega), cond_true, next_at (c := c) (rest := l) (by rw [hb]) hl]
    simp only [Option.bind_some]
    rw [fits_ok (by omega), cond_true]
    have e1 : IntKind.wrap .i64 ((i : Int) + 1) = ((i + 1 : Nat) : Int) := by rw [wrap64 (by omega) (by omega)]; rfl
    rw [e1]
    exact bytes_short hl x2 x3 x4 x5 x6 x7 x8 x9 x10 x11 m hm l (pre ++ [c]) q (i + 1) (acc ++ [c]) (by omega) (by simp [ha]) (by omega) (by rw [hb]; simp)
  | _, _, 0, _, _ => fun _ _ h _ => by omega

/-- What the program's function for a tree does, if f is what is read. -/
def IsNode (f : List Int → Option (Nd × List Int)) (b : List Int) (g : Int → Option ((List Int × Int × Int × Int × Int × ByteArray × List Nd) ⊕ (List Int × Int × Int))) : Prop :=
  ∀ (pre l : List Int), IsB l → b = pre ++ l → match f l with
    | some x => g (pre.length : Int) = some (.inl (b, ((pre ++ x.1.enc).length : Int), x.1.tag, x.1.kind, x.1.n, x.1.s, x.1.kids))
    | none => ∃ u e, g (pre.length : Int) = some (.inr (b, u, e)) ∧ e ≠ 0

theorem kidsC {self : List Int → Int → Int → Option ((List Int × Int × Int × Int × Int × ByteArray × List Nd) ⊕ (List Int × Int × Int))} {k : Nat} {b : List Int} (hl : b.length ≤ 1000000) (x2 x3 x4 : Int) (x5 : ByteArray) (x6 : List Nd) (x7 x8 x9 : Int) (x10 : ByteArray) (a2 : Nat) (ha2 : a2 ≤ 8)
    {f : List Int → Option (Nd × List Int)} {d : Nat} (hf : ∀ l n r, IsB l → f l = some (n, r) → l = n.enc ++ r ∧ Vd d n) (hs : IsNode f b fun p => self b p ((a2 + 1 : Nat) : Int)) (M : Nat) (hM : M ≤ 1024) :
    ∀ (m : Nat) (l pre : List Int) (q i : Nat) (acc : List Nd), i + m = M → acc.length = i → m < q → IsB l → b = pre ++ l →
      match rdK f m l with
      | some y => codec_decoder_node.l128502 self k q b (pre.length : Int) x2 x3 x4 x5 x6 x7 x8 x9 x10 acc (a2 : Int) (M : Int) (i : Int) = some (.inl (b, ((pre ++ Nd.enc.encL y.1).length : Int), x2, x3, x4, x5, x6, x7, x8, x9, x10, acc ++ y.1))
      | none => ∃ u e, codec_decoder_node.l128502 self k q b (pre.length : Int) x2 x3 x4 x5 x6 x7 x8 x9 x10 acc (a2 : Int) (M : Int) (i : Int) = some (.inr (b, u, e)) ∧ e ≠ 0
  | 0, l, pre, q + 1, i, acc => fun him ha hq hB hb => by
    simp only [rdK]
    unfold codec_decoder_node.l128502
    rw [decide_eq_false (by omega), cond_false]
    simp [Nd.enc.encL]
  | m + 1, l, pre, q + 1, i, acc => fun him ha hq hB hb => by
    have e0 : IntKind.wrap .i64 ((a2 : Int) + 1) = ((a2 + 1 : Nat) : Int) := by rw [wrap64 (by omega) (by omega)]; rfl
    have e1 : IntKind.wrap .i64 ((i : Int) + 1) = ((i + 1 : Nat) : Int) := by rw [wrap64 (by omega) (by omega)]; rfl
    have h1 := hs pre l hB hb
    simp only [rdK]
    unfold codec_decoder_node.l128502
    rw [decide_eq_true (by omega), cond_true, e0]
    cases hr : f l with
    | none =>
      rw [hr] at h1
      obtain ⟨u, e, h1, h2⟩ := h1
      simp only at h1
      simp only [Option.bind_none]
      rw [h1]
      exact ⟨u, e, rfl, h2⟩
    | some x =>
      obtain ⟨n, r⟩ := x
      rw [hr] at h1
      simp only at h1
      obtain ⟨g1, g2⟩ := hf l n r hB hr
      simp only [Option.bind_some]
      rw [h1]
      simp only [Option.bind_some]
      rw [fits_ok (by omega), cond_true, e1]
      have := kidsC (self := self) (k := k) hl x2 x3 x4 x5 x6 x7 x8 x9 x10 a2 ha2 hf hs M hM m r (pre ++ n.enc) q (i + 1) (acc ++ [n]) (by omega) (by simp [ha]) (by omega) (by rw [g1] at hB; exact hB.of_append) (by rw [hb, g1]; simp)
      cases hk : rdK f m r with
      | none =>
        rw [hk] at this
        simp only [Option.bind_none]
        rw [Nd.eta]
        exact this
      | some y =>
        rw [hk] at this
        simp only [Option.bind_some] at this ⊢
        rw [Nd.eta]
        rw [this]
        simp [Nd.enc.encL]
  | _, _, _, 0, _, _ => fun _ _ h _ _ => by omega

theorem codeN : ∀ (d a2 k : Nat) (b : List Int), a2 + d = 9 → 2100 + d ≤ k → b.length ≤ 1000000 → IsNode (rdN d) b fun p => codec_decoder_node.f k b p (a2 : Int)
  | 0, a2, k, b => fun ha hk hl pre l hB hb => by
    obtain ⟨k, rfl⟩ : ∃ q, k = q + 1 := ⟨k - 1, by omega⟩
    simp only [rdN]
    unfold codec_decoder_node.f codec_decoder_node.g
    rw [decide_eq_true (show (a2 : Int) > 8 by omega), cond_true]
    exact ⟨_, 5, rfl, by decide⟩
  | d + 1, a2, k, b => fun ha hk hl pre l hB hb => by
    obtain ⟨k, rfl⟩ : ∃ q, k = q + 1 := ⟨k - 1, by omega⟩
    have hcan := rdN_canon (d + 1) l
    simp only [rdN] at hcan ⊢
    unfold codec_decoder_node.f codec_decoder_node.g
    rw [decide_eq_false (show ¬ (a2 : Int) > 8 by omega), cond_false, codec_decoder_limited.f]
    rcases codeV (k := k) (by omega) hb hB hl with ⟨t, r, hv, h1, hl1, t0, t1⟩ | ⟨hv, u, e, h1, h2⟩
    · rw [hv] at hcan ⊢
      rw [h1]
      simp only [Option.bind_some] at hcan ⊢
      by_cases ht : t > 9999999
      · rw [if_pos ht, decide_eq_true ht, cond_true]
        exact ⟨_, 3, rfl, by decide⟩
      · rw [if_neg ht] at hcan ⊢
        rw [decide_eq_false ht, cond_false, wrap64 (n := t) (by omega) (by omega)]
        simp only [Option.bind_some]
        have hB1 : IsB r := by rw [hl1] at hB; exact hB.of_append
        have hb1 : b = (pre ++ vi 9 t) ++ r := by rw [hb, hl1]; simp
        cases r with
        | nil =>
          have hbl : ((pre ++ vi 9 t).length : Int) = (b.length : Int) := by rw [hb1]; simp
          simp only
          rw [hbl, next_end k hl]
          exact ⟨_, 4, rfl, by decide⟩
        | cons c l2 =>
          have hB2 := hB1.tail
          have hc := hB1 c (by simp)
          have hb2 : b = (pre ++ vi 9 t ++ [c]) ++ l2 := by rw [hb1]; simp
          simp only at hcan ⊢
          rw [next_at (c := c) (rest := l2) hb1 hl]
          simp only [Option.bind_some]
          rw [wrap64 (n := c) (by omega) (by omega)]
          by_cases c1 : c = 1
          · subst c1
            simp only [if_true] at hcan ⊢
            rw [show ((1 : Int) == 1) = true from rfl, cond_true]
            rcases codeV (k := k) (by omega) hb2 hB2 hl with ⟨z, r3, hv3, h3, hl3, z0, z1⟩ | ⟨hv3, u, e, h3, h4⟩
            · rw [hv3] at hcan ⊢
              rw [h3]
              simp only [Option.bind_some] at hcan ⊢
              obtain ⟨q1, _⟩ := hcan _ _ hB rfl
              have el : (pre ++ vi 9 t ++ [1] ++ vi 9 z).length = (pre ++ (Nd.enc ⟨t, 1, unzz z, ⟨#[]⟩, []⟩)).length := by
                simp only [Nd.enc, if_true]
                rw [zz_unzz z0 z1]; simp
              rw [and1 z0 z1, el]
              by_cases hz : z % 2 = 1
              · have ez : (z % 2 == 1) = true := by simp [hz]
                rw [ez, cond_true, show (2 : Int) ^ 1 = 2 from rfl, fdiv_pos _ (by decide), wrap64 (n := z / 2) (by omega) (by omega), wrap64 (n := 0 - z / 2) (by omega) (by omega), wrap64 (by omega) (by omega)]
                have : unzz z = 0 - z / 2 - 1 := by unfold unzz; rw [if_pos hz]; omega
                rw [this]
              · have ez : (z % 2 == 1) = false := by simp [hz]
                rw [ez, cond_false, show (2 : Int) ^ 1 = 2 from rfl, fdiv_pos _ (by decide), wrap64 (n := z / 2) (by omega) (by omega)]
                have : unzz z = z / 2 := by unfold unzz; rw [if_neg hz]
                rw [this]
            · rw [hv3]
              rw [h3]
              simp only [Option.bind_none, Option.bind_some]
              exact ⟨u, e, rfl, h4⟩
          · rw [if_neg c1] at hcan ⊢
            rw [show (c == 1) = false by simp [c1], cond_false]
            by_cases c2 : c = 2
            · subst c2
              simp only [if_true] at hcan ⊢
              rw [show ((2 : Int) == 2) = true from rfl, cond_true, codec_decoder_limited.f]
              rcases codeV (k := k) (by omega) hb2 hB2 hl with ⟨z, r3, hv3, h3, hl3, z0, z1⟩ | ⟨hv3, u, e, h3, h4⟩
              · rw [hv3] at hcan ⊢
                rw [h3]
                simp only [Option.bind_some] at hcan ⊢
                by_cases hz : z > 2000
                · rw [if_pos hz, decide_eq_true hz, cond_true]
                  exact ⟨_, 5, rfl, by decide⟩
                · rw [if_neg hz] at hcan ⊢
                  rw [decide_eq_false hz, cond_false, wrap64 (n := z) (by omega) (by omega)]
                  simp only [Option.bind_some]
                  rw [decide_eq_true (show (0 : Int) ≤ 0 by omega), decide_eq_true (show (0 : Int) ≤ z by omega), fits_ok (by omega)]
                  simp only [Bool.and_self, cond_true]
                  have hb3 : b = (pre ++ vi 9 t ++ [2] ++ vi 9 z) ++ r3 := by rw [hb2, hl3]; simp
                  have hB3 : IsB r3 := by rw [hl3] at hB2; exact hB2.of_append
                  obtain ⟨M, rfl⟩ := Int.eq_ofNat_of_zero_le z0
                  simp only [Int.toNat_natCast] at hcan ⊢
                  by_cases hlen : r3.length < M
                  · rw [if_pos hlen]
                    obtain ⟨u, e, g1, g2⟩ := bytes_short (self := codec_decoder_node.f k) (k := k) hl 0 0 0 ⟨#[]⟩ [] t 2 0 ⟨#[]⟩ [] M (by omega) r3 (pre ++ vi 9 t ++ [2] ++ vi 9 (M : Int)) k 0 [] (by omega) rfl (by omega) hb3
                    rw [show ((0 : Nat) : Int) = 0 from rfl] at g1
                    rw [g1]
                    exact ⟨u, e, rfl, g2⟩
                  · rw [if_neg hlen] at hcan ⊢
                    obtain ⟨q1, _⟩ := hcan _ _ hB rfl
                    have hd := bytes_dec (self := codec_decoder_node.f k) (k := k) (rest := r3.drop M) hl 0 0 0 ⟨#[]⟩ [] t 2 0 ⟨#[]⟩ [] M (r3.take M) (pre ++ vi 9 t ++ [2] ++ vi 9 (M : Int)) k 0 [] (by rw [List.length_take]; omega) (by omega) rfl (by rw [List.length_take]; omega) (by rw [List.take_append_drop]; exact hb3)
                    rw [show ((0 : Nat) : Int) = 0 from rfl] at hd
                    rw [hd]
                    simp only [Option.bind_some, List.nil_append]
                    have hsz : (bytesOf (r3.take M)).size = M := by rw [bytesOf_size, List.length_take]; omega
                    have el : (pre ++ vi 9 t ++ [2] ++ vi 9 (M : Int) ++ r3.take M).length = (pre ++ (Nd.enc ⟨t, 2, 0, bytesOf (r3.take M), []⟩)).length := by
                      simp only [Nd.enc, show ((2 : Int) = 1) = False by decide, if_false, if_true]
                      rw [hsz, strList_bytesOf (hB3.take _)]; simp
                    rw [el]
              · rw [hv3]
                rw [h3]
                simp only [Option.bind_none, Option.bind_some]
                exact ⟨u, e, rfl, h4⟩
            · rw [if_neg c2] at hcan ⊢
              rw [show (c == 2) = false by simp [c2], cond_false]
              by_cases c3 : c = 3
              · subst c3
                simp only [if_true] at hcan ⊢
                rw [show ((3 : Int) == 3) = true from rfl, cond_true, codec_decoder_limited.f]
                rcases codeV (k := k) (by omega) hb2 hB2 hl with ⟨z, r3, hv3, h3, hl3, z0, z1⟩ | ⟨hv3, u, e, h3, h4⟩
                · rw [hv3] at hcan ⊢
                  rw [h3]
                  simp only [Option.bind_some] at hcan ⊢
                  by_cases hz : z > 1024
                  · rw [if_pos hz, decide_eq_true hz, cond_true]
                    exact ⟨_, 5, rfl, by decide⟩
                  · rw [if_neg hz] at hcan ⊢
                    rw [decide_eq_false hz, cond_false, wrap64 (n := z) (by omega) (by omega)]
                    simp only [Option.bind_some]
                    have hb3 : b = (pre ++ vi 9 t ++ [3] ++ vi 9 z) ++ r3 := by rw [hb2, hl3]; simp
                    have hB3 : IsB r3 := by rw [hl3] at hB2; exact hB2.of_append
                    obtain ⟨M, rfl⟩ := Int.eq_ofNat_of_zero_le z0
                    simp only [Int.toNat_natCast] at hcan ⊢
                    have hd := kidsC (self := codec_decoder_node.f k) (k := k) hl 0 0 0 ⟨#[]⟩ [] t 3 0 ⟨#[]⟩ a2 (by omega) (fun l n r hb h => rdN_canon d l n r hb h) (codeN d (a2 + 1) k b (by omega) (by omega) hl) M (by omega) M r3 (pre ++ vi 9 t ++ [3] ++ vi 9 (M : Int)) k 0 [] (by omega) rfl (by omega) hB3 hb3
                    rw [show ((0 : Nat) : Int) = 0 from rfl] at hd
                    cases hk' : rdK (rdN d) M r3 with
                    | none =>
                      rw [hk'] at hd
                      obtain ⟨u, e, g1, g2⟩ := hd
                      simp only [Option.bind_none]
                      rw [g1]
                      exact ⟨u, e, rfl, g2⟩
                    | some y =>
                      obtain ⟨ns, r4⟩ := y
                      rw [hk'] at hd hcan
                      simp only [Option.bind_some] at hd hcan ⊢
                      rw [hd]
                      simp only [Option.bind_some, List.nil_append]
                      obtain ⟨_, p2, _⟩ := rdK_canon (fun l n r hb h => rdN_canon d l n r hb h) M r3 ns r4 hB3 hk'
                      have el : (pre ++ vi 9 t ++ [3] ++ vi 9 (M : Int) ++ Nd.enc.encL ns).length = (pre ++ (Nd.enc ⟨t, 3, 0, ⟨#[]⟩, ns⟩)).length := by
                        simp only [Nd.enc, show ((3 : Int) = 1) = False by decide, show ((3 : Int) = 2) = False by decide, if_false]
                        rw [p2]; simp
                      rw [el]
                · rw [hv3]
                  rw [h3]
                  simp only [Option.bind_none, Option.bind_some]
                  exact ⟨u, e, rfl, h4⟩
              · rw [if_neg c3]
                rw [show (c == 3) = false by simp [c3], cond_false]
                exact ⟨_, 2, rfl, by decide⟩
    · rw [hv, h1]
      simp only [Option.bind_none, Option.bind_some]
      exact ⟨u, e, rfl, h2⟩
end Gv

/- Plain laws: what the reference's decoder does, and that it is what the program's does. -/
namespace Gv
open Go
set_option linter.unusedVariables false
set_option linter.unusedSimpArgs false

theorem text_spec {k : Nat} {b pre l : List Int} (hb : b = pre ++ l) (hl : b.length ≤ 1000000) (M : Nat) (t kk n : Int) (s : ByteArray) (ks : List Nd) :
    ref10_text.f k b (pre.length : Int) (M : Int) t kk n s ks = if M > 2000 then some (0, 0, 0, ⟨#[]⟩, [], 0, 5) else if l.length < M then some (0, 0, 0, ⟨#[]⟩, [], 0, 4) else some (t, kk, n, bytesOf (l.take M), ks, ((pre.length + M : Nat) : Int), 0) := by
  have hbl : b.length = pre.length + l.length := by rw [hb]; simp
  unfold ref10_text.f
  by_cases h : M > 2000
  · rw [if_pos h, decide_eq_true (show (M : Int) > 2000 by omega)]; rfl
  · rw [if_neg h, decide_eq_false (show ¬ (M : Int) > 2000 by omega), cond_false, wrap64 (n := (M : Int)) (by omega) (by omega), need_spec k hl (by omega) (by omega)]
    have e1 : b.length - pre.length = l.length := by omega
    rw [e1]
    by_cases h2 : l.length < M
    · rw [if_pos h2, if_neg (by omega)]; rfl
    · rw [if_neg h2, if_pos (by omega)]
      have e2 : IntKind.wrap .i64 ((pre.length : Int) + (M : Int)) = ((pre.length + M : Nat) : Int) := by rw [wrap64 (by omega) (by omega)]; omega
      simp only [Option.bind_some, bne_self_eq_false, cond_false]
      rw [e2, decide_eq_true (show (0 : Int) ≤ (pre.length : Int) by omega), decide_eq_true (show (pre.length : Int) ≤ ((pre.length + M : Nat) : Int) by omega), decide_eq_true (show ((pre.length + M : Nat) : Int) ≤ (b.length : Int) by omega)]
      simp only [Bool.and_self, cond_true, Int.toNat_natCast]
      have e3 : List.drop pre.length (List.take (pre.length + M) b) = l.take M := by
        rw [hb, List.take_append, List.take_of_length_le (by omega), show pre.length + M - pre.length = M by omega]
        simp
      rw [e3]

/-- What the reference's function for a tree does, if f is what is read. -/
def IsRef (f : List Int → Option (Nd × List Int)) (b : List Int) (g : Int → Option (Int × Int × Int × ByteArray × List Nd × Int × Int)) : Prop :=
  ∀ (pre l : List Int), IsB l → b = pre ++ l → match f l with
    | some x => g (pre.length : Int) = some (x.1.tag, x.1.kind, x.1.n, x.1.s, x.1.kids, ((pre ++ x.1.enc).length : Int), 0)
    | none => ∃ t c n s ks u e, g (pre.length : Int) = some (t, c, n, s, ks, u, e) ∧ e ≠ 0

theorem kidsR {self : List Int → Int → Int → Option (Int × Int × Int × ByteArray × List Nd × Int × Int)} {k : Nat} {b : List Int} (hl : b.length ≤ 1000000) (x2 x3 x4 : Int) (x5 : ByteArray) (x6 : List Nd) (x7 x8 x9 : Int) (x10 : ByteArray) (a2 : Nat) (ha2 : a2 ≤ 8)
    {f : List Int → Option (Nd × List Int)} {d : Nat} (hf : ∀ l n r, IsB l → f l = some (n, r) → l = n.enc ++ r ∧ Vd d n) (hs : IsRef f b fun p => self b p ((a2 + 1 : Nat) : Int)) (M : Nat) (hM : M ≤ 1024) :
    ∀ (m : Nat) (l pre : List Int) (q i : Nat) (acc : List Nd), i + m = M → acc.length = i → m < q → IsB l → b = pre ++ l →
      match rdK f m l with
      | some y => ref10_node.l262138 self k q x2 x3 x4 x5 x6 x7 x8 x9 x10 acc b (pre.length : Int) (a2 : Int) (M : Int) (i : Int) = some (.inl (x2, x3, x4, x5, x6, x7, x8, x9, x10, acc ++ y.1, ((pre ++ Nd.enc.encL y.1).length : Int)))
      | none => ∃ t c n s ks u e, ref10_node.l262138 self k q x2 x3 x4 x5 x6 x7 x8 x9 x10 acc b (pre.length : Int) (a2 : Int) (M : Int) (i : Int) = some (.inr (t, c, n, s, ks, u, e)) ∧ e ≠ 0
  | 0, l, pre, q + 1, i, acc => fun him ha hq hB hb => by
    simp only [rdK]
    unfold ref10_node.l262138
    rw [wrap64 (n := (M : Int)) (by omega) (by omega), decide_eq_false (by omega), cond_false]
    simp [Nd.enc.encL]
  | m + 1, l, pre, q + 1, i, acc => fun him ha hq hB hb => by
    have e0 : IntKind.wrap .i64 ((a2 : Int) + 1) = ((a2 + 1 : Nat) : Int) := by rw [wrap64 (by omega) (by omega)]; rfl
    have e1 : IntKind.wrap .i64 ((i : Int) + 1) = ((i + 1 : Nat) : Int) := by rw [wrap64 (by omega) (by omega)]; rfl
    have h1 := hs pre l hB hb
    simp only [rdK]
    unfold ref10_node.l262138
    rw [wrap64 (n := (M : Int)) (by omega) (by omega), decide_eq_true (by omega), cond_true, e0]
    cases hr : f l with
    | none =>
      rw [hr] at h1
      obtain ⟨t, c, n, s, ks, u, e, h1, h2⟩ := h1
      simp only at h1
      simp only [Option.bind_none]
      rw [h1]
      have : (e != 0) = true := by simp [h2]
      simp only [Option.bind_some, this, cond_true]
      exact ⟨0, 0, 0, ⟨#[]⟩, [], 0, e, rfl, h2⟩
    | some x =>
      obtain ⟨n, r⟩ := x
      rw [hr] at h1
      simp only at h1
      obtain ⟨g1, g2⟩ := hf l n r hB hr
      simp only [Option.bind_some]
      rw [h1]
      simp only [Option.bind_some, bne_self_eq_false, cond_false]
      rw [fits_ok (by omega), cond_true, e1]
      have := kidsR (self := self) (k := k) hl x2 x3 x4 x5 x6 x7 x8 x9 x10 a2 ha2 hf hs M hM m r (pre ++ n.enc) q (i + 1) (acc ++ [n]) (by omega) (by simp [ha]) (by omega) (by rw [g1] at hB; exact hB.of_append) (by rw [hb, g1]; simp)
      cases hk : rdK f m r with
      | none =>
        rw [hk] at this
        simp only [Option.bind_none]
        rw [Nd.eta]
        exact this
      | some y =>
        rw [hk] at this
        simp only [Option.bind_some] at this ⊢
        rw [Nd.eta]
        rw [this]
        simp [Nd.enc.encL]
  | _, _, _, 0, _, _ => fun _ _ h _ _ => by omega

theorem refN : ∀ (d a2 k : Nat) (b : List Int), a2 + d = 9 → 2100 + d ≤ k → b.length ≤ 1000000 → IsRef (rdN d) b fun p => ref10_node.f k b p (a2 : Int)
  | 0, a2, k, b => fun ha hk hl pre l hB hb => by
    obtain ⟨k, rfl⟩ : ∃ q, k = q + 1 := ⟨k - 1, by omega⟩
    simp only [rdN]
    unfold ref10_node.f ref10_node.g
    rw [decide_eq_true (show (a2 : Int) > 8 by omega), cond_true]
    exact ⟨0, 0, 0, ⟨#[]⟩, [], 0, 5, rfl, by decide⟩
  | d + 1, a2, k, b => fun ha hk hl pre l hB hb => by
    obtain ⟨k, rfl⟩ : ∃ q, k = q + 1 := ⟨k - 1, by omega⟩
    have hcan := rdN_canon (d + 1) l
    simp only [rdN] at hcan ⊢
    unfold ref10_node.f ref10_node.g
    rw [decide_eq_false (show ¬ (a2 : Int) > 8 by omega), cond_false]
    have hv := refV (k := k) (by omega) hb hB hl
    cases hr : rdV true 9 l with
    | none =>
      rw [hr] at hv hcan
      obtain ⟨u, v, e, h1, h2⟩ := hv
      rw [h1]
      have : (e != 0) = true := by simp [h2]
      simp only [Option.bind_none, Option.bind_some, this, cond_true]
      exact ⟨0, 0, 0, ⟨#[]⟩, [], 0, e, rfl, h2⟩
    | some x =>
      obtain ⟨t, r⟩ := x
      obtain ⟨hl1, t0, _, t1⟩ := rdV_canon 9 true l t r hB hr
      have t1 : t < 18446744073709551616 := t1
      rw [hr] at hv hcan
      simp only at hv
      rw [hv]
      simp only [Option.bind_some, bne_self_eq_false, cond_false] at hcan ⊢
      by_cases ht : t > 9999999
      · rw [if_pos ht, decide_eq_true ht, cond_true]
        exact ⟨0, 0, 0, ⟨#[]⟩, [], 0, 3, rfl, by decide⟩
      · rw [if_neg ht] at hcan ⊢
        rw [decide_eq_false ht, cond_false, wrap64 (n := t) (by omega) (by omega)]
        have hB1 : IsB r := by rw [hl1] at hB; exact hB.of_append
        have hb1 : b = (pre ++ vi 9 t) ++ r := by rw [hb, hl1]; simp
        have hlen1 : b.length = (pre ++ vi 9 t).length + r.length := by rw [hb1]; simp only [List.length_append]
        have hnd := need_spec k hl (p := (pre ++ vi 9 t).length) (n := 1) (by omega) (by omega)
        rw [show ((1 : Nat) : Int) = 1 from rfl] at hnd
        cases r with
        | nil =>
          rw [if_neg (by simp at hlen1; simp; omega)] at hnd
          rw [hnd]
          exact ⟨0, 0, 0, ⟨#[]⟩, [], 0, 4, rfl, by decide⟩
        | cons c l2 =>
          simp only [List.length_cons] at hlen1
          rw [if_pos (by omega)] at hnd
          have hB2 := hB1.tail
          have hc := hB1 c (by simp)
          have hb2 : b = (pre ++ vi 9 t ++ [c]) ++ l2 := by rw [hb1]; simp
          have hin : inB ((pre ++ vi 9 t).length : Int) b.length = true := inB_ok (by omega)
          have hrd : rdL (.int .u8) b ((pre ++ vi 9 t).length : Int) = c := rdL_ok (e := .int .u8) (l := b) (i := (pre ++ vi 9 t).length) (x := c) (by rw [hb1]; simp)
          have e2 : IntKind.wrap .i64 (((pre ++ vi 9 t).length : Int) + 1) = ((pre ++ vi 9 t ++ [c]).length : Int) := by
            rw [wrap64 (by omega) (by omega)]
            have : (pre ++ vi 9 t ++ [c]).length = (pre ++ vi 9 t).length + 1 := by rw [List.length_append]; rfl
            omega
          rw [hnd]
          simp only [Option.bind_some, bne_self_eq_false, cond_false] at hcan ⊢
          rw [hin, hrd, wrap64 (n := c) (by omega) (by omega), e2]
          simp only [cond_true]
          have hv3 := refV (k := k) (by omega) hb2 hB2 hl
          by_cases hc1 : c = 1
          · subst hc1
            simp only [if_true] at hcan ⊢
            rw [show decide ((1 : Int) < 1) = false from rfl, show decide ((1 : Int) > 3) = false from rfl, show ((1 : Int) == 1) = true from rfl]
            simp only [cond_false, cond_true, Option.bind_some]
            cases hr3 : rdV true 9 l2 with
            | none =>
              rw [hr3] at hv3
              obtain ⟨u, v, e, h1, h2⟩ := hv3
              rw [h1]
              have : (e != 0) = true := by simp [h2]
              simp only [Option.bind_none, Option.bind_some, this, cond_true]
              exact ⟨0, 0, 0, ⟨#[]⟩, [], 0, e, rfl, h2⟩
            | some x =>
              obtain ⟨z, r3⟩ := x
              obtain ⟨hl3, z0, _, z1⟩ := rdV_canon 9 true l2 z r3 hB2 hr3
              have z1 : z < 18446744073709551616 := z1
              rw [hr3] at hv3 hcan
              simp only at hv3
              rw [hv3]
              simp only [Option.bind_some, bne_self_eq_false, cond_false] at hcan ⊢
              have el : (pre ++ vi 9 t ++ [1] ++ vi 9 z).length = (pre ++ (Nd.enc ⟨t, 1, unzz z, ⟨#[]⟩, []⟩)).length := by
                simp only [Nd.enc, if_true]
                rw [zz_unzz z0 z1]; simp
              rw [el, ref10_node.j131050, Int.tmod_eq_emod_of_nonneg z0, Int.tdiv_eq_ediv_of_nonneg z0, wrapu64, Int.emod_eq_of_lt (a := z / 2) (by omega) (by omega)]
              by_cases hz : z % 2 = 1
              · have ez : (z % 2 == 1) = true := by simp [hz]
                rw [ez]
                simp only [cond_true, Option.bind_some]
                rw [wrap64 (n := z / 2) (by omega) (by omega), wrap64 (n := 0 - z / 2) (by omega) (by omega), wrap64 (by omega) (by omega)]
                have : unzz z = 0 - z / 2 - 1 := by unfold unzz; rw [if_pos hz]; omega
                rw [this]
              · have ez : (z % 2 == 1) = false := by simp [hz]
                rw [ez]
                simp only [cond_false, Option.bind_some]
                rw [wrap64 (n := z / 2) (by omega) (by omega)]
                have : unzz z = z / 2 := by unfold unzz; rw [if_neg hz]
                rw [this]
          · rw [if_neg hc1] at hcan ⊢
            by_cases hc2 : c = 2
            · subst hc2
              simp only [if_true] at hcan ⊢
              rw [show decide ((2 : Int) < 1) = false from rfl, show decide ((2 : Int) > 3) = false from rfl, show ((2 : Int) == 1) = false from rfl, show ((2 : Int) == 2) = true from rfl]
              simp only [cond_false, cond_true, Option.bind_some]
              cases hr3 : rdV true 9 l2 with
              | none =>
                rw [hr3] at hv3
                obtain ⟨u, v, e, h1, h2⟩ := hv3
                rw [h1]
                have : (e != 0) = true := by simp [h2]
                simp only [Option.bind_none, Option.bind_some, this, cond_true]
                exact ⟨0, 0, 0, ⟨#[]⟩, [], 0, e, rfl, h2⟩
              | some x =>
                obtain ⟨z, r3⟩ := x
                obtain ⟨hl3, z0, _, z1⟩ := rdV_canon 9 true l2 z r3 hB2 hr3
                have z1 : z < 18446744073709551616 := z1
                rw [hr3] at hv3 hcan
                simp only at hv3
                rw [hv3]
                simp only [Option.bind_some, bne_self_eq_false, cond_false] at hcan ⊢
                have hb3 : b = (pre ++ vi 9 t ++ [2] ++ vi 9 z) ++ r3 := by rw [hb2, hl3]; simp
                have hB3 : IsB r3 := by rw [hl3] at hB2; exact hB2.of_append
                obtain ⟨M, rfl⟩ := Int.eq_ofNat_of_zero_le z0
                rw [text_spec hb3 hl M]
                simp only [Int.toNat_natCast] at hcan ⊢
                by_cases hz : (M : Int) > 2000
                · rw [if_pos hz, if_pos (by omega)]
                  exact ⟨0, 0, 0, ⟨#[]⟩, [], 0, 5, rfl, by decide⟩
                · rw [if_neg hz] at hcan ⊢
                  rw [if_neg (show ¬ M > 2000 by omega)]
                  by_cases hlen : r3.length < M
                  · rw [if_pos hlen, if_pos hlen]
                    exact ⟨0, 0, 0, ⟨#[]⟩, [], 0, 4, rfl, by decide⟩
                  · rw [if_neg hlen] at hcan ⊢
                    rw [if_neg hlen]
                    have hsz : (bytesOf (r3.take M)).size = M := by rw [bytesOf_size, List.length_take]; omega
                    have el : (pre ++ vi 9 t ++ [2] ++ vi 9 (M : Int)).length + M = (pre ++ (Nd.enc ⟨t, 2, 0, bytesOf (r3.take M), []⟩)).length := by
                      simp only [Nd.enc, show ((2 : Int) = 1) = False by decide, if_false, if_true]
                      rw [hsz, strList_bytesOf (hB3.take _)]
                      simp only [List.length_append, List.length_cons, List.length_nil, List.length_take]
                      omega
                    rw [el]
                    rfl
            · rw [if_neg hc2] at hcan ⊢
              by_cases hc3 : c = 3
              · subst hc3
                simp only [if_true] at hcan ⊢
                rw [show decide ((3 : Int) < 1) = false from rfl, show decide ((3 : Int) > 3) = false from rfl, show ((3 : Int) == 1) = false from rfl, show ((3 : Int) == 2) = false from rfl]
                simp only [cond_false, cond_true, Option.bind_some]
                cases hr3 : rdV true 9 l2 with
                | none =>
                  rw [hr3] at hv3
                  obtain ⟨u, v, e, h1, h2⟩ := hv3
                  rw [h1]
                  have : (e != 0) = true := by simp [h2]
                  simp only [Option.bind_none, Option.bind_some, this, cond_true]
                  exact ⟨0, 0, 0, ⟨#[]⟩, [], 0, e, rfl, h2⟩
                | some x =>
                  obtain ⟨z, r3⟩ := x
                  obtain ⟨hl3, z0, _, z1⟩ := rdV_canon 9 true l2 z r3 hB2 hr3
                  have z1 : z < 18446744073709551616 := z1
                  rw [hr3] at hv3 hcan
                  simp only at hv3
                  rw [hv3]
                  simp only [Option.bind_some, bne_self_eq_false, cond_false] at hcan ⊢
                  have hb3 : b = (pre ++ vi 9 t ++ [3] ++ vi 9 z) ++ r3 := by rw [hb2, hl3]; simp
                  have hB3 : IsB r3 := by rw [hl3] at hB2; exact hB2.of_append
                  by_cases hz : z > 1024
                  · rw [if_pos hz, decide_eq_true hz, cond_true]
                    exact ⟨0, 0, 0, ⟨#[]⟩, [], 0, 5, rfl, by decide⟩
                  · rw [if_neg hz] at hcan ⊢
                    rw [decide_eq_false hz, cond_false]
                    obtain ⟨M, rfl⟩ := Int.eq_ofNat_of_zero_le z0
                    simp only [Int.toNat_natCast] at hcan ⊢
                    have hd := kidsR (self := ref10_node.f k) (k := k) hl 0 0 0 ⟨#[]⟩ [] t 3 0 ⟨#[]⟩ a2 (by omega) (fun l n r hb h => rdN_canon d l n r hb h) (refN d (a2 + 1) k b (by omega) (by omega) hl) M (by omega) M r3 (pre ++ vi 9 t ++ [3] ++ vi 9 (M : Int)) k 0 [] (by omega) rfl (by omega) hB3 hb3
                    rw [show ((0 : Nat) : Int) = 0 from rfl] at hd
                    cases hk' : rdK (rdN d) M r3 with
                    | none =>
                      rw [hk'] at hd
                      obtain ⟨t', c', n', s', ks', u, e, g1, g2⟩ := hd
                      simp only [Option.bind_none]
                      rw [g1]
                      exact ⟨t', c', n', s', ks', u, e, rfl, g2⟩
                    | some y =>
                      obtain ⟨ns, r4⟩ := y
                      rw [hk'] at hd hcan
                      simp only [Option.bind_some] at hd hcan ⊢
                      rw [hd]
                      simp only [Option.bind_some, List.nil_append]
                      obtain ⟨_, p2, _⟩ := rdK_canon (fun l n r hb h => rdN_canon d l n r hb h) M r3 ns r4 hB3 hk'
                      have el : (pre ++ vi 9 t ++ [3] ++ vi 9 (M : Int) ++ Nd.enc.encL ns).length = (pre ++ (Nd.enc ⟨t, 3, 0, ⟨#[]⟩, ns⟩)).length := by
                        simp only [Nd.enc, show ((3 : Int) = 1) = False by decide, show ((3 : Int) = 2) = False by decide, if_false]
                        rw [p2]; simp
                      rw [el]
              · rw [if_neg hc3]
                have hbad : (cond (decide (c < 1)) (some true) (some (decide (c > 3))) : Option Bool) = some true := by
                  by_cases h : c < 1
                  · rw [decide_eq_true h]; rfl
                  · rw [decide_eq_false h, decide_eq_true (show c > 3 by omega)]; rfl
                rw [hbad]
                exact ⟨0, 0, 0, ⟨#[]⟩, [], 0, 2, rfl, by decide⟩
end Gv

/- Plain laws: digests and numbers, by the program and by the reference. -/
namespace Gv
open Go
set_option linter.unusedVariables false
set_option linter.unusedSimpArgs false

theorem add_same {k : Nat} (b : List Int) : ∀ (q : Nat) (x i : Int), ref11_Add.l26 k q x b i = digest_Add.l26 k q x b (b.length : Int) i
  | 0, x, i => rfl
  | q + 1, x, i => by
    rw [ref11_Add.l26, digest_Add.l26]
    simp only [ref11_extend.f, Option.bind_some]
    rw [add_same b q]
theorem and255 (y : Int) : IntKind.wrap .u64 (((BitVec.ofInt 64 y) &&& (BitVec.ofInt 64 255)).toNat : Int) = IntKind.wrap .u64 (IntKind.wrap .u8 y) := by
  rw [wrapu8, wrapu64, wrapu64, BitVec.toNat_and]
  have e2 : (BitVec.ofInt 64 255).toNat = 2 ^ 8 - 1 := rfl
  rw [e2, Nat.and_two_pow_sub_one_eq_mod, BitVec.toNat_ofInt]
  have : (2 ^ 8 : Nat) = 256 := rfl
  rw [this]
  have h2 : ((2 ^ 64 : Nat) : Int) = 18446744073709551616 := rfl
  rw [h2]
  omega
theorem ext_eq (k : Nat) (x y : Int) : ref11_extend.f k x (IntKind.wrap .u8 y) = some (IntKind.wrap .u64 ((IntKind.wrap .u64 (((BitVec.ofInt 64 x) ^^^ (BitVec.ofInt 64 (IntKind.wrap .u64 (((BitVec.ofInt 64 y) &&& (BitVec.ofInt 64 255)).toNat : Int)))).toNat : Int)) * 1099511628211)) := by
  rw [and255]; rfl
theorem num_same {k : Nat} (v : Int) : ∀ (d q : Nat) (x : Int), d ≤ 8 → ref11_Number.l26 k q x v ((d : Int) - 1) = digest_Number.l26 k q x v (8 * (d : Int) - 8) := by
  intro d
  induction d with
  | zero =>
    intro q x _
    cases q with
    | zero => rfl
    | succ q =>
      rw [ref11_Number.l26, digest_Number.l26, decide_eq_false (show ¬ (((0 : Nat) : Int) - 1) ≥ 0 by omega), decide_eq_false (show ¬ (8 * ((0 : Nat) : Int) - 8) ≥ 0 by omega), cond_false, cond_false]
  | succ d ih =>
    intro q x hd
    cases q with
    | zero => rfl
    | succ q =>
      have a0 : ((d + 1 : Nat) : Int) - 1 = (d : Int) := by omega
      have a1 : 8 * ((d + 1 : Nat) : Int) - 8 = ((8 * d : Nat) : Int) := by omega
      have b0 : IntKind.wrap .u64 (d : Int) = (d : Int) := by rw [wrapu64]; omega
      have b1 : IntKind.wrap .u64 (8 * (d : Int)) = ((8 * d : Nat) : Int) := by rw [wrapu64]; omega
      have b2 : IntKind.wrap .u64 ((8 * d : Nat) : Int) = ((8 * d : Nat) : Int) := by rw [wrapu64]; omega
      have c0 : IntKind.wrap .i64 ((d : Int) - 1) = (d : Int) - 1 := by rw [wrap64 (by omega) (by omega)]
      have c1 : IntKind.wrap .i64 (((8 * d : Nat) : Int) - 8) = 8 * (d : Int) - 8 := by rw [wrap64 (by omega) (by omega)]; omega
      rw [a0, a1, ref11_Number.l26, digest_Number.l26, decide_eq_true (show (d : Int) ≥ 0 by omega), decide_eq_true (show ((8 * d : Nat) : Int) ≥ 0 by omega), b0, b1, b2, c0, c1, decide_eq_false (show ¬ ((8 * d : Nat) : Int) < 0 by omega), cond_true, cond_false, cond_true, cond_false, ext_eq, Option.bind_some]
      exact ih q _ (by omega)
theorem chain_same (k : Nat) (d : Int) (b : List Int) : ref11_Chain.f k d b = digest_Chain.f k d b := by
  have h : ∀ x, ref11_Number.l26 k k x d 7 = digest_Number.l26 k k x d 56 := fun x => num_same (k := k) d 8 k x (by omega)
  have h2 : ∀ x, ref11_Add.f k x b = digest_Add.f k x b := fun x => by rw [ref11_Add.f, digest_Add.f, add_same]
  rw [ref11_Chain.f, digest_Chain.f, ref11_Number.f, digest_Number.f, h]
  simp only [h2]
theorem of_same {k : Nat} (hk : 1 ≤ k) : ref11_Of.f k [] = some 14695981039346656037 := by
  rw [← of_spec hk, ref11_Of.f, digest_Of.f, ref11_Add.f, digest_Add.f, add_same]

/-! Numbers. -/
def rx (a c : Int) : Int := IntKind.wrap .u64 ((IntKind.wrap .u64 (a * 256)) + (IntKind.wrap .u64 c))
theorem refnum_loop {k : Nat} {b : List Int} {n : Nat} (hn : n ≤ b.length) (hn2 : n ≤ 100) : ∀ (m q i : Nat) (acc : Int), i + m = n → m < q → ref49_number.l58 k q b (n : Int) acc (i : Int) = some (((b.take n).drop i).foldl rx acc)
  | 0, q + 1, i, acc => fun hi _ => by
    rw [ref49_number.l58, decide_eq_false (by omega), List.drop_eq_nil_of_le (by rw [List.length_take]; omega)]
    rfl
  | m + 1, q + 1, i, acc => fun hi hq => by
    have hlt : i < b.length := by omega
    have e1 : IntKind.wrap .i64 ((i : Int) + 1) = ((i + 1 : Nat) : Int) := by rw [wrap64 (by omega) (by omega)]; rfl
    have hx : b[i]? = some b[i] := List.getElem?_eq_getElem hlt
    have hd : (b.take n).drop i = b[i] :: (b.take n).drop (i + 1) := by
      rw [List.drop_eq_getElem_cons (by rw [List.length_take]; omega), List.getElem_take]
    rw [ref49_number.l58, decide_eq_true (by omega), inB_ok hlt, cond_true, cond_true, rdL_ok (e := .int .u8) hx, e1, refnum_loop hn hn2 m q (i + 1) _ (by omega) (by omega), hd, List.foldl_cons]
    rfl
  | _, 0, _, _ => fun _ h => by omega
theorem num_loop' {k : Nat} {b : List Int} (hn2 : b.length ≤ 100) : ∀ (m q i : Nat) (acc : Int), i + m = b.length → m < q → journal_number.l58 k q acc b (b.length : Int) (i : Int) = some ((b.drop i).foldl nxt acc)
  | 0, q + 1, i, acc => fun hi _ => by
    rw [journal_number.l58, decide_eq_false (by omega), List.drop_eq_nil_of_le (by omega)]
    rfl
  | m + 1, q + 1, i, acc => fun hi hq => by
    have hlt : i < b.length := by omega
    have e1 : IntKind.wrap .i64 ((i : Int) + 1) = ((i + 1 : Nat) : Int) := by rw [wrap64 (by omega) (by omega)]; rfl
    have hx : b[i]? = some b[i] := List.getElem?_eq_getElem hlt
    have hd : b.drop i = b[i] :: b.drop (i + 1) := List.drop_eq_getElem_cons hlt
    rw [journal_number.l58, decide_eq_true (by omega), inB_ok hlt, cond_true, cond_true, rdL_ok (e := .int .u8) hx, e1, num_loop' hn2 m q (i + 1) _ (by omega) (by omega), hd, List.foldl_cons]
    rfl
  | _, 0, _, _ => fun _ h => by omega
theorem fold_same : ∀ (l : List Int) (acc : Int), IsB l → 0 ≤ acc → (acc + 1) * 256 ^ l.length ≤ 18446744073709551616 → l.foldl rx acc = l.foldl nxt acc ∧ 0 ≤ l.foldl nxt acc ∧ l.foldl nxt acc < (acc + 1) * 256 ^ l.length
  | [], acc, _, h0, h1 => ⟨rfl, h0, by simp; omega⟩
  | c :: l, acc, hB, h0, h1 => by
    have hc := hB c (by simp)
    have hp : (1 : Int) ≤ 256 ^ l.length := by
      have : (0 : Int) < 256 ^ l.length := Int.pow_pos (by omega)
      omega
    have e : (acc + 1) * 256 ^ (c :: l).length = ((acc + 1) * 256) * 256 ^ l.length := by
      rw [List.length_cons, Int.pow_succ, Int.mul_comm ((256 : Int) ^ l.length) 256, Int.mul_assoc]
    rw [e] at h1 ⊢
    have h2 : (acc + 1) * 256 ≤ 18446744073709551616 := by
      have := Int.mul_le_mul_of_nonneg_left hp (show 0 ≤ (acc + 1) * 256 by omega)
      rw [Int.mul_one] at this
      omega
    have e1 : nxt acc c = acc * 256 + c := nxt_spec h0 (by omega) hc.1 hc.2
    have e2 : rx acc c = acc * 256 + c := by
      unfold rx
      rw [wrapu64 (acc * 256), wrapu64 c, Int.emod_eq_of_lt (by omega) (by omega), Int.emod_eq_of_lt (by omega) (by omega), wrapu64]
      omega
    have hle : (acc * 256 + c + 1) * 256 ^ l.length ≤ ((acc + 1) * 256) * 256 ^ l.length := Int.mul_le_mul_of_nonneg_right (by omega) (by omega)
    obtain ⟨g1, g2, g3⟩ := fold_same l (acc * 256 + c) (fun z hz => hB z (by simp [hz])) (by omega) (by omega)
    rw [List.foldl_cons, List.foldl_cons, e1, e2]
    exact ⟨g1, g2, by omega⟩
theorem number_both {k : Nat} (hk : 10 ≤ k) {b : List Int} {n : Nat} (hn : n ≤ b.length) (hn8 : n ≤ 8) (hB : IsB b) : ∃ y, journal_number.f k (b.take n) = some y ∧ ref49_number.f k b (n : Int) = some y ∧ 0 ≤ y ∧ y < 256 ^ n := by
  have hl : (b.take n).length = n := by rw [List.length_take]; omega
  have h1 := num_loop' (k := k) (b := b.take n) (by omega) n k 0 0 (by omega) (by omega)
  have h2 := refnum_loop (k := k) hn (by omega) n k 0 0 (by omega) (by omega)
  have hp : (256 : Int) ^ n ≤ 256 ^ 8 := by
    have := Nat.pow_le_pow_right (n := 256) (by omega) hn8
    have e := Int.natCast_pow 256 n
    have e8 := Int.natCast_pow 256 8
    rw [show ((256 : Nat) : Int) = 256 from rfl] at e e8
    rw [← e, ← e8]
    omega
  have hp' : (256 : Int) ^ n ≤ 18446744073709551616 := hp
  obtain ⟨g1, g2, g3⟩ := fold_same (b.take n) 0 (hB.take n) (by omega) (by rw [hl]; omega)
  rw [hl] at g3
  rw [show ((0 : Nat) : Int) = 0 from rfl, List.drop_zero] at h1 h2
  refine ⟨_, ?_, ?_, g2, by omega⟩
  · rw [journal_number.f, h1]; rfl
  · rw [ref49_number.f, h2, g1]; rfl

theorem tm (x : Int) (h : 0 ≤ x) : Int.tmod x 256 = x % 256 := Int.tmod_eq_emod_of_nonneg h
theorem tdw {x : Int} (h : 0 ≤ x) (h1 : x < 18446744073709551616) : IntKind.wrap .u64 (Int.tdiv x 256) = x / 256 := by
  rw [Int.tdiv_eq_ediv_of_nonneg h, wrapu64]; omega
theorem bytes4 {k : Nat} (hk : 10 ≤ k) {x : Int} (h0 : 0 ≤ x) (h1 : x < 18446744073709551616) : ref49_bytes.f k x 4 = some (be4 x) := by
  obtain ⟨k, rfl⟩ : ∃ q, k = q + 10 := ⟨k - 10, by omega⟩
  have h : ∀ x1 x2 x3 x4 : Int, IntKind.wrap .u64 (Int.tdiv x 256) = x1 → IntKind.wrap .u64 (Int.tdiv x1 256) = x2 → IntKind.wrap .u64 (Int.tdiv x2 256) = x3 → ref49_bytes.f (k + 10) x 4 = some [IntKind.wrap .u8 (Int.tmod x3 256), IntKind.wrap .u8 (Int.tmod x2 256), IntKind.wrap .u8 (Int.tmod x1 256), IntKind.wrap .u8 (Int.tmod x 256)] := by
    intro x1 x2 x3 x4 e1 e2 e3
    subst e1 e2 e3
    kernel_rfl
  rw [h (x / 256) (x / 256 / 256) (x / 256 / 256 / 256) 0 (tdw h0 h1) (tdw (by omega) (by omega)) (tdw (by omega) (by omega))]
  rw [tm _ (by omega), tm _ (by omega), tm _ (by omega), tm _ h0]
  simp only [wrapu8, be4]
  simp only [Option.some.injEq, List.cons.injEq, and_true]
  omega
theorem bytes8 {k : Nat} (hk : 10 ≤ k) {x : Int} (h0 : 0 ≤ x) (h1 : x < 18446744073709551616) : ref49_bytes.f k x 8 = some (be8 x) := by
  obtain ⟨k, rfl⟩ : ∃ q, k = q + 10 := ⟨k - 10, by omega⟩
  have h : ∀ x1 x2 x3 x4 x5 x6 x7 : Int, IntKind.wrap .u64 (Int.tdiv x 256) = x1 → IntKind.wrap .u64 (Int.tdiv x1 256) = x2 → IntKind.wrap .u64 (Int.tdiv x2 256) = x3 → IntKind.wrap .u64 (Int.tdiv x3 256) = x4 → IntKind.wrap .u64 (Int.tdiv x4 256) = x5 → IntKind.wrap .u64 (Int.tdiv x5 256) = x6 → IntKind.wrap .u64 (Int.tdiv x6 256) = x7 →
      ref49_bytes.f (k + 10) x 8 = some [IntKind.wrap .u8 (Int.tmod x7 256), IntKind.wrap .u8 (Int.tmod x6 256), IntKind.wrap .u8 (Int.tmod x5 256), IntKind.wrap .u8 (Int.tmod x4 256), IntKind.wrap .u8 (Int.tmod x3 256), IntKind.wrap .u8 (Int.tmod x2 256), IntKind.wrap .u8 (Int.tmod x1 256), IntKind.wrap .u8 (Int.tmod x 256)] := by
    intro x1 x2 x3 x4 x5 x6 x7 e1 e2 e3 e4 e5 e6 e7
    subst e1 e2 e3 e4 e5 e6 e7
    kernel_rfl
  rw [h (x / 256) (x / 256 / 256) (x / 256 / 256 / 256) (x / 256 / 256 / 256 / 256) (x / 256 / 256 / 256 / 256 / 256) (x / 256 / 256 / 256 / 256 / 256 / 256) (x / 256 / 256 / 256 / 256 / 256 / 256 / 256) (tdw h0 h1) (tdw (by omega) (by omega)) (tdw (by omega) (by omega)) (tdw (by omega) (by omega)) (tdw (by omega) (by omega)) (tdw (by omega) (by omega)) (tdw (by omega) (by omega))]
  rw [tm _ (by omega), tm _ (by omega), tm _ (by omega), tm _ (by omega), tm _ (by omega), tm _ (by omega), tm _ (by omega), tm _ h0]
  simp only [wrapu8, be8]
  simp only [Option.some.injEq, List.cons.injEq, and_true]
  omega

theorem copied_loop {k : Nat} {b : List Int} (hl : b.length ≤ 1000000) : ∀ (m q i : Nat) (acc : List Int), i + m = b.length → acc.length = i → m < q → ref49_copied.l58 k q acc b (b.length : Int) (i : Int) = some (acc ++ b.drop i)
  | 0, q + 1, i, acc => fun hi ha _ => by
    rw [ref49_copied.l58, decide_eq_false (by omega), List.drop_eq_nil_of_le (by omega), List.append_nil]
    rfl
  | m + 1, q + 1, i, acc => fun hi ha hq => by
    have hlt : i < b.length := by omega
    have e1 : IntKind.wrap .i64 ((i : Int) + 1) = ((i + 1 : Nat) : Int) := by rw [wrap64 (by omega) (by omega)]; rfl
    have hx : b[i]? = some b[i] := List.getElem?_eq_getElem hlt
    rw [ref49_copied.l58, decide_eq_true (by omega), inB_ok hlt, cond_true, cond_true, fits_ok (by omega), cond_true, rdL_ok (e := .int .u8) hx, e1, copied_loop hl m q (i + 1) _ (by omega) (by simp [ha]) (by omega), List.drop_eq_getElem_cons hlt]
    simp
  | _, 0, _, _ => fun _ _ h => by omega
theorem copied_spec {k : Nat} {b : List Int} (hl : b.length ≤ 1000000) (hk : b.length < k) : ref49_copied.f k b = some b := by
  have := copied_loop (k := k) hl b.length k 0 [] (by omega) rfl hk
  rw [show ((0 : Nat) : Int) = 0 from rfl, List.drop_zero, List.nil_append] at this
  rw [ref49_copied.f, this]; rfl
theorem clone_id {k : Nat} {b : List Int} (hl : b.length ≤ 1000000) : bytes_Clone.f k b = some b := by
  cases b with
  | nil => rfl
  | cons z l =>
    simp only [bytes_Clone.f, bytes_Clone0.f]
    rw [decide_eq_true (show 0 < (z :: l).length by simp), cond_true, fits_ok (by omega)]
    rfl
end Gv

/- Plain laws: the encoding of a tree, by the reference. -/
namespace Gv
open Go
set_option linter.unusedVariables false
set_option linter.unusedSimpArgs false

theorem varR_loop {k : Nat} : ∀ (d q : Nat) (x : Int) (b : List Int), 0 ≤ x → x < 18446744073709551616 → x < 128 * 128 ^ d → d < q → b.length + (vi d x).length ≤ 1000000000 →
    ∃ b' y, ref10_varint.l12 k q b x = some (b', y) ∧ 0 ≤ y ∧ y ≤ 127 ∧ b' ++ [y] = b ++ vi d x
  | 0, q + 1, x, b => fun h0 h64 h1 _ _ => by
    refine ⟨b, x, ?_, h0, by omega, by simp [vi]⟩
    unfold ref10_varint.l12
    rw [decide_eq_false (by omega)]; rfl
  | d + 1, q + 1, x, b => fun h0 h64 h1 hq hb => by
    unfold ref10_varint.l12
    rw [vi_succ] at hb ⊢
    by_cases hx : x ≤ 127
    · rw [decide_eq_false (by omega)]
      exact ⟨b, x, rfl, h0, hx, by rw [if_pos hx]⟩
    · rw [decide_eq_true (by omega)]
      rw [if_neg hx] at hb ⊢
      simp only [List.length_cons] at hb
      have h2 : x < 128 * (128 * 128 ^ d) := by rw [Int.pow_succ] at h1; rw [Int.mul_comm (128 : Int) (128 ^ d)]; exact h1
      have e : IntKind.wrap .u64 (Int.tdiv x 128) = x / 128 := by rw [Int.tdiv_eq_ediv_of_nonneg h0, wrapu64]; omega
      have e2 : IntKind.wrap .u8 (IntKind.wrap .u64 (Int.tmod x 128 + 128)) = x % 128 + 128 := by rw [Int.tmod_eq_emod_of_nonneg h0, wrapu64, wrapu8]; omega
      rw [fits_ok (by omega), e2, e]
      simp only [cond_true]
      obtain ⟨b', y, g1, g2, g3, g4⟩ := varR_loop d q (x / 128) (b ++ [x % 128 + 128]) (by omega) (by omega) (by generalize (128 : Int) * 128 ^ d = z at h2 ⊢; omega) (by omega) (by simp; omega)
      exact ⟨b', y, g1, g2, g3, by rw [g4]; simp⟩
  | d, 0, _, _ => fun _ _ _ h => by omega
theorem varR_spec {k : Nat} (hk : 12 ≤ k) {x : Int} (h0 : 0 ≤ x) (h1 : x < 18446744073709551616) (b : List Int) (hb : b.length + (vi 9 x).length ≤ 1000000000) : ref10_varint.f k b x = some (b ++ vi 9 x) := by
  obtain ⟨b', y, g1, g2, g3, g4⟩ := varR_loop (k := k) 9 k x b h0 h1 (by rw [show (128 : Int) * 128 ^ 9 = 1180591620717411303424 from rfl]; omega) (by omega) hb
  have hl : b'.length + 1 = b.length + (vi 9 x).length := by
    have := congrArg List.length g4
    simpa using this
  rw [ref10_varint.f, g1]
  simp only [Option.bind_some]
  rw [fits_ok (by omega)]
  simp only [cond_true]
  rw [wrapu8, Int.emod_eq_of_lt g2 (by omega), g4]

theorem fitsL {self : Int → Int → Int → ByteArray → (List Nd) → Int → Option (Bool)} {k : Nat} {l : List Nd} (hl : l.length ≤ 1024) (x0 x1 x2 : Int) (x3 : ByteArray) {t : Int} (ht0 : 0 ≤ t) (ht : t ≤ 8)
    (hs : ∀ x ∈ l, self x.tag x.kind x.n x.s x.kids (t + 1) = some true) : ∀ (m q i : Nat), i + m = l.length → m < q → ref10_fits.l250 self k q x0 x1 x2 x3 l t (i : Int) = some (.inl ())
  | 0, q + 1, i => fun hi _ => by
    unfold ref10_fits.l250
    rw [decide_eq_false (by omega), cond_false]
  | m + 1, q + 1, i => fun hi hq => by
    have hlt : i < l.length := by omega
    have hx : l[i]? = some l[i] := List.getElem?_eq_getElem hlt
    have e1 : IntKind.wrap .i64 ((i : Int) + 1) = ((i + 1 : Nat) : Int) := by rw [wrap64 (by omega) (by omega)]; rfl
    have e2 : IntKind.wrap .i64 (t + 1) = t + 1 := wrap64 (by omega) (by omega)
    unfold ref10_fits.l250
    rw [decide_eq_true (by omega), inB_ok hlt, rdL_ok (e := .node) hx, e1, e2, hs _ (List.getElem_mem hlt)]
    simp only [cond_true, Option.bind_some, Bool.not_true, cond_false]
    exact fitsL hl x0 x1 x2 x3 ht0 ht hs m q (i + 1) (by omega) (by omega)
  | _, 0, _ => fun _ h => by omega

theorem fits_spec : ∀ (d : Nat) (n : Nd), Vd d n → ∀ (k t : Nat), 1100 + d ≤ k → t + d ≤ 9 → 1 ≤ t → ref10_fits.f k n.tag n.kind n.n n.s n.kids (t : Int) = some true
  | 0, n, h => by cases h
  | d + 1, n, h => by
    intro k t hk ht ht1
    obtain ⟨k, rfl⟩ : ∃ q, k = q + 1 := ⟨k - 1, by omega⟩
    unfold ref10_fits.f ref10_fits.g
    rw [decide_eq_false (show ¬ (t : Int) > 8 by omega)]
    cases h with
    | int _ a v h0 h1 =>
      have hL := fitsL (self := ref10_fits.f k) (k := k) (l := []) (by simp) a 1 v ⟨#[]⟩ (t := (t : Int)) (by omega) (by omega) (by simp) 0 k 0 rfl (by omega)
      rw [show ((0 : Nat) : Int) = 0 from rfl] at hL
      simp only
      rw [decide_eq_false (show ¬ a < 0 by omega), decide_eq_false (show ¬ a > 9999999 by omega), hL]
      rfl
    | str _ a s h0 h1 hs =>
      have hL := fitsL (self := ref10_fits.f k) (k := k) (l := []) (by simp) a 2 0 s (t := (t : Int)) (by omega) (by omega) (by simp) 0 k 0 rfl (by omega)
      rw [show ((0 : Nat) : Int) = 0 from rfl] at hL
      simp only
      rw [decide_eq_false (show ¬ a < 0 by omega), decide_eq_false (show ¬ a > 9999999 by omega), decide_eq_false (show ¬ (s.size : Int) > 2000 by omega), hL]
      rfl
    | lst _ a l h0 h1 hl hk' =>
      have hL := fitsL (self := ref10_fits.f k) (k := k) (l := l) hl a 3 0 ⟨#[]⟩ (t := (t : Int)) (by omega) (by omega) (fun x hx => by
        have := fits_spec d x (hk' x hx) k (t + 1) (by omega) (by omega) (by omega)
        exact this) l.length k 0 (by omega) (by omega)
      rw [show ((0 : Nat) : Int) = 0 from rfl] at hL
      simp only
      rw [decide_eq_false (show ¬ a < 0 by omega), decide_eq_false (show ¬ a > 9999999 by omega), decide_eq_false (show ¬ (l.length : Int) > 1024 by omega), hL]
      rfl

theorem zzR {self : (List Int) → Int → Int → Int → ByteArray → (List Nd) → Option (List Int)} {k : Nat} (x0 x1 v : Int) (x3 : ByteArray) (x4 : List Nd) (x5 : List Int) : ref10_write.j490 self k x0 x1 v x3 x4 x5 (IntKind.wrap .u64 (2 * (IntKind.wrap .u64 v))) = some (x5, zz v) := by
  unfold ref10_write.j490 zz codec_zigzag.f
  by_cases h : v < 0
  · rw [decide_eq_true h, cond_true, cond_true, Option.getD_some]
    congr 2
    generalize IntKind.wrap .i64 (0 - IntKind.wrap .i64 (v + 1)) = y
    have hm := u64_bound y
    generalize IntKind.wrap .u64 y = m at hm ⊢
    rw [show (2 : Int) ^ 1 = 2 from rfl, wrapu64 (m * 2), BitVec.or_comm]
    have e : m * 2 % 18446744073709551616 = (m % 9223372036854775808) * 2 := by omega
    rw [e]
    have := or64 (x := 1) (m := m % 9223372036854775808) 1 (by omega) (by decide) (by omega) (by rw [show (2 : Int) ^ 1 = 2 from rfl]; omega)
    rw [show (2 : Int) ^ 1 = 2 from rfl] at this
    rw [this, wrapu64 (2 * m), wrapu64]
    omega
  · rw [decide_eq_false h, cond_false, cond_false, Option.getD_some]
    congr 2
    rw [show (2 : Int) ^ 1 = 2 from rfl, Int.mul_comm]

theorem writeL {self : List Int → Int → Int → Int → ByteArray → List Nd → Option (List Int)} {k : Nat} {l : List Nd} (hl : l.length ≤ 1024) (x0 x1 x2 : Int) (x3 : ByteArray)
    (hs : ∀ x ∈ l, ∀ b, b.length + x.enc.length ≤ 1048576 → self b x.tag x.kind x.n x.s x.kids = some (b ++ x.enc)) :
    ∀ (d q i : Nat) (b : List Int), l.length - i = d → i ≤ l.length → d < q → b.length + (Nd.enc.encL (l.drop i)).length ≤ 1048576 → ref10_write.l1018 self k q x0 x1 x2 x3 l b (i : Int) = some (b ++ Nd.enc.encL (l.drop i))
  | 0, q + 1, i, b => fun hd hi _ _ => by
    unfold ref10_write.l1018
    rw [decide_eq_false (by omega), cond_false, List.drop_eq_nil_of_le (by omega)]
    simp [Nd.enc.encL]
  | d + 1, q + 1, i, b => fun hd hi hq hb => by
    have hlt : i < l.length := by omega
    obtain ⟨x, hx⟩ : ∃ x, l[i]? = some x := ⟨l[i], List.getElem?_eq_getElem hlt⟩
    have hxm : x ∈ l := List.mem_of_getElem? hx
    have hdr : l.drop i = x :: l.drop (i + 1) := by
      rw [List.drop_eq_getElem_cons hlt]
      rw [List.getElem?_eq_getElem hlt] at hx; cases hx; rfl
    rw [hdr] at hb ⊢
    simp only [Nd.enc.encL, List.length_append] at hb ⊢
    unfold ref10_write.l1018
    rw [decide_eq_true (by omega), inB_ok hlt, rdL_ok (e := .node) hx]
    simp only [cond_true]
    rw [hs x hxm b (by omega)]
    simp only [Option.bind_some]
    have e1 : IntKind.wrap .i64 ((i : Int) + 1) = ((i + 1 : Nat) : Int) := by rw [wrap64 (by omega) (by omega)]; rfl
    rw [e1, writeL hl x0 x1 x2 x3 hs d q (i + 1) (b ++ x.enc) (by omega) (by omega) (by omega) (by simp only [List.length_append]; omega), List.append_assoc]
  | _, 0, _, _ => fun _ _ h => by omega

theorem write_tree : ∀ (d : Nat) (n : Nd), Vd d n → ∀ (k : Nat) (b : List Int), 1100 + d ≤ k → b.length + n.enc.length ≤ 1048576 → ref10_write.f k b n.tag n.kind n.n n.s n.kids = some (b ++ n.enc)
  | 0, n, h => by cases h
  | d + 1, n, h => by
    intro k b hk hb
    obtain ⟨k, rfl⟩ : ∃ q, k = q + 1 := ⟨k - 1, by omega⟩
    unfold ref10_write.f ref10_write.g
    rw [decide_eq_false (show ¬ (b.length : Int) > 1048576 by omega), cond_false]
    cases h with
    | int _ t v h0 h1 =>
      simp only [Nd.enc, if_true, List.length_append, List.length_cons] at hb ⊢
      obtain ⟨z1, z2, z3⟩ := zz_spec k v
      rw [wrapu64 t, Int.emod_eq_of_lt h0 (by omega), varR_spec (by omega) h0 (by omega) b (by omega)]
      simp only [Option.bind_some]
      rw [fits_ok (by simp only [List.length_append]; omega), show ((1 : Int) == 1) = true from rfl, zzR]
      simp only [cond_true, Option.bind_some]
      rw [show IntKind.wrap .u8 1 = 1 from rfl, varR_spec (by omega) z2 z3 _ (by simp only [List.length_append, List.length_cons, List.length_nil]; omega)]
      simp
    | str _ t s h0 h1 hs =>
      simp only [Nd.enc, show ((2 : Int) = 1) = False by decide, if_false, if_true, List.length_append, List.length_cons] at hb ⊢
      rw [wrapu64 t, Int.emod_eq_of_lt h0 (by omega), varR_spec (by omega) h0 (by omega) b (by omega)]
      simp only [Option.bind_some]
      rw [fits_ok (by simp only [List.length_append]; omega), show ((2 : Int) == 1) = false from rfl, show ((2 : Int) == 2) = true from rfl]
      simp only [cond_true, cond_false]
      rw [show IntKind.wrap .u8 2 = 2 from rfl, wrapu64 (s.size : Int), Int.emod_eq_of_lt (by omega) (by omega), varR_spec (by omega) (by omega) (by omega) _ (by simp only [List.length_append, List.length_cons, List.length_nil]; omega)]
      simp only [Option.bind_some]
      rw [fits_ok (by simp only [List.length_append, List.length_cons, List.length_nil]; omega)]
      simp
    | lst _ t l h0 h1 hl hk' =>
      simp only [Nd.enc, show ((3 : Int) = 1) = False by decide, show ((3 : Int) = 2) = False by decide, if_false, List.length_append, List.length_cons] at hb ⊢
      rw [wrapu64 t, Int.emod_eq_of_lt h0 (by omega), varR_spec (by omega) h0 (by omega) b (by omega)]
      simp only [Option.bind_some]
      rw [fits_ok (by simp only [List.length_append]; omega), show ((3 : Int) == 1) = false from rfl, show ((3 : Int) == 2) = false from rfl]
      simp only [cond_true, cond_false]
      rw [show IntKind.wrap .u8 3 = 3 from rfl, wrapu64 (l.length : Int), Int.emod_eq_of_lt (by omega) (by omega), varR_spec (by omega) (by omega) (by omega) _ (by simp only [List.length_append, List.length_cons, List.length_nil]; omega)]
      simp only [Option.bind_some]
      have := writeL (k := k) hl t 3 0 ⟨#[]⟩ (fun x hx b hb => write_tree d x (hk' x hx) k b (by omega) hb) l.length k 0 ((b ++ vi 9 t ++ [3]) ++ vi 9 (l.length : Int)) (by omega) (by omega) (by omega) (by simp only [List.drop_zero, List.length_append, List.length_cons, List.length_nil]; omega)
      rw [show ((0 : Nat) : Int) = 0 from rfl] at this
      rw [this]
      simp

theorem Encode_ref {k : Nat} (hk : 2200 ≤ k) {e : Ev} (h : e.Ok) : ref10_Encode.f k 50 3 0 ⟨#[]⟩ (encKids e) = some ((encN e).enc, 0) := by
  have hl := encN_len h
  have h1 : ref10_fits.f k 50 3 0 ⟨#[]⟩ (encKids e) 1 = some true := fits_spec 3 (encN e) (encN_vd h) k 1 (by omega) (by omega) (by omega)
  have h2 : ref10_write.f k [] 50 3 0 ⟨#[]⟩ (encKids e) = some ([] ++ (encN e).enc) := write_tree 3 (encN e) (encN_vd h) k [] (by omega) (by simp; omega)
  rw [ref10_Encode.f, h1]
  simp only [Option.bind_some, Bool.not_true, cond_false]
  rw [h2, List.nil_append]
  simp only [Option.bind_some]
  rw [decide_eq_false (by omega)]
  rfl

theorem entry_size {k : Nat} (hk : 2200 ≤ k) {e : Ev} (h : e.Ok) : resume_entry.f k 50 3 0 ⟨#[]⟩ (encKids e) = some ((12 + (encN e).enc.length : Nat) : Int) ∧ ref52_size.f k 50 3 0 ⟨#[]⟩ (encKids e) = some ((12 + (encN e).enc.length : Nat) : Int) := by
  have hl := encN_len h
  constructor
  · rw [resume_entry.f, Encode_spec hk h]
    simp only [Option.bind_some]
    rw [wrap64 (n := 4 + ((encN e).enc.length : Int)) (by omega) (by omega), wrap64 (by omega) (by omega)]
    congr 1
    omega
  · rw [ref52_size.f, Encode_ref hk h]
    simp only [Option.bind_some]
    rw [wrap64 (by omega) (by omega)]
    congr 1
end Gv

/- Plain laws: the entries of a journal, read by the program and by the reference. -/
namespace Gv
open Go
set_option linter.unusedVariables false
set_option linter.unusedSimpArgs false

theorem take_left' {α : Type} {a b : List α} {n : Nat} (h : a.length = n) : (a ++ b).take n = a := by subst h; simp
theorem drop_left' {α : Type} {a b : List α} {n : Nat} (h : a.length = n) : (a ++ b).drop n = b := by subst h; simp

theorem Decode_both {k : Nat} (hk : 2200 ≤ k) {p : List Int} (hB : IsB p) (hl : p.length ≤ 1000000) :
    (∃ x r, p = x.enc ++ r ∧ Vd 8 x ∧ codec_Decode.f k p = some (x.tag, x.kind, x.n, x.s, x.kids, (x.enc.length : Int), 0) ∧ ref10_Decode.f k p = some (x.tag, x.kind, x.n, x.s, x.kids, (x.enc.length : Int), 0)) ∨
    (∃ c t' k' n' s' l' u' c', c ≠ 0 ∧ c' ≠ 0 ∧ codec_Decode.f k p = some (0, 0, 0, ⟨#[]⟩, [], 0, c) ∧ ref10_Decode.f k p = some (t', k', n', s', l', u', c')) := by
  have h1 := codeN 8 1 k p (by omega) (by omega) hl [] p hB (by simp)
  have h2 := refN 8 1 k p (by omega) (by omega) hl [] p hB (by simp)
  cases hr : rdN 8 p with
  | none =>
    rw [hr] at h1 h2
    obtain ⟨u, e, g1, g2⟩ := h1
    obtain ⟨t', k', n', s', l', u', c', g3, g4⟩ := h2
    have g1' : codec_decoder_node.f k p 0 1 = some (.inr (p, u, e)) := g1
    have g3' : ref10_node.f k p 0 1 = some (t', k', n', s', l', u', c') := g3
    right
    refine ⟨e, t', k', n', s', l', u', c', g2, g4, ?_, ?_⟩
    · rw [codec_Decode.f, g1']; rfl
    · rw [ref10_Decode.f, g3']; rfl
  | some y =>
    obtain ⟨x, r⟩ := y
    obtain ⟨q1, q2⟩ := rdN_canon 8 p x r hB hr
    rw [hr] at h1 h2
    have g1' : codec_decoder_node.f k p 0 1 = some (.inl (p, (x.enc.length : Int), x.tag, x.kind, x.n, x.s, x.kids)) := h1
    have g3' : ref10_node.f k p 0 1 = some (x.tag, x.kind, x.n, x.s, x.kids, (x.enc.length : Int), 0) := h2
    left
    refine ⟨x, r, q1, q2, ?_, ?_⟩
    · rw [codec_Decode.f, g1']; rfl
    · rw [ref10_Decode.f, g3']; rfl

/-- An entry: the same tree, length and digest, or the same error. -/
def EntOk (k : Nat) (b : List Int) (d : Int) (n : Nat) : Prop :=
  (∃ x s, journal_entry.f k b d = some (.inl (x.tag, x.kind, x.n, x.s, x.kids, ((12 + x.enc.length : Nat) : Int), s)) ∧ ref49_entry.f k b (n : Int) d = some (x.tag, x.kind, x.n, x.s, x.kids, ((12 + x.enc.length : Nat) : Int), s, 0) ∧ Vd 8 x ∧ 12 + x.enc.length ≤ b.length ∧ x.enc.length ≤ 2000) ∨
  (∃ c, c ≠ 0 ∧ journal_entry.f k b d = some (.inr (0, 0, 0, ⟨#[]⟩, [], 0, 0, c)) ∧ ref49_entry.f k b (n : Int) d = some (0, 0, 0, ⟨#[]⟩, [], 0, 0, c))

theorem entry_both {k : Nat} (hk : 10000 ≤ k) {b : List Int} (hB : IsB b) (hl : b.length ≤ 5000) (d : Int) {n : Nat} (hn : n < 300) : EntOk k b d n := by
  unfold EntOk
  rw [journal_entry.f, ref49_entry.f, decide_eq_false (show ¬ (n : Int) ≥ 300 by omega), cond_false]
  by_cases h4 : b.length < 4
  · rw [decide_eq_true (show (b.length : Int) < 4 by omega), cond_true, cond_true]
    exact .inr ⟨4, by decide, rfl, rfl⟩
  · rw [decide_eq_false (show ¬ (b.length : Int) < 4 by omega), cond_false, cond_false]
    obtain ⟨y, n1, n2, y0, y1⟩ := number_both (k := k) (by omega) (b := b) (n := 4) (by omega) (by omega) hB
    have n2 : ref49_number.f k b 4 = some y := n2
    have t4 : List.drop (Int.toNat 0) (List.take (Int.toNat 4) b) = b.take 4 := rfl
    rw [t4, n1, n2, decide_eq_true (show (0 : Int) ≤ 0 by omega), decide_eq_true (show (0 : Int) ≤ 4 by omega), decide_eq_true (show (4 : Int) ≤ (b.length : Int) by omega)]
    simp only [Bool.and_self, cond_true, Option.bind_some]
    by_cases hy : y > 2000
    · rw [decide_eq_true hy, cond_true, cond_true]
      exact .inr ⟨5, by decide, rfl, rfl⟩
    · rw [decide_eq_false hy, cond_false, cond_false]
      obtain ⟨M, rfl⟩ := Int.eq_ofNat_of_zero_le y0
      have w0 : IntKind.wrap .i64 (M : Int) = (M : Int) := wrap64 (by omega) (by omega)
      have w1 : IntKind.wrap .i64 (4 + (M : Int)) = ((4 + M : Nat) : Int) := by rw [wrap64 (by omega) (by omega)]; omega
      have w2 : IntKind.wrap .i64 (((4 + M : Nat) : Int) + 8) = ((12 + M : Nat) : Int) := by rw [wrap64 (by omega) (by omega)]; omega
      have w3 : IntKind.wrap .i64 (((4 + M : Nat) : Int) - 4) = (M : Int) := by rw [wrap64 (by omega) (by omega)]; omega
      rw [w0, w1, w2, w3]
      by_cases h12 : b.length < 12 + M
      · rw [decide_eq_true (show (b.length : Int) < ((12 + M : Nat) : Int) by omega), cond_true, cond_true]
        exact .inr ⟨4, by decide, rfl, rfl⟩
      · rw [decide_eq_false (show ¬ (b.length : Int) < ((12 + M : Nat) : Int) by omega), cond_false, cond_false]
        have te : List.drop (Int.toNat 0) (List.take (Int.toNat ((4 + M : Nat) : Int)) b) = b.take (4 + M) := by
          rw [Int.toNat_natCast]; rfl
        have tlen : (b.take (4 + M)).length = 4 + M := by rw [List.length_take]; omega
        have tp : List.drop (Int.toNat 4) (List.take (Int.toNat ((4 + M : Nat) : Int)) b) = (b.take (4 + M)).drop 4 := by rw [Int.toNat_natCast]; rfl
        have t8 : List.drop (Int.toNat ((4 + M : Nat) : Int)) (List.take (Int.toNat ((12 + M : Nat) : Int)) b) = (b.drop (4 + M)).take 8 := by
          rw [Int.toNat_natCast, Int.toNat_natCast, List.drop_take]
          congr 1
          omega
        have tr : List.drop (Int.toNat ((4 + M : Nat) : Int)) (List.take (Int.toNat (b.length : Int)) b) = b.drop (4 + M) := by
          rw [Int.toNat_natCast, Int.toNat_natCast, List.take_length]
        obtain ⟨s, hs, s0, s1⟩ := chain_spec (k := k) (b := b.take (4 + M)) (by omega) (by omega) d
        have hs' := chain_same k d (b.take (4 + M))
        rw [hs] at hs'
        have hBd : IsB (b.drop (4 + M)) := fun c hc => hB c (List.mem_of_mem_drop hc)
        obtain ⟨w, m1, m2, _, _⟩ := number_both (k := k) (by omega) (b := b.drop (4 + M)) (n := 8) (by rw [List.length_drop]; omega) (by omega) hBd
        have m2 : ref49_number.f k (b.drop (4 + M)) 8 = some w := m2
        rw [te, tp, t8, tr, hs, hs', m1, m2]
        rw [decide_eq_true (show (0 : Int) ≤ ((4 + M : Nat) : Int) by omega), decide_eq_true (show ((4 + M : Nat) : Int) ≤ (b.length : Int) by omega), decide_eq_true (show ((4 + M : Nat) : Int) ≤ ((12 + M : Nat) : Int) by omega), decide_eq_true (show ((12 + M : Nat) : Int) ≤ (b.length : Int) by omega), decide_eq_true (show (b.length : Int) ≤ (b.length : Int) by omega), decide_eq_true (show (4 : Int) ≤ ((4 + M : Nat) : Int) by omega)]
        simp only [Bool.and_self, cond_true, Option.bind_some]
        by_cases hsw : s = w
        · subst hsw
          simp only [bne_self_eq_false, cond_false]
          have hBp : IsB ((b.take (4 + M)).drop 4) := fun c hc => hB.take _ c (List.mem_of_mem_drop hc)
          have plen : ((b.take (4 + M)).drop 4).length = M := by rw [List.length_drop, tlen]; omega
          rcases Decode_both (k := k) (by omega) hBp (by omega) with ⟨x, r, hp, hv, d1, d2⟩ | ⟨c, t', k', n', s', l', u', c', c0, c0', d1, d2⟩
          · rw [d1, d2]
            simp only [Option.bind_some, bne_self_eq_false, cond_false]
            have hle : x.enc.length + r.length = M := by rw [← plen, hp, List.length_append]
            by_cases hu : x.enc.length = M
            · rw [hu, bne_self_eq_false]
              simp only [cond_false]
              left
              refine ⟨x, s, rfl.trans ?_, rfl.trans ?_, hv, by omega, by omega⟩ <;> rw [hu]
            · have : ((x.enc.length : Int) != (M : Int)) = true := by simp; omega
              rw [this]
              exact .inr ⟨2, by decide, rfl, rfl⟩
          · rw [d1, d2]
            have e1 : (c != 0) = true := by simp [c0]
            have e2 : (c' != 0) = true := by simp [c0']
            simp only [Option.bind_some, e1, e2, cond_true]
            exact .inr ⟨2, by decide, rfl, rfl⟩
        · have e1 : (s != w) = true := by simp [hsw]
          have e2 : (w != s) = true := by simp [Ne.symm hsw]
          rw [e1, e2, cond_true, cond_true]
          exact .inr ⟨12, by decide, rfl, rfl⟩

/-- The bytes of the entries of trees. -/
def tot : List Nd → Nat
  | [] => 0
  | x :: l => (12 + x.enc.length) + tot l
theorem tot_append : ∀ (a b : List Nd), tot (a ++ b) = tot a + tot b
  | [], b => by simp [tot]
  | x :: a, b => by simp only [List.cons_append, tot, tot_append a b]; omega
def NdsOk (l : List Nd) : Prop := ∀ x ∈ l, Vd 8 x ∧ x.enc.length ≤ 2000

/-- What both read from a journal. -/
def ReadR (c1 : Option ((List Nd × Int × Int) ⊕ (List Nd × Int × Int × Int))) (c2 : Option ((List Nd × Int × Int) ⊕ (List Nd × Int × Int × Int))) (n : Nat) : Prop :=
  ∃ nodes d c, NdsOk nodes ∧ nodes.length ≤ 300 ∧ tot nodes ≤ n ∧
    ((c = 0 ∧ c1 = some (.inl (nodes, ((tot nodes : Nat) : Int), d)) ∧ c2 = some (.inl (nodes, ((tot nodes : Nat) : Int), d))) ∨
     (c ≠ 0 ∧ c1 = some (.inr (nodes, ((tot nodes : Nat) : Int), d, c)) ∧ c2 = some (.inr (nodes, ((tot nodes : Nat) : Int), d, c))))

theorem read_both {k : Nat} (hk : 10000 ≤ k) {b : List Int} (hl : b.length ≤ 5000) : ∀ (q : Nat) (nodes : List Nd) (pre l : List Int) (d : Int), b = pre ++ l → IsB l → nodes.length ≤ 300 → pre.length = tot nodes → NdsOk nodes → l.length < q →
    ReadR (journal_read.l60 k q nodes b (pre.length : Int) d) (ref49_read.l124 k q nodes b (pre.length : Int) d) b.length
  | q + 1, nodes, pre, [], d => fun hb hB hn hp hok hq => by
    have hbl : b.length = pre.length := by rw [hb]; simp
    unfold journal_read.l60 ref49_read.l124
    rw [decide_eq_false (show ¬ (pre.length : Int) < (b.length : Int) by omega), cond_false, cond_false]
    exact ⟨nodes, d, 0, hok, hn, by omega, .inl ⟨rfl, by rw [hp], by rw [hp]⟩⟩
  | q + 1, nodes, pre, c :: l, d => fun hb hB hn hp hok hq => by
    have hbl : b.length = pre.length + (c :: l).length := by rw [hb, List.length_append]
    have hdr : List.drop (Int.toNat (pre.length : Int)) (List.take (Int.toNat (b.length : Int)) b) = c :: l := by
      rw [Int.toNat_natCast, Int.toNat_natCast, List.take_length, hb]
      exact drop_left' rfl
    have hlen : (c :: l).length = l.length + 1 := rfl
    unfold journal_read.l60 ref49_read.l124
    rw [decide_eq_true (show (pre.length : Int) < (b.length : Int) by omega), decide_eq_true (show (0 : Int) ≤ (pre.length : Int) by omega), decide_eq_true (show (pre.length : Int) ≤ (b.length : Int) by omega), decide_eq_true (show (b.length : Int) ≤ (b.length : Int) by omega), hdr]
    simp only [Bool.and_self, cond_true]
    by_cases h3 : nodes.length = 300
    · have e3 : ((nodes.length : Int) == 300) = true := by simp [h3]
      have e4 : ref49_entry.f k (c :: l) (nodes.length : Int) d = some (0, 0, 0, ⟨#[]⟩, [], 0, 0, 5) := by
        rw [ref49_entry.f, decide_eq_true (show (nodes.length : Int) ≥ 300 by omega), cond_true]
      rw [e3, e4, cond_true]
      simp only [Option.bind_some]
      rw [show ((5 : Int) != 0) = true from rfl, cond_true]
      exact ⟨nodes, d, 5, hok, hn, by omega, .inr ⟨by decide, by rw [hp], by rw [hp]⟩⟩
    · have e3 : ((nodes.length : Int) == 300) = false := by simp; omega
      rw [e3, cond_false]
      rcases entry_both hk hB (by omega) d (n := nodes.length) (by omega) with ⟨x, s, h1, h2, hv, hle, h20⟩ | ⟨e, e0, h1, h2⟩
      · rw [h1, h2]
        simp only [Option.bind_some, bne_self_eq_false, cond_false]
        rw [fits_ok (by omega), cond_true, cond_true, Nd.eta]
        have ew : IntKind.wrap .i64 ((pre.length : Int) + ((12 + x.enc.length : Nat) : Int)) = ((pre ++ (c :: l).take (12 + x.enc.length)).length : Int) := by
          rw [wrap64 (by omega) (by omega), List.length_append, List.length_take]
          omega
        rw [ew]
        refine read_both hk hl q (nodes ++ [x]) (pre ++ (c :: l).take (12 + x.enc.length)) ((c :: l).drop (12 + x.enc.length)) s ?_ ?_ ?_ ?_ ?_ ?_
        · rw [List.append_assoc, List.take_append_drop]; exact hb
        · exact fun z hz => hB z (List.mem_of_mem_drop hz)
        · simp; omega
        · rw [tot_append, List.length_append, List.length_take, hp]
          simp only [tot]
          omega
        · intro z hz
          rcases List.mem_append.1 hz with hz | hz
          · exact hok z hz
          · rw [List.mem_singleton.1 hz]; exact ⟨hv, h20⟩
        · rw [List.length_drop]; omega
      · rw [h1, h2]
        have : (e != 0) = true := by simp [e0]
        simp only [Option.bind_some, this, cond_true]
        exact ⟨nodes, d, e, hok, hn, by omega, .inr ⟨e0, by rw [hp], by rw [hp]⟩⟩
  | 0, _, _, _, _ => fun _ _ _ _ _ h => by omega

/-- What both read from any bytes. -/
theorem read_same {k : Nat} (hk : 10000 ≤ k) {b : List Int} (hl : b.length ≤ 5000) (hB : IsB b) : ∃ nodes d c, NdsOk nodes ∧ nodes.length ≤ 300 ∧ tot nodes ≤ b.length ∧
    ref49_read.f k b = some (nodes, ((tot nodes : Nat) : Int), d, c) ∧
    ((c = 0 ∧ journal_read.f k b = some (.inl (nodes, ((tot nodes : Nat) : Int), d))) ∨ (c ≠ 0 ∧ journal_read.f k b = some (.inr (nodes, ((tot nodes : Nat) : Int), d, c)))) := by
  obtain ⟨nodes, d, c, h1, h2, h3, h4⟩ := read_both hk hl k [] [] b 14695981039346656037 (by simp) hB (by simp) rfl (fun x hx => by simp at hx) (by omega)
  rw [show ((([] : List Int).length : Nat) : Int) = 0 from rfl] at h4
  refine ⟨nodes, d, c, h1, h2, h3, ?_, ?_⟩
  · rw [ref49_read.f, of_same (by omega)]
    simp only [Option.bind_some]
    rcases h4 with ⟨h0, g1, g2⟩ | ⟨h0, g1, g2⟩ <;> rw [g2]
    · rw [h0]; rfl
    · rfl
  · rw [journal_read.f, of_spec (by omega)]
    simp only [Option.bind_some]
    rcases h4 with ⟨h0, g1, g2⟩ | ⟨h0, g1, g2⟩ <;> rw [g1]
    · exact .inl ⟨h0, rfl⟩
    · exact .inr ⟨h0, rfl⟩
end Gv

/- Plain laws: the events of a journal. -/
namespace Gv
open Go
set_option linter.unusedVariables false
set_option linter.unusedSimpArgs false

theorem Vd.fit : ∀ (d : Nat) (n : Nd), Vd d n → Fit n
  | 0, n, h => by cases h
  | d + 1, n, h => by
    cases h with
    | int _ t v h0 h1 => exact .mk _ (by simp) (by simp)
    | str _ t s h0 h1 hs => exact .mk _ (by simp) (by simp)
    | lst _ t l h0 h1 hl hk => exact .mk _ (by simp only; omega) (fun x hx => Vd.fit d x (hk x hx))
theorem sz_encL : ∀ (l : List Nd), (∀ x ∈ l, x.sz ≤ x.enc.length) → Nd.sz.szL l ≤ (Nd.enc.encL l).length
  | [], _ => by simp [Nd.sz.szL]
  | x :: l, h => by
    have h1 := h x (by simp)
    have h2 := sz_encL l (fun y hy => h y (by simp [hy]))
    simp only [Nd.sz.szL, Nd.enc.encL, List.length_append]
    omega
theorem sz_enc : ∀ (d : Nat) (n : Nd), Vd d n → n.sz ≤ n.enc.length
  | 0, n, h => by cases h
  | d + 1, n, h => by
    cases h with
    | int _ t v h0 h1 =>
      simp only [Nd.sz, Nd.sz.szL, Nd.enc, List.length_append, List.length_cons]; omega
    | str _ t s h0 h1 hs =>
      simp only [Nd.sz, Nd.sz.szL, Nd.enc, List.length_append, List.length_cons]; omega
    | lst _ t l h0 h1 hl hk =>
      have := sz_encL l (fun x hx => sz_enc d x (hk x hx))
      simp only [Nd.sz, Nd.enc, show ((3 : Int) = 1) = False by decide, show ((3 : Int) = 2) = False by decide, if_false, List.length_append, List.length_cons]
      omega
theorem tot_le : ∀ (l : List Nd), NdsOk l → tot l ≤ 2012 * l.length
  | [], _ => by simp [tot]
  | x :: l, h => by
    have h1 := (h x (by simp)).2
    have h2 := tot_le l (fun y hy => h y (by simp [hy]))
    simp only [tot, List.length_cons]
    omega

abbrev EvT : Type := Int × Int × (Int × List Int × Int × ByteArray × Bool) × Int × Int × Int × Int

theorem ev_both {k : Nat} (hk : 10000 ≤ k) {nodes : List Nd} (hok : NdsOk nodes) (hn : nodes.length ≤ 300) (E c : Int) : ∀ (m q i : Nat) (acc : List EvT), i + m = nodes.length → m < q → acc.length = i → (∀ t ∈ acc, t.2.2.1.2.1.length ≤ 10) →
    ∃ out : List EvT, (∀ t ∈ out, t.2.2.1.2.1.length ≤ 10) ∧ out.length ≤ 300 ∧
      ((resume_Events.l250 k q acc E c ((tot (nodes.take i) : Nat) : Int) nodes (nodes.length : Int) (i : Int) = some (.inl (out, E, c)) ∧ ref52_Events.l250 k q acc nodes c ((tot (nodes.take i) : Nat) : Int) (i : Int) = some (.inl (out, c, ((tot nodes : Nat) : Int)))) ∨
       ∃ a, resume_Events.l250 k q acc E c ((tot (nodes.take i) : Nat) : Int) nodes (nodes.length : Int) (i : Int) = some (.inr (out, a, 2)) ∧ ref52_Events.l250 k q acc nodes c ((tot (nodes.take i) : Nat) : Int) (i : Int) = some (.inr (out, a, 2)))
  | 0, q + 1, i, acc => fun hi _ ha hacc => by
    have hi : i = nodes.length := by omega
    subst hi
    refine ⟨acc, hacc, by omega, .inl ⟨?_, ?_⟩⟩
    · rw [resume_Events.l250, decide_eq_false (by omega), cond_false]
    · rw [ref52_Events.l250, decide_eq_false (by omega), cond_false, List.take_length]
  | m + 1, q + 1, i, acc => fun hi hq ha hacc => by
    have hlt : i < nodes.length := by omega
    have hx : nodes[i]? = some nodes[i] := List.getElem?_eq_getElem hlt
    obtain ⟨hv, hle⟩ := hok _ (List.getElem_mem hlt)
    have htk : nodes.take (i + 1) = nodes.take i ++ [nodes[i]] := List.take_succ_eq_append_getElem hlt
    have htot : tot (nodes.take (i + 1)) = tot (nodes.take i) + (12 + nodes[i].enc.length) := by rw [htk, tot_append]; rfl
    have hbig := tot_le (nodes.take (i + 1)) (fun x hx => hok x (List.mem_of_mem_take hx))
    have hlen : (nodes.take (i + 1)).length ≤ 300 := by rw [List.length_take]; omega
    generalize nodes[i] = x at *
    have e1 : IntKind.wrap .i64 ((i : Int) + 1) = ((i + 1 : Nat) : Int) := by rw [wrap64 (by omega) (by omega)]; rfl
    have hsz := sz_enc 8 x hv
    obtain ⟨e, ok, d1, d2, hE⟩ := decode_both (k := k) x (by omega) (Vd.fit 8 x hv)
    rw [resume_Events.l250, ref52_Events.l250, decide_eq_true (by omega), inB_ok hlt, rdL_ok (e := .node) hx, d1, d2]
    simp only [cond_true, Option.bind_some]
    cases ok with
    | false =>
      simp only [decR, Bool.false_eq_true, if_false]
      rw [show ((2 : Int) != 0) = true from rfl, cond_true, cond_true]
      exact ⟨acc, hacc, by omega, .inr ⟨_, rfl, rfl⟩⟩
    | true =>
      obtain ⟨ok', hxe⟩ := hE rfl
      obtain ⟨s1, s2⟩ := entry_size (k := k) (by omega) ok'
      have s1 : resume_entry.f k x.tag x.kind x.n x.s x.kids = some ((12 + x.enc.length : Nat) : Int) := by rw [hxe]; exact s1
      have s2 : ref52_size.f k x.tag x.kind x.n x.s x.kids = some ((12 + x.enc.length : Nat) : Int) := by rw [hxe]; exact s2
      simp only [decR, if_true, bne_self_eq_false, cond_false]
      rw [fits_ok (by omega), s1, s2, e1]
      simp only [cond_true, Option.bind_some]
      have ew : IntKind.wrap .i64 (((tot (nodes.take i) : Nat) : Int) + ((12 + x.enc.length : Nat) : Int)) = ((tot (nodes.take (i + 1)) : Nat) : Int) := by
        rw [wrap64 (by omega) (by omega), htot]; omega
      rw [ew]
      refine ev_both hk hok hn E c m q (i + 1) _ (by omega) (by omega) (by simp [ha]) ?_
      intro t ht
      rcases List.mem_append.1 ht with ht | ht
      · exact hacc t ht
      · rw [List.mem_singleton.1 ht]; exact ok'.sc10
  | _, 0, _, _ => fun _ h => by omega

/-- The events of any bytes. -/
theorem events_both {k : Nat} (hk : 10000 ≤ k) {b : List Int} (hl : b.length ≤ 5000) (hB : IsB b) : ∃ (out : List EvT) (a c : Int), (∀ t ∈ out, t.2.2.1.2.1.length ≤ 10) ∧ out.length ≤ 300 ∧ resume_Events.f k b = some (out, a, c) ∧ ref52_Events.f k b = some (out, a, c) := by
  obtain ⟨nodes, d, c, h1, h2, h3, h4, h5⟩ := read_same hk hl hB
  obtain ⟨out, g1, g2, g3⟩ := ev_both hk h1 h2 ((tot nodes : Nat) : Int) c nodes.length k 0 [] (by omega) (by omega) rfl (fun t ht => by simp at ht)
  have e0 : ((tot (nodes.take 0) : Nat) : Int) = 0 := rfl
  rw [e0, show ((0 : Nat) : Int) = 0 from rfl] at g3
  have r1 : journal_Read.f k b = some (nodes, ((tot nodes : Nat) : Int), c) := by
    rw [journal_Read.f]
    rcases h5 with ⟨h0, h5⟩ | ⟨h0, h5⟩ <;> rw [h5]
    · rw [h0]; rfl
    · rfl
  have r2 : ref49_Read.f k b = some (nodes, ((tot nodes : Nat) : Int), c) := by rw [ref49_Read.f, h4]; rfl
  rw [resume_Events.f, r1, ref52_Events.f, r2]
  simp only [Option.bind_some]
  rcases g3 with ⟨g3, g4⟩ | ⟨a, g3, g4⟩
  · rw [g3, g4]
    exact ⟨out, _, c, g1, g2, rfl, rfl⟩
  · rw [g3, g4]
    exact ⟨out, a, 2, g1, g2, rfl, rfl⟩

theorem levents_loop {k : Nat} (hk : 100 ≤ k) {l : List EvT} (hl : l.length ≤ 300) (hs : ∀ t ∈ l, t.2.2.1.2.1.length ≤ 10) : ∀ (m q i : Nat), i + m = l.length → m < q → law52_events.l58 k q l l (i : Int) = some (.inl ())
  | 0, q + 1, i => fun hi _ => by
    rw [law52_events.l58, decide_eq_false (by omega), cond_false]
  | m + 1, q + 1, i => fun hi hq => by
    have hlt : i < l.length := by omega
    have hx : l[i]? = some l[i] := List.getElem?_eq_getElem hlt
    have hsc := hs _ (List.getElem_mem hlt)
    generalize l[i] = t at hx hsc
    have e1 : IntKind.wrap .i64 ((i : Int) + 1) = ((i + 1 : Nat) : Int) := by rw [wrap64 (by omega) (by omega)]; rfl
    have hr := same_refl (k := k) ⟨t.1, t.2.1, t.2.2.1.1, t.2.2.1.2.1, t.2.2.1.2.2.1, t.2.2.1.2.2.2.1, t.2.2.1.2.2.2.2, t.2.2.2.1, t.2.2.2.2.1, t.2.2.2.2.2.1, t.2.2.2.2.2.2⟩ (by simp only; omega) (by simp only; omega)
    simp only at hr
    rw [law52_events.l58, decide_eq_true (by omega), inB_ok hlt]
    rw [rdL_ok (e := .pr (.int .i64) (.pr (.int .i64) (.pr (.pr (.int .i64) (.pr (.sl (.int .i64)) (.pr (.int .i64) (.pr .str .bool)))) (.pr (.int .i64) (.pr (.int .i64) (.pr (.int .i64) (.int .i64))))))) hx]
    rw [hr, e1]
    simp only [cond_true, Option.bind_some, Bool.not_true, cond_false]
    exact levents_loop hk hl hs m q (i + 1) (by omega) (by omega)
  | _, 0, _ => fun _ h => by omega
theorem levents_refl {k : Nat} (hk : 1000 ≤ k) {l : List EvT} (hl : l.length ≤ 300) (hs : ∀ t ∈ l, t.2.2.1.2.1.length ≤ 10) : law52_events.f k l l = some true := by
  have := levents_loop (k := k) (by omega) hl hs l.length k 0 (by omega) (by omega)
  rw [show ((0 : Nat) : Int) = 0 from rfl] at this
  rw [law52_events.f, bne_self_eq_false, cond_false, this]
  rfl
end Gv
