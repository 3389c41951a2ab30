/- Plain laws of the encoder: the tree of an event, its size. -/
import Derived.Test.YtgkcdgbegkpmoaaGreatDoorGzT8
import Derived.Test.YtgkcdgbegkpmoaaGreatDoorGwLw
namespace Gv
open Go
set_option linter.unusedVariables false
set_option linter.unusedSimpArgs false


theorem wrap64 {n : Int} (h0 : -9223372036854775808 ≤ n) (h1 : n ≤ 9223372036854775807) : IntKind.wrap .i64 n = n := by
  have e : IntKind.wrap .i64 n = if n % 18446744073709551616 ≥ 9223372036854775808 then n % 18446744073709551616 - 18446744073709551616 else n % 18446744073709551616 := by
    show (if (true && decide (n % 18446744073709551616 ≥ 9223372036854775808)) = true then n % 18446744073709551616 - 18446744073709551616 else n % 18446744073709551616) = _
    simp only [Bool.true_and, decide_eq_true_eq]
  rw [e]
  split <;> omega

theorem inB_ok {i : Nat} {n : Nat} (h : i < n) : inB (i : Int) n = true := by simp [inB]; omega
theorem rdL_ok {e : Sh} {l : List e.T} {i : Nat} {x : e.T} (h : l[i]? = some x) : rdL e l (i : Int) = x := by
  simp [rdL, List.getD_eq_getElem?_getD, h]
theorem lt_ok {i n : Nat} : decide ((i : Int) < (n : Int)) = decide (i < n) := by simp
theorem Nd.eta (x : Nd) : (⟨x.tag, x.kind, x.n, x.s, x.kids⟩ : Nd) = x := by cases x; rfl
def Nd.sz : Nd → Nat
  | ⟨_, _, _, _, l⟩ => 1 + szL l
where szL : List Nd → Nat
  | [] => 0
  | n :: l => n.sz + szL l
theorem Nd.sz_mem : ∀ {l : List Nd} {n : Nd}, n ∈ l → n.sz ≤ Nd.sz.szL l
  | m :: l, n, h => by
    simp only [Nd.sz.szL]
    rcases List.mem_cons.1 h with rfl | h
    · omega
    · have := Nd.sz_mem h; omega
theorem Nd.sz_len : ∀ (l : List Nd), l.length ≤ Nd.sz.szL l
  | [] => by simp
  | n :: l => by
    simp only [Nd.sz.szL, List.length_cons]
    have := Nd.sz_len l
    have : 1 ≤ n.sz := by cases n; simp only [Nd.sz]; omega
    omega
theorem Nd.sz_eq (n : Nd) : n.sz = 1 + Nd.sz.szL n.kids := by cases n; rfl

/-- A node's lists are no longer than memory allows. -/
theorem reach_lt : reachBytes = 140737488351232 := by rfl

theorem NWf.kids_fit {n : Nd} (h : NWf n) : n.kids.length * 64 ≤ 140737488351232 := by
  obtain ⟨_, _, _, _, _, h4, _⟩ := h; exact h4
theorem NWf.kid {n : Nd} (h : NWf n) {x : Nd} (hx : x ∈ n.kids) : NWf x := by
  obtain ⟨_, _, _, _, _, _, h5⟩ := h; exact h5 x hx

/-- Lists no longer than memory allows, all the way down: what a copy needs. -/
inductive Fit : Nd → Prop
  | mk (n : Nd) (h : n.kids.length * 64 ≤ 140737488351232) (hk : ∀ x ∈ n.kids, Fit x) : Fit n
theorem NWf.fit {n : Nd} (h : NWf n) : Fit n := by
  induction h with
  | mk n _ _ _ _ h4 _ ih => exact .mk n h4 ih
theorem Fit.len {n : Nd} (h : Fit n) : n.kids.length * 64 ≤ 140737488351232 := by cases h; assumption
theorem Fit.kid {n : Nd} (h : Fit n) {x : Nd} (hx : x ∈ n.kids) : Fit x := by cases h; rename_i hk; exact hk x hx

theorem clone_loop {self : Int → Int → Int → ByteArray → (List Nd) → Option (Int × Int × Int × ByteArray × List Nd)} {k : Nat} {l : List Nd} (hl : l.length * 64 ≤ 140737488351232)
    (hs : ∀ x ∈ l, self x.tag x.kind x.n x.s x.kids = some (x.tag, x.kind, x.n, x.s, x.kids)) (x0 x1 x2 : Int) (x3 : ByteArray) (x4 : List Nd) (x5 x6 x7 : Int) (x8 : ByteArray) :
    ∀ (d q i : Nat) (acc : List Nd), l.length - i = d → i ≤ l.length → d < q → acc.length = i →
      codec_clone.l122 self k q x0 x1 x2 x3 x4 x5 x6 x7 x8 acc l (l.length : Int) (i : Int) = some (x0, x1, x2, x3, x4, x5, x6, x7, x8, acc ++ l.drop i) := by
  intro d
  induction d with
  | zero =>
    intro q i acc hd hi hq ha
    obtain ⟨q, rfl⟩ : ∃ q', q = q' + 1 := ⟨q - 1, by omega⟩
    have : i = l.length := by omega
    subst this
    rw [codec_clone.l122]
    rw [lt_ok, decide_eq_false (Nat.lt_irrefl _), cond_false, List.drop_length, List.append_nil]
  | succ d ih =>
    intro q i acc hd hi hq ha
    obtain ⟨q, rfl⟩ : ∃ q', q = q' + 1 := ⟨q - 1, by omega⟩
    have hlt : i < l.length := by omega
    have hx : l[i]? = some l[i] := List.getElem?_eq_getElem hlt
    have hr := rdL_ok (e := .node) hx
    have hself := hs l[i] (List.getElem_mem hlt)
    have hf : fits (acc.length + 1) 64 = true := by simp only [fits, decide_eq_true_eq]; omega
    have hw : IntKind.wrap .i64 ((i : Int) + 1) = ((i + 1 : Nat) : Int) := by rw [wrap64 (by omega) (by omega)]; rfl
    simp only [codec_clone.l122, lt_ok, hlt, decide_true, cond_true, inB_ok hlt, hr, hself, Option.bind_some, hf, hw]
    rw [ih q (i + 1) _ (by omega) (by omega) (by omega) (by simp [ha])]
    rw [List.drop_eq_getElem_cons hlt, List.append_assoc, Nd.eta]
    rfl

/-- A copy is what is copied. -/
theorem clone_spec : ∀ (k : Nat) (n : Nd), n.sz < k → Fit n → codec_clone.f k n.tag n.kind n.n n.s n.kids = some (n.tag, n.kind, n.n, n.s, n.kids)
  | 0, n, h, _ => by omega
  | k + 1, n, h, hf => by
    have hsz := n.sz_eq
    have hle := Nd.sz_len n.kids
    have hs : ∀ x ∈ n.kids, codec_clone.f k x.tag x.kind x.n x.s x.kids = some (x.tag, x.kind, x.n, x.s, x.kids) := fun x hx =>
      clone_spec k x (by have := Nd.sz_mem hx; omega) (hf.kid hx)
    have hl := clone_loop (self := codec_clone.f k) (k := k) hf.len hs 0 0 0 ⟨#[]⟩ [] n.tag n.kind n.n n.s n.kids.length k 0 [] (by omega) (by omega) (by omega) rfl
    rw [codec_clone.f, codec_clone.g]
    rw [show ((0 : Nat) : Int) = 0 from rfl] at hl
    rw [hl]
    rfl


theorem bytes_loop_eq (bs : ByteArray) : ∀ (d i : Nat) (r : List UInt8), bs.size - i = d → ByteArray.toList.loop bs i r = r.reverse ++ bs.data.toList.drop i := by
  intro d
  induction d with
  | zero =>
    intro i r h
    rw [ByteArray.toList.loop, if_neg (by omega), List.drop_eq_nil_of_le (by rw [Array.length_toList]; have : bs.data.size = bs.size := rfl; omega)]
    simp
  | succ d ih =>
    intro i r h
    have hlt : i < bs.data.toList.length := by rw [Array.length_toList]; have : bs.data.size = bs.size := rfl; omega
    rw [ByteArray.toList.loop, if_pos (by omega), ih (i + 1) _ (by omega), List.drop_eq_getElem_cons hlt]
    simp [ByteArray.get!, getElem!_def, show bs.data[i]? = some bs.data.toList[i] by rw [← Array.getElem?_toList]; exact List.getElem?_eq_getElem hlt]
theorem bytes_toList (bs : ByteArray) : bs.toList = bs.data.toList := by
  rw [ByteArray.toList, bytes_loop_eq bs _ 0 [] rfl]; simp
theorem bytes_inj {a b : ByteArray} : (a.toList == b.toList) = true ↔ a = b := by
  rw [beq_iff_eq, bytes_toList, bytes_toList]
  constructor
  · intro h; cases a; cases b; simp at h; simp [h]
  · rintro rfl; rfl



/-- An event. -/
structure Ev where
  kind : Int
  at_ : Int
  c : Int
  sc : List Int
  d : Int
  tx : ByteArray
  b : Bool
  t0 : Int
  t1 : Int
  t2 : Int
  t3 : Int

/-- What the checks let in. -/
structure Ev.Ok (e : Ev) : Prop where
  two : e.kind ≠ 2 → e.c = 0 ∧ e.sc = [] ∧ e.d = 0 ∧ e.tx = ⟨#[]⟩ ∧ e.b = false
  five : e.kind ≠ 5 → e.t0 = 0 ∧ e.t1 = 0 ∧ e.t2 = 0 ∧ e.t3 = 0
  five' : e.kind = 5 → e.t1 = e.at_
  at0 : 0 ≤ e.at_
  at1 : e.at_ ≤ 1099511627776
  sc10 : e.sc.length ≤ 10
  tx1000 : e.tx.size ≤ 1000

theorem empty_spec (k : Nat) (c : Int) (sc : List Int) (d : Int) (tx : ByteArray) (b : Bool) : ∃ r, resume_empty.f k c sc d tx b = some r ∧ (r = true → c = 0 ∧ sc = [] ∧ d = 0 ∧ tx = ⟨#[]⟩ ∧ b = false) := by
  unfold resume_empty.f
  cases h0 : (c == 0) <;> cases h1 : ((sc.length : Int) == 0) <;> cases h2 : (d == 0) <;> cases h3 : (tx.toList == (⟨#[]⟩ : ByteArray).toList) <;> cases b <;>
    simp only [cond_true, cond_false, Option.bind_some, Bool.not_true, Bool.not_false, Option.some.injEq, exists_eq_left', Bool.false_eq_true, false_imp_iff, forall_const, true_imp_iff] <;> try trivial
  exact ⟨by simpa using h0, by simpa using h1, by simpa using h2, bytes_inj.1 h3, trivial⟩

theorem valid_spec (k : Nat) (e : Ev) : ∃ v, resume_valid.f k e.kind e.at_ e.c e.sc e.d e.tx e.b e.t0 e.t1 e.t2 e.t3 = some v ∧ (v = 0 → e.Ok) := by
  obtain ⟨r, hr, hr'⟩ := empty_spec k e.c e.sc e.d e.tx e.b
  unfold resume_valid.f
  rw [hr]
  have no : ∀ {v : Int}, v ≠ 0 → ∀ {o : Option Int}, o = some v → ∃ v, o = some v ∧ (v = 0 → e.Ok) := fun hv _ ho => ⟨_, ho, fun h => absurd h hv⟩
  cases h0 : decide (e.kind < 1)
  case true => exact no (v := 1) (by decide) (by simp only [cond_true, Option.bind_some])
  cases h1 : decide (e.kind > 6)
  case true => exact no (v := 1) (by decide) (by simp only [cond_true, cond_false, Option.bind_some])
  cases h2 : (e.kind != 2) <;> cases r
  case true.false => exact no (v := 1) (by decide) (by simp only [cond_true, cond_false, Option.bind_some, Bool.not_false])
  all_goals (
    cases h3 : (e.kind != 5) <;> cases h4 : ((e.t0 == 0) && ((e.t1 == 0) && ((e.t2 == 0) && ((e.t3 == 0) && true))))
    case true.false => exact no (v := 1) (by decide) (by simp only [cond_true, cond_false, Option.bind_some, Bool.not_false, Bool.not_true])
    all_goals (
      cases h5 : (e.kind == 5) <;> cases h6 : (e.t1 != e.at_)
      case true.true => exact no (v := 1) (by decide) (by simp only [cond_true, cond_false, Option.bind_some, Bool.not_false, Bool.not_true])
      all_goals (
        cases h7 : decide (e.at_ < 0)
        case true => exact no (v := 3) (by decide) (by simp only [cond_true, cond_false, Option.bind_some, Bool.not_false, Bool.not_true])
        cases h8 : decide (e.at_ > 1099511627776)
        case true => exact no (v := 3) (by decide) (by simp only [cond_true, cond_false, Option.bind_some, Bool.not_false, Bool.not_true])
        cases h9 : decide ((e.sc.length : Int) > 10)
        case true => exact no (v := 5) (by decide) (by simp only [cond_true, cond_false, Option.bind_some, Bool.not_false, Bool.not_true])
        cases h10 : decide ((e.tx.size : Int) > 1000)
        case true => exact no (v := 5) (by decide) (by simp only [cond_true, cond_false, Option.bind_some, Bool.not_false, Bool.not_true])
        refine ⟨0, by simp only [cond_true, cond_false, Option.bind_some, Bool.not_false, Bool.not_true], fun _ => ?_⟩
        simp only [bne_iff_ne, ne_eq, bne_eq_false_iff_eq, beq_iff_eq, beq_eq_false_iff_ne, decide_eq_false_iff_not, Bool.and_eq_true, Bool.and_true] at h2 h3 h4 h5 h6 h7 h8 h9 h10
        refine ⟨fun hk => ?_, fun hk => ?_, fun hk => ?_, by omega, by omega, by omega, by omega⟩
        · first | exact absurd h2 hk | exact hr' rfl
        · first | exact absurd h3 hk | exact ⟨h4.1, h4.2.1, h4.2.2.1, h4.2.2.2⟩
        · first | exact h6 | exact absurd hk h5)))



def num (t v : Int) : Nd := ⟨t, 1, v, ⟨#[]⟩, []⟩
def encKids (e : Ev) : List Nd :=
  if e.kind = 2 then [num 1 e.kind, num 2 e.at_] ++ [num 3 e.c, ⟨4, 3, 0, ⟨#[]⟩, e.sc.map (num 0)⟩, num 5 e.d, ⟨6, 2, 0, e.tx, []⟩, num 7 (if e.b then 1 else 0)]
  else if e.kind = 5 then [num 1 e.kind, num 2 e.at_] ++ [num 8 e.t0, num 9 e.t2, num 10 e.t3]
  else [num 1 e.kind, num 2 e.at_]
def encN (e : Ev) : Nd := ⟨50, 3, 0, ⟨#[]⟩, encKids e⟩

theorem num_sz (t v : Int) : (num t v).sz = 1 := rfl
theorem num_fit (t v : Int) : Fit (num t v) := .mk _ (by simp [num]) (by simp [num])
theorem nums_sz (t : Int) : ∀ (l : List Int), Nd.sz.szL (l.map (num t)) = l.length
  | [] => rfl
  | v :: l => by simp only [List.map_cons, Nd.sz.szL, num_sz, nums_sz t l, List.length_cons]; omega
theorem nums_fit (t : Int) {l : List Int} (h : l.length ≤ 10) (g : Int) : Fit ⟨g, 3, 0, ⟨#[]⟩, l.map (num t)⟩ := .mk _ (by simp; omega) (by
  intro x hx
  obtain ⟨v, _, rfl⟩ := List.mem_map.1 hx
  exact num_fit t v)

theorem list_spec {k : Nat} {t : Int} {l : List Nd} (hk : 1 + Nd.sz.szL l < k) (hf : Fit ⟨t, 3, 0, ⟨#[]⟩, l⟩) : codec_List.f k t l = some (t, 3, 0, ⟨#[]⟩, l) := by
  rw [codec_List.f, clone_spec k ⟨t, 3, 0, ⟨#[]⟩, l⟩ (by simpa [Nd.sz] using hk) hf]
  rfl
theorem enc_loop {k : Nat} {l : List Int} (hl : l.length ≤ 10) (x0 x1 x2 : Int) (x3 : List Int) (x4 : Int) (x5 : ByteArray) (x6 : Bool) (x7 x8 x9 x10 x11 x12 x13 : Int) (x14 : ByteArray) (x15 x16 : List Nd) :
    ∀ (d q i : Nat) (acc : List Nd), l.length - i = d → i ≤ l.length → d < q → acc.length = i →
      resume_Encode.l7850 k q x0 x1 x2 x3 x4 x5 x6 x7 x8 x9 x10 x11 x12 x13 x14 x15 x16 acc l (l.length : Int) (i : Int) = some (x0, x1, x2, x3, x4, x5, x6, x7, x8, x9, x10, x11, x12, x13, x14, x15, x16, acc ++ (l.drop i).map (num 0)) := by
  intro d
  induction d with
  | zero =>
    intro q i acc hd hi hq ha
    obtain ⟨q, rfl⟩ : ∃ q', q = q' + 1 := ⟨q - 1, by omega⟩
    have : i = l.length := by omega
    subst this
    rw [resume_Encode.l7850]
    rw [lt_ok, decide_eq_false (Nat.lt_irrefl _), cond_false, List.drop_length, List.map_nil, List.append_nil]
  | succ d ih =>
    intro q i acc hd hi hq ha
    obtain ⟨q, rfl⟩ : ∃ q', q = q' + 1 := ⟨q - 1, by omega⟩
    have hlt : i < l.length := by omega
    have hr := rdL_ok (e := .int .i64) (List.getElem?_eq_getElem hlt)
    have hf : fits (acc.length + 1) 64 = true := by simp only [fits, decide_eq_true_eq]; omega
    have hw : IntKind.wrap .i64 ((i : Int) + 1) = ((i + 1 : Nat) : Int) := by rw [wrap64 (by omega) (by omega)]; rfl
    simp only [resume_Encode.l7850, lt_ok, hlt, decide_true, cond_true, inB_ok hlt, hr, hf, hw, resume_number.f, codec_Int.f, Option.bind_some]
    rw [ih q (i + 1) _ (by omega) (by omega) (by omega) (by simp [ha])]
    rw [List.drop_eq_getElem_cons hlt, List.map_cons, List.append_assoc]
    rfl

theorem encN_sz {e : Ev} (h : e.Ok) : (encN e).sz ≤ 40 := by
  have hs := nums_sz 0 e.sc
  have := h.sc10
  unfold encN encKids
  split
  · simp only [Nd.sz, Nd.sz.szL, num, List.cons_append, List.nil_append] at hs ⊢
    rw [nums_sz]
    omega
  · split <;> simp [Nd.sz, Nd.sz.szL, num]

theorem encN_fit {e : Ev} (h : e.Ok) : Fit (encN e) := by
  have := h.sc10
  refine .mk _ ?_ ?_
  · unfold encN encKids; split
    · simp
    · split <;> simp
  · intro x hx
    unfold encN encKids at hx
    simp only at hx
    split at hx
    · simp only [List.cons_append, List.nil_append, List.mem_cons, List.not_mem_nil, or_false] at hx
      rcases hx with rfl | rfl | rfl | rfl | rfl | rfl | rfl
      · exact num_fit ..
      · exact num_fit ..
      · exact num_fit ..
      · exact nums_fit 0 this 4
      · exact num_fit ..
      · exact .mk _ (by simp) (by simp)
      · exact num_fit ..
    · split at hx
      · simp only [List.cons_append, List.nil_append, List.mem_cons, List.not_mem_nil, or_false] at hx
        rcases hx with rfl | rfl | rfl | rfl | rfl <;> exact num_fit ..
      · simp only [List.mem_cons, List.not_mem_nil, or_false] at hx
        rcases hx with rfl | rfl <;> exact num_fit ..


/-- What an event is encoded to, or the error. -/
def encR (e : Ev) (v : Int) : Int × Int × Int × ByteArray × List Nd × Int := if v = 0 then (50, 3, 0, ⟨#[]⟩, encKids e, 0) else (0, 0, 0, ⟨#[]⟩, [], v)

theorem encode_spec {k : Nat} (hk : 60 ≤ k) (e : Ev) {v : Int} (hv : resume_valid.f k e.kind e.at_ e.c e.sc e.d e.tx e.b e.t0 e.t1 e.t2 e.t3 = some v) (hok : v = 0 → e.Ok) :
    resume_Encode.f k e.kind e.at_ e.c e.sc e.d e.tx e.b e.t0 e.t1 e.t2 e.t3 = some (encR e v) := by
  rw [resume_Encode.f, hv]
  unfold encR
  by_cases h0 : v = 0
  · have e0 : (v != 0) = false := by simp [h0]
    have ok := hok h0
    have hsz := encN_sz ok
    have hft := encN_fit ok
    have hlist : codec_List.f k 50 (encKids e) = some (50, 3, 0, ⟨#[]⟩, encKids e) := list_spec (by simp only [encN, Nd.sz] at hsz; omega) hft
    simp only [e0, cond_false, Option.bind_some, if_pos h0, resume_number.f, codec_Int.f, codec_String.f]
    unfold encKids at hlist ⊢
    by_cases h2 : e.kind = 2
    · have e2 : (e.kind == 2) = true := by simp [h2]
      have hsc := ok.sc10
      have hl := enc_loop (k := k) hsc e.kind e.at_ e.c e.sc e.d e.tx e.b e.t0 e.t1 e.t2 e.t3 0 0 0 ⟨#[]⟩ [] [num 1 e.kind, num 2 e.at_] e.sc.length k 0 [] (by omega) (by omega) (by omega) rfl
      rw [show ((0 : Nat) : Int) = 0 from rfl] at hl
      have hl4 : codec_List.f k 4 (e.sc.map (num 0)) = some (4, 3, 0, ⟨#[]⟩, e.sc.map (num 0)) := list_spec (by rw [nums_sz]; omega) (nums_fit 0 hsc 4)
      have hj : ∀ (xs : List Nd), resume_Encode.j7854 k e.kind e.at_ e.c e.sc e.d e.tx e.b e.t0 e.t1 e.t2 e.t3 0 0 0 ⟨#[]⟩ [] [num 1 e.kind, num 2 e.at_] xs 0 = some (e.kind, e.at_, e.c, e.sc, e.d, e.tx, e.b, e.t0, e.t1, e.t2, e.t3, 0, 0, 0, ⟨#[]⟩, [], [num 1 e.kind, num 2 e.at_], xs, if e.b then 1 else 0) := by
        intro xs
        unfold resume_Encode.j7854
        cases e.b <;> rfl
      rw [if_pos h2] at hlist ⊢
      simp only [e2, cond_true]
      have hl' : resume_Encode.l7850 k k e.kind e.at_ e.c e.sc e.d e.tx e.b e.t0 e.t1 e.t2 e.t3 0 0 0 ⟨#[]⟩ [] [⟨1, 1, e.kind, ⟨#[]⟩, []⟩, ⟨2, 1, e.at_, ⟨#[]⟩, []⟩] [] e.sc (e.sc.length : Int) 0 = _ := hl
      rw [hl']
      simp only [Option.bind_some, List.drop_zero, List.nil_append, hj, hl4]
      have hf : fits ([num 1 e.kind, num 2 e.at_].length + 5) 64 = true := rfl
      simp only [hf, cond_true]
      have hlist' : codec_List.f k 50 ([num 1 e.kind, num 2 e.at_] ++ [⟨3, 1, e.c, ⟨#[]⟩, []⟩, ⟨4, 3, 0, ⟨#[]⟩, e.sc.map (num 0)⟩, ⟨5, 1, e.d, ⟨#[]⟩, []⟩, ⟨6, 2, 0, e.tx, []⟩, ⟨7, 1, if e.b then 1 else 0, ⟨#[]⟩, []⟩]) = _ := hlist
      rw [hlist']
      rfl
    · have e2 : (e.kind == 2) = false := by simp [h2]
      rw [if_neg h2] at hlist ⊢
      by_cases h5 : e.kind = 5
      · have e5 : (e.kind == 5) = true := by simp [h5]
        have hf : fits (2 + 3) 64 = true := by decide
        rw [if_pos h5] at hlist ⊢
        simp only [e2, e5, cond_true, cond_false, hf]
        have hlist' : codec_List.f k 50 ([⟨1, 1, e.kind, ⟨#[]⟩, []⟩, ⟨2, 1, e.at_, ⟨#[]⟩, []⟩] ++ [⟨8, 1, e.t0, ⟨#[]⟩, []⟩, ⟨9, 1, e.t2, ⟨#[]⟩, []⟩, ⟨10, 1, e.t3, ⟨#[]⟩, []⟩]) = _ := hlist
        rw [hlist']
        rfl
      · have e5 : (e.kind == 5) = false := by simp [h5]
        rw [if_neg h5] at hlist ⊢
        simp only [e2, e5, cond_false]
        have hlist' : codec_List.f k 50 [⟨1, 1, e.kind, ⟨#[]⟩, []⟩, ⟨2, 1, e.at_, ⟨#[]⟩, []⟩] = _ := hlist
        rw [hlist']
        rfl
  · have e0 : (v != 0) = true := by simp [h0]
    simp only [e0, cond_true, Option.bind_some, if_neg h0]



theorem varint_loop {k : Nat} : ∀ (d q : Nat) (x n : Int), 0 ≤ x → x < 128 * 128 ^ d → d < q → 0 ≤ n → n + d ≤ 100 → ∃ r, codec_varintSize.l28 k q x n = some r ∧ n ≤ r ∧ r ≤ n + d := by
  intro d
  induction d with
  | zero =>
    intro q x n h0 h1 hq hn hd
    obtain ⟨q, rfl⟩ : ∃ q', q = q' + 1 := ⟨q - 1, by omega⟩
    have : decide (x > 127) = false := by simp; omega
    refine ⟨n, ?_, by omega, by omega⟩
    rw [codec_varintSize.l28, this, cond_false]
  | succ d ih =>
    intro q x n h0 h1 hq hn hd
    obtain ⟨q, rfl⟩ : ∃ q', q = q' + 1 := ⟨q - 1, by omega⟩
    rw [codec_varintSize.l28]
    cases hx : decide (x > 127) with
    | false => exact ⟨n, rfl, by omega, by omega⟩
    | true =>
      rw [cond_true, wrap64 (by omega) (by omega)]
      have e : Int.fdiv x (2 ^ 7) = x / 128 := by rw [Int.fdiv_eq_ediv_of_nonneg x (by decide)]; rfl
      rw [e]
      obtain ⟨r, h2, h3, h4⟩ := ih q (x / 128) (n + 1) (by omega) (by rw [Int.pow_succ] at h1; omega) (by omega) (by omega) (by omega)
      exact ⟨r, h2, by omega, by omega⟩

theorem varint_spec {k : Nat} (hk : 12 ≤ k) {x : Int} (h0 : 0 ≤ x) (h1 : x < 18446744073709551616) : ∃ r, codec_varintSize.f k x = some r ∧ 1 ≤ r ∧ r ≤ 10 := by
  obtain ⟨r, h2, h3, h4⟩ := varint_loop (k := k) 9 k x 1 h0 (by rw [show (128 : Int) * 128 ^ 9 = 1180591620717411303424 by decide]; omega) (by omega) (by omega) (by omega)
  exact ⟨r, by rw [codec_varintSize.f, h2]; rfl, h3, by omega⟩

theorem wrapu_bound (n : Int) : 0 ≤ IntKind.wrap .u64 n ∧ IntKind.wrap .u64 n < 18446744073709551616 := by
  have e : IntKind.wrap .u64 n = n % 18446744073709551616 := by
    show (if (false && decide (n % 18446744073709551616 ≥ 9223372036854775808)) = true then n % 18446744073709551616 - 18446744073709551616 else n % 18446744073709551616) = _
    simp
  rw [e]; omega

theorem zigzag_spec (k : Nat) (n : Int) : ∃ r, codec_zigzag.f k n = some r ∧ 0 ≤ r ∧ r < 18446744073709551616 := by
  rw [codec_zigzag.f]
  cases decide (n < 0)
  · exact ⟨_, rfl, wrapu_bound _⟩
  · exact ⟨_, rfl, wrapu_bound _⟩

/-- A tree that can be encoded, in at most so many bytes. -/
def SizeOk (k : Nat) (t : Int) (x : Nd) (b : Int) : Prop := ∃ r, codec_size.f k x.tag x.kind x.n x.s x.kids t = some r ∧ 1 ≤ r ∧ r ≤ b

theorem size_head {self : Int → Int → Int → ByteArray → (List Nd) → Int → Option (Int)} {k : Nat} {t a : Int} (ht : t ≤ 8) (h0 : 0 ≤ a) (h1 : a ≤ 9999999) : decide (t > 8) = false ∧ decide (a < 0) = false ∧ decide (a > 9999999) = false := by
  refine ⟨?_, ?_, ?_⟩ <;> simp <;> omega

theorem size_num {k : Nat} (hk : 13 ≤ k) {t : Int} (ht : t ≤ 8) {a : Int} (h0 : 0 ≤ a) (h1 : a ≤ 9999999) (v : Int) : SizeOk k t (num a v) 21 := by
  obtain ⟨k, rfl⟩ : ∃ k', k = k' + 1 := ⟨k - 1, by omega⟩
  obtain ⟨e0, e1, e2⟩ := size_head (self := codec_size.f k) (k := k) ht h0 h1
  obtain ⟨y3, g3, g4, g5⟩ := varint_spec (k := k) (by omega) (wrapu_bound a).1 (wrapu_bound a).2
  obtain ⟨z, z1, z2, z3⟩ := zigzag_spec k v
  obtain ⟨y6, g6, g7, g8⟩ := varint_spec (k := k) (by omega) z2 z3
  refine ⟨y3 + 1 + y6, ?_, by omega, by omega⟩
  show codec_size.f (k + 1) a 1 v ⟨#[]⟩ [] t = _
  rw [codec_size.f, codec_size.g]
  have eb : ((⟨#[]⟩ : ByteArray).toList == (⟨#[]⟩ : ByteArray).toList) = true := bytes_inj.2 rfl
  have el : decide ((([] : List Nd).length : Int) > 0) = false := by decide
  simp only [e0, e1, e2, cond_false, cond_true, Option.bind_some, g3, beq_self_eq_true, eb, Bool.not_true, el, z1, g6]
  rw [wrap64 (n := y3 + 1) (by omega) (by omega), wrap64 (by omega) (by omega)]

theorem size_text {k : Nat} (hk : 13 ≤ k) {t : Int} (ht : t ≤ 8) {a : Int} (h0 : 0 ≤ a) (h1 : a ≤ 9999999) {s : ByteArray} (hs : s.size ≤ 1000) : SizeOk k t ⟨a, 2, 0, s, []⟩ 1021 := by
  obtain ⟨k, rfl⟩ : ∃ k', k = k' + 1 := ⟨k - 1, by omega⟩
  obtain ⟨e0, e1, e2⟩ := size_head (self := codec_size.f k) (k := k) ht h0 h1
  obtain ⟨y3, g3, g4, g5⟩ := varint_spec (k := k) (by omega) (wrapu_bound a).1 (wrapu_bound a).2
  obtain ⟨y6, g6, g7, g8⟩ := varint_spec (k := k) (by omega) (wrapu_bound (s.size : Int)).1 (wrapu_bound (s.size : Int)).2
  refine ⟨y3 + 1 + y6 + (s.size : Int), ?_, by omega, by omega⟩
  show codec_size.f (k + 1) a 2 0 s [] t = _
  rw [codec_size.f, codec_size.g]
  have el : decide ((([] : List Nd).length : Int) > 0) = false := by decide
  have el2 : decide ((s.size : Int) > 2000) = false := by simp; omega
  have k1 : ((2 : Int) == 1) = false := by decide
  simp only [e0, e1, e2, cond_false, cond_true, Option.bind_some, g3, k1, beq_self_eq_true, bne_self_eq_false, el, el2, g6]
  rw [wrap64 (n := y3 + 1) (by omega) (by omega), wrap64 (n := y3 + 1 + y6) (by omega) (by omega), wrap64 (by omega) (by omega)]

theorem size_loop {self : Int → Int → Int → ByteArray → (List Nd) → Int → Option (Int)} {k : Nat} {l : List Nd} {t b : Int} (ht : t < 8) (ht0 : 0 ≤ t) (hb0 : 0 ≤ b) (hl : l.length ≤ 1024) (hs : ∀ x ∈ l, ∃ r, self x.tag x.kind x.n x.s x.kids (t + 1) = some r ∧ 1 ≤ r ∧ r ≤ b) :
    ∀ (d q i : Nat) (acc : Int), l.length - i = d → i ≤ l.length → d < q → 1 ≤ acc → acc + d * b ≤ 1048576 →
      ∃ r, codec_size.l251866 self k q t acc l (l.length : Int) (i : Int) = some (.inl r) ∧ 1 ≤ r ∧ r ≤ acc + d * b := by
  intro d
  induction d with
  | zero =>
    intro q i acc hd hi hq ha hb
    obtain ⟨q, rfl⟩ : ∃ q', q = q' + 1 := ⟨q - 1, by omega⟩
    have : i = l.length := by omega
    subst this
    refine ⟨acc, ?_, ha, by simp⟩
    rw [codec_size.l251866]
    rw [lt_ok, decide_eq_false (Nat.lt_irrefl _), cond_false]
  | succ d ih =>
    intro q i acc hd hi hq ha hb
    obtain ⟨q, rfl⟩ : ∃ q', q = q' + 1 := ⟨q - 1, by omega⟩
    have hlt : i < l.length := by omega
    have hr := rdL_ok (e := .node) (List.getElem?_eq_getElem hlt)
    obtain ⟨r, hself, r1, r2⟩ := hs l[i] (List.getElem_mem hlt)
    have hw : IntKind.wrap .i64 ((i : Int) + 1) = ((i + 1 : Nat) : Int) := by rw [wrap64 (by omega) (by omega)]; rfl
    have hmul : ((d + 1 : Nat) : Int) * b = d * b + b := by push_cast; rw [Int.add_mul, Int.one_mul]
    rw [hmul] at hb ⊢
    have hdb : 0 ≤ (d : Int) * b := Int.mul_nonneg (by omega) hb0
    have n0 : decide (r < 0) = false := by simp; omega
    have n1 : decide (acc + r > 1048576) = false := by simp; omega
    rw [codec_size.l251866]
    simp only [lt_ok, hlt, decide_true, cond_true, inB_ok hlt, hr, wrap64 (show -9223372036854775808 ≤ t + 1 by omega) (show t + 1 ≤ 9223372036854775807 by omega), hself, Option.bind_some, n0, cond_false, wrap64 (show -9223372036854775808 ≤ acc + r by omega) (show acc + r ≤ 9223372036854775807 by omega), n1, hw]
    obtain ⟨r', h1, h2, h3⟩ := ih q (i + 1) (acc + r) (by omega) (by omega) (by omega) (by omega) (by omega)
    exact ⟨r', h1, h2, by omega⟩

theorem size_list {k : Nat} {t : Int} (ht : t < 8) (ht0 : 0 ≤ t) {a : Int} (h0 : 0 ≤ a) (h1 : a ≤ 9999999) {l : List Nd} {b : Int} (hb0 : 0 ≤ b) (hl : l.length ≤ 40) (hk : 60 ≤ k) (hb : 21 + l.length * b ≤ 1048576) (hs : ∀ x ∈ l, SizeOk (k - 1) (t + 1) x b) :
    SizeOk k t ⟨a, 3, 0, ⟨#[]⟩, l⟩ (21 + l.length * b) := by
  obtain ⟨k, rfl⟩ : ∃ k', k = k' + 1 := ⟨k - 1, by omega⟩
  rw [Nat.add_sub_cancel] at hs
  obtain ⟨e0, e1, e2⟩ := size_head (self := codec_size.f k) (k := k) (t := t) (by omega) h0 h1
  obtain ⟨y3, g3, g4, g5⟩ := varint_spec (k := k) (by omega) (wrapu_bound a).1 (wrapu_bound a).2
  obtain ⟨y6, g6, g7, g8⟩ := varint_spec (k := k) (by omega) (wrapu_bound (l.length : Int)).1 (wrapu_bound (l.length : Int)).2
  have hlb : 0 ≤ (l.length : Int) * b := Int.mul_nonneg (by omega) hb0
  obtain ⟨r, q1, q2, q3⟩ := size_loop (self := codec_size.f k) (k := k) ht ht0 hb0 (by omega) hs l.length k 0 (y3 + 1 + y6) (by omega) (by omega) (by omega) (by omega) (by omega)
  refine ⟨r, ?_, q2, by omega⟩
  show codec_size.f (k + 1) a 3 0 ⟨#[]⟩ l t = _
  rw [codec_size.f, codec_size.g]
  have eb : ((⟨#[]⟩ : ByteArray).toList == (⟨#[]⟩ : ByteArray).toList) = true := bytes_inj.2 rfl
  have el2 : decide ((l.length : Int) > 1024) = false := by simp; omega
  have k1 : ((3 : Int) == 1) = false := by decide
  have k2 : ((3 : Int) == 2) = false := by decide
  rw [show ((0 : Nat) : Int) = 0 from rfl] at q1
  simp only [e0, e1, e2, cond_false, cond_true, Option.bind_some, g3, k1, k2, beq_self_eq_true, bne_self_eq_false, eb, Bool.not_true, el2, g6]
  rw [wrap64 (n := y3 + 1) (by omega) (by omega), wrap64 (n := y3 + 1 + y6) (by omega) (by omega), q1]
  rfl

theorem SizeOk.mono {k : Nat} {t : Int} {x : Nd} {b b' : Int} (h : SizeOk k t x b) (hb : b ≤ b') : SizeOk k t x b' := by
  obtain ⟨r, h1, h2, h3⟩ := h; exact ⟨r, h1, h2, by omega⟩

theorem encN_size {k : Nat} (hk : 200 ≤ k) {e : Ev} (h : e.Ok) : ∃ b, SizeOk k 1 (encN e) b ∧ b ≤ 10000 := by
  have hn : ∀ (a v : Int), 0 ≤ a → a ≤ 9999999 → SizeOk (k - 1) 2 (num a v) 1021 := fun a v h0 h1 => (size_num (by omega) (by omega) h0 h1 v).mono (by omega)
  have hsc := h.sc10
  have hl : SizeOk (k - 1) 2 ⟨4, 3, 0, ⟨#[]⟩, e.sc.map (num 0)⟩ 1021 := by
    refine (size_list (b := 21) (by omega) (by omega) (by omega) (by omega) (by omega) (by simp; omega) (by omega) (by simp; omega) (fun x hx => ?_)).mono (by simp; omega)
    obtain ⟨v, _, rfl⟩ := List.mem_map.1 hx
    exact size_num (by omega) (by omega) (by omega) (by omega) v
  have ht : SizeOk (k - 1) 2 ⟨6, 2, 0, e.tx, []⟩ 1021 := size_text (by omega) (by omega) (by omega) (by omega) h.tx1000
  have len : (encKids e).length ≤ 7 := by
    unfold encKids; split
    · simp
    · split <;> simp
  refine ⟨_, size_list (b := 1021) (by omega) (by omega) (by omega) (by omega) (by omega) (by omega) (by omega) (by omega) (fun x hx => ?_), by omega⟩
  unfold encKids at hx
  split at hx
  · simp only [List.cons_append, List.nil_append, List.mem_cons, List.not_mem_nil, or_false] at hx
    rcases hx with rfl | rfl | rfl | rfl | rfl | rfl | rfl
    · exact hn _ _ (by omega) (by omega)
    · exact hn _ _ (by omega) (by omega)
    · exact hn _ _ (by omega) (by omega)
    · exact hl
    · exact hn _ _ (by omega) (by omega)
    · exact ht
    · exact hn _ _ (by omega) (by omega)
  · split at hx
    · simp only [List.cons_append, List.nil_append, List.mem_cons, List.not_mem_nil, or_false] at hx
      rcases hx with rfl | rfl | rfl | rfl | rfl <;> exact hn _ _ (by omega) (by omega)
    · simp only [List.mem_cons, List.not_mem_nil, or_false] at hx
      rcases hx with rfl | rfl <;> exact hn _ _ (by omega) (by omega)

end Gv

/- Plain laws: bits, varints. -/
namespace Gv
open Go
set_option linter.unusedVariables false
set_option linter.unusedSimpArgs false

theorem wrapu8 (n : Int) : IntKind.wrap .u8 n = n % 256 := rfl
theorem wrapu64 (n : Int) : IntKind.wrap .u64 n = n % 18446744073709551616 := rfl
theorem or128 (x : Int) : IntKind.wrap .u8 (((BitVec.ofInt 8 (IntKind.wrap .u8 x)) ||| (BitVec.ofInt 8 128)).toNat : Int) = x % 128 + 128 := by
  have key : ∀ m : Fin 256, (((BitVec.ofInt 8 (m.val : Int)) ||| (BitVec.ofInt 8 128)).toNat : Int) % 256 = (m.val : Int) % 128 + 128 := by decide +kernel
  obtain ⟨m, hm⟩ : ∃ m : Fin 256, (m.val : Int) = x % 256 := ⟨⟨(x % 256).toNat, by omega⟩, by simp; omega⟩
  rw [wrapu8, wrapu8, ← hm, key m, hm]
  omega
theorem and127 {c : Int} (h0 : 0 ≤ c) (h1 : c < 256) : IntKind.wrap .u8 (((BitVec.ofInt 8 c) &&& (BitVec.ofInt 8 127)).toNat : Int) = c % 128 := by
  have key : ∀ m : Fin 256, (((BitVec.ofInt 8 (m.val : Int)) &&& (BitVec.ofInt 8 127)).toNat : Int) % 256 = (m.val : Int) % 128 := by decide +kernel
  obtain ⟨m, hm⟩ : ∃ m : Fin 256, (m.val : Int) = c := ⟨⟨c.toNat, by omega⟩, by simp; omega⟩
  rw [wrapu8, ← hm, key m]

theorem or64 {x m : Int} (s : Nat) (hx : 0 ≤ x) (hs : x < 2 ^ s) (hm : 0 ≤ m) (h : x + m * 2 ^ s < 18446744073709551616) : IntKind.wrap .u64 (((BitVec.ofInt 64 x) ||| (BitVec.ofInt 64 (m * 2 ^ s))).toNat : Int) = x + m * 2 ^ s := by
  obtain ⟨a, rfl⟩ := Int.eq_ofNat_of_zero_le hx
  obtain ⟨b, rfl⟩ := Int.eq_ofNat_of_zero_le hm
  have hs' : a < 2 ^ s := by exact_mod_cast hs
  have e : (b : Int) * 2 ^ s = ((b * 2 ^ s : Nat) : Int) := by rw [Int.natCast_mul, Int.natCast_pow]; rfl
  have h' : a + b * 2 ^ s < 18446744073709551616 := by rw [e] at h; omega
  rw [e, BitVec.ofInt_natCast, BitVec.ofInt_natCast, BitVec.toNat_or, BitVec.toNat_ofNat, BitVec.toNat_ofNat, Nat.mod_eq_of_lt (by omega), Nat.mod_eq_of_lt (by omega)]
  have e2 : a ||| b * 2 ^ s = a + b * 2 ^ s := by
    have := Nat.two_pow_add_eq_or_of_lt hs' b
    rw [Nat.or_comm, Nat.mul_comm b, ← this]; omega
  rw [e2, wrapu64]
  omega

/-- The bytes of a varint. -/
def vi : Nat → Int → List Int
  | 0, x => [x]
  | d + 1, x => if x ≤ 127 then [x] else (x % 128 + 128) :: vi d (x / 128)
theorem vi_len : ∀ (d : Nat) (x : Int), (vi d x).length ≤ d + 1 ∧ 1 ≤ (vi d x).length
  | 0, _ => by simp [vi]
  | d + 1, x => by
    unfold vi
    split
    · simp
    · have := vi_len d (x / 128); simp only [List.length_cons]; omega

/-- What a byte is. -/
def IsB (l : List Int) : Prop := ∀ c ∈ l, 0 ≤ c ∧ c < 256
theorem IsB.append {l l' : List Int} (h : IsB l) (h' : IsB l') : IsB (l ++ l') := fun c hc => by
  rcases List.mem_append.1 hc with hc | hc
  · exact h c hc
  · exact h' c hc
theorem vi_bytes : ∀ (d : Nat) (x : Int), 0 ≤ x → x < 128 * 128 ^ d → IsB (vi d x)
  | 0, x => fun h0 h1 c hc => by simp [vi] at hc; subst hc; omega
  | d + 1, x => fun h0 h1 => by
    unfold vi
    split
    · intro c hc; simp at hc; subst hc; omega
    · have h2 : x < 128 * (128 * 128 ^ d) := by rw [Int.pow_succ] at h1; rw [Int.mul_comm (128 : Int) (128 ^ d)]; exact h1
      have := vi_bytes d (x / 128) (by omega) (by generalize (128 : Int) * 128 ^ d = z at h2 ⊢; omega)
      intro c hc
      rcases List.mem_cons.1 hc with rfl | hc
      · omega
      · exact this c hc

theorem fits_ok {n b : Nat} (h : n * b ≤ 140737488355328) : fits n b = true := by unfold fits; exact decide_eq_true h

theorem put_loop {k : Nat} : ∀ (d q : Nat) (x : Int) (b : List Int), 0 ≤ x → x < 128 * 128 ^ d → d < q → b.length + (vi d x).length ≤ 1000000000 →
    ∃ b' y, codec_putVarint.l12 k q b x = some (b', y) ∧ 0 ≤ y ∧ y ≤ 127 ∧ b' ++ [y] = b ++ vi d x
  | 0, q + 1, x, b => fun h0 h1 _ _ => by
    refine ⟨b, x, ?_, h0, by omega, by simp [vi]⟩
    unfold codec_putVarint.l12
    rw [decide_eq_false (by omega)]; rfl
  | d + 1, q + 1, x, b => fun h0 h1 hq hb => by
    unfold codec_putVarint.l12
    unfold vi at hb ⊢
    by_cases hx : x ≤ 127
    · rw [decide_eq_false (by omega)]
      exact ⟨b, x, rfl, h0, hx, by rw [if_pos hx]⟩
    · rw [decide_eq_true (by omega)]
      rw [if_neg hx] at hb ⊢
      simp only [List.length_cons] at hb
      have h2 : x < 128 * (128 * 128 ^ d) := by rw [Int.pow_succ] at h1; rw [Int.mul_comm (128 : Int) (128 ^ d)]; exact h1
      have e : Int.fdiv x (2 ^ 7) = x / 128 := by rw [show (2 : Int) ^ 7 = 128 from rfl, Int.fdiv_eq_ediv_of_nonneg _ (by omega)]
      rw [fits_ok (by omega), or128, e]
      simp only [cond_true]
      obtain ⟨b', y, g1, g2, g3, g4⟩ := put_loop d q (x / 128) (b ++ [x % 128 + 128]) (by omega) (by generalize (128 : Int) * 128 ^ d = z at h2 ⊢; omega) (by omega) (by simp; omega)
      exact ⟨b', y, g1, g2, g3, by rw [g4]; simp⟩
  | d, 0, _, _ => fun _ _ h => by omega

theorem putV_spec {k : Nat} (hk : 12 ≤ k) {x : Int} (h0 : 0 ≤ x) (h1 : x < 18446744073709551616) (b : List Int) (hb : b.length + (vi 9 x).length ≤ 1000000000) : codec_putVarint.f k b x = some (b ++ vi 9 x) := by
  obtain ⟨b', y, g1, g2, g3, g4⟩ := put_loop (k := k) 9 k x b h0 (by rw [show (128 : Int) * 128 ^ 9 = 1180591620717411303424 from rfl]; omega) (by omega) hb
  have hl : b'.length + 1 = b.length + (vi 9 x).length := by
    have := congrArg List.length g4
    simpa using this
  rw [codec_putVarint.f, g1]
  simp only [Option.bind_some]
  rw [fits_ok (by omega)]
  simp only [cond_true]
  rw [wrapu8, Int.emod_eq_of_lt g2 (by omega), g4]
end Gv

/- Plain laws: varints read. -/
namespace Gv
open Go
set_option linter.unusedVariables false
set_option linter.unusedSimpArgs false

theorem next_spec (k : Nat) {b : List Int} {i : Nat} {c : Int} (hc : b[i]? = some c) (hb : b.length ≤ 1000000) : codec_decoder_next.f k b (i : Int) = some (.inl (b, ((i + 1 : Nat) : Int), c)) := by
  have hi : i < b.length := (List.getElem?_eq_some_iff.1 hc).1
  unfold codec_decoder_next.f codec_decoder_next.j6
  rw [decide_eq_false (show ¬ (i : Int) ≥ 1048576 by omega)]
  simp only [cond_false, Option.bind_some]
  rw [decide_eq_false (show ¬ (i : Int) ≥ (b.length : Int) by omega)]
  have e1 : IntKind.wrap .i64 ((i : Int) + 1) = ((i + 1 : Nat) : Int) := by rw [wrap64 (by omega) (by omega)]; rfl
  have e2 : IntKind.wrap .i64 (((i + 1 : Nat) : Int) - 1) = (i : Int) := by rw [wrap64 (by omega) (by omega)]; omega
  rw [e1, e2, inB_ok hi, rdL_ok hc]
  rfl

theorem orstep {i : Nat} (hi : i ≤ 9) {acc c P Q : Int} (hP : P = 2 ^ (7 * i)) (hPQ : P * Q = 18446744073709551616) (h0 : 0 ≤ acc) (h1 : acc < P) (hc0 : 0 ≤ c) (hc1 : c < 256) (hq : c % 128 < Q) :
    IntKind.wrap .u64 (((BitVec.ofInt 64 acc) ||| (BitVec.ofInt 64 (IntKind.wrap .u64 ((IntKind.wrap .u64 (IntKind.wrap .u8 (((BitVec.ofInt 8 c) &&& (BitVec.ofInt 8 127)).toNat : Int))) * 2 ^ (min (Int.toNat (IntKind.wrap .i64 (7 * (i : Int)))) 64))))).toNat : Int) = acc + (c % 128) * P := by
  have e1 : IntKind.wrap .i64 (7 * (i : Int)) = ((7 * i : Nat) : Int) := by rw [wrap64 (by omega) (by omega)]; omega
  have hP0 : 0 < P := by omega
  have hb : (c % 128) * P ≤ (Q - 1) * P := Int.mul_le_mul_of_nonneg_right (by omega) (by omega)
  have hb2 : (Q - 1) * P = 18446744073709551616 - P := by rw [Int.sub_mul, Int.one_mul, Int.mul_comm Q P, hPQ]
  have hn : 0 ≤ (c % 128) * P := Int.mul_nonneg (by omega) (by omega)
  rw [and127 hc0 hc1, e1, Int.toNat_natCast, Nat.min_eq_left (by omega), wrapu64 (c % 128), Int.emod_eq_of_lt (by omega) (show c % 128 < 18446744073709551616 by omega), ← hP, wrapu64 ((c % 128) * P), Int.emod_eq_of_lt hn (by omega)]
  have := or64 (x := acc) (m := c % 128) (7 * i) h0 (by rw [← hP]; exact h1) (by omega) (by rw [← hP]; omega)
  rw [← hP] at this
  exact this

theorem varint_dec {k : Nat} (rest : List Int) : ∀ (d i q : Nat) (acc y P Q : Int) (pre : List Int), d + i = 9 → P = 2 ^ (7 * i) → P * Q = 18446744073709551616 → (0 < d → ∃ Q', Q = 128 * Q') → 0 ≤ acc → acc < P → 0 ≤ y → y < Q → (0 < i → 1 ≤ y) → d + 1 < q →
    (pre ++ vi d y ++ rest).length ≤ 1000000 → Q = 2 ^ (64 - 7 * i) →
    codec_decoder_varint.l58 k q (pre ++ vi d y ++ rest) (pre.length : Int) acc (i : Int) = some (.inl (pre ++ vi d y ++ rest, ((pre.length + (vi d y).length : Nat) : Int), acc + y * P))
  | d, i, q + 1, acc, y, P, Q, pre => fun hdi hP hPQ hd h0 h1 hy0 hy1 hi hq hlen hQ => by
    have hP0 : 0 < P := by omega
    -- the first byte
    obtain ⟨c, t, hv, hc0, hc1, hcq, hlast, hmore⟩ : ∃ c t, vi d y = c :: t ∧ 0 ≤ c ∧ c < 256 ∧ c % 128 < Q ∧ (y ≤ 127 → c = y ∧ t = []) ∧ (127 < y → ∃ d', d = d' + 1 ∧ c = y % 128 + 128 ∧ t = vi d' (y / 128)) := by
      cases d with
      | zero =>
        have e : Q = 2 := by rw [hQ, show i = 9 by omega]; rfl
        exact ⟨y, [], rfl, hy0, by omega, by omega, fun _ => ⟨rfl, rfl⟩, fun h => by omega⟩
      | succ d =>
        by_cases hy : y ≤ 127
        · exact ⟨y, [], by simp [vi, hy], hy0, by omega, by omega, fun _ => ⟨rfl, rfl⟩, fun h => by omega⟩
        · exact ⟨y % 128 + 128, vi d (y / 128), by simp [vi, hy], by omega, by omega, by omega, fun h => absurd h hy, fun _ => ⟨d, rfl, rfl, rfl⟩⟩
    have hget : (pre ++ vi d y ++ rest)[pre.length]? = some c := by rw [hv]; simp
    have hnx := next_spec k hget hlen
    unfold codec_decoder_varint.l58
    rw [decide_eq_true (show (i : Int) < 10 by omega), cond_true, hnx]
    simp only [Option.bind_some]
    have hc34 : (cond ((i : Int) == 9) (some (decide (c > 1))) (some false) : Option Bool) = some false := by
      by_cases h9 : (i : Int) = 9
      · have e : Q = 2 := by rw [hQ, show i = 9 by omega]; rfl
        have hcy : c = y := (hlast (by omega)).1
        rw [h9, hcy, decide_eq_false (show ¬ y > 1 by omega)]; rfl
      · have : ((i : Int) == 9) = false := by simpa using h9
        rw [this]; rfl
    have hc35 : (cond (c == 0) (some (decide ((i : Int) > 0))) (some false) : Option Bool) = some false := by
      by_cases hz : c = 0
      · have hcy : c = y ∨ c = y % 128 + 128 := by
          rcases Int.lt_or_le 127 y with h | h
          · obtain ⟨d', _, e, _⟩ := hmore h; exact .inr e
          · exact .inl (hlast h).1
        have hi0 : ¬ (i : Int) > 0 := fun h => by have := hi (by omega); omega
        rw [decide_eq_false hi0]; cases (c == 0) <;> rfl
      · have : (c == 0) = false := by simpa using hz
        rw [this]; rfl
    simp only [hc34, hc35, Option.bind_some, cond_false]
    have e7 : IntKind.wrap .i64 (7 * (i : Int)) = ((7 * i : Nat) : Int) := by rw [wrap64 (by omega) (by omega)]; omega
    rw [decide_eq_false (show ¬ IntKind.wrap .i64 (7 * (i : Int)) < 0 by rw [e7]; omega)]
    simp only [cond_false]
    rw [orstep (by omega) hP hPQ h0 h1 hc0 hc1 hcq]
    rcases Int.lt_or_le 127 y with hy | hy
    · obtain ⟨d', rfl, hc, ht⟩ := hmore hy
      obtain ⟨Q', rfl⟩ := hd (by omega)
      rw [decide_eq_false (show ¬ c < 128 by omega), cond_false]
      have e1 : IntKind.wrap .i64 ((i : Int) + 1) = ((i + 1 : Nat) : Int) := by rw [wrap64 (by omega) (by omega)]; rfl
      have hmod : c % 128 = y % 128 := by omega
      have eb : pre ++ vi (d' + 1) y ++ rest = (pre ++ [c]) ++ vi d' (y / 128) ++ rest := by rw [hv, ht]; simp
      have el : ((pre.length + 1 : Nat) : Int) = ((pre ++ [c]).length : Int) := by simp
      have hm : (y % 128) * P ≤ 127 * P := Int.mul_le_mul_of_nonneg_right (by omega) (by omega)
      have hm0 : 0 ≤ (y % 128) * P := Int.mul_nonneg (by omega) (by omega)
      rw [e1, eb, el, hmod]
      have hQ2 : Q' = 2 ^ (64 - 7 * (i + 1)) := by
        have : (2 : Int) ^ (64 - 7 * i) = 128 * 2 ^ (64 - 7 * (i + 1)) := by
          rw [show 64 - 7 * i = (64 - 7 * (i + 1)) + 7 by omega, Int.pow_add, Int.mul_comm]; rfl
        omega
      rw [varint_dec rest d' (i + 1) q (acc + (y % 128) * P) (y / 128) (P * 128) Q' (pre ++ [c]) (by omega) (by rw [hP, show 7 * (i + 1) = 7 * i + 7 by omega, Int.pow_add]; rfl) (by rw [Int.mul_assoc]; exact hPQ) (fun hd' => ⟨2 ^ (64 - 7 * (i + 1) - 7), by
          rw [hQ2, show (64 - 7 * (i + 1)) = (64 - 7 * (i + 1) - 7) + 7 by omega, Int.pow_add, Int.mul_comm]; rfl⟩) (by omega) (by omega) (by omega) (by omega) (by omega) (by omega) (by rw [← eb]; exact hlen) hQ2]
      have ev : acc + y % 128 * P + y / 128 * (P * 128) = acc + y * P := by
        have hy' : y = y % 128 + 128 * (y / 128) := by omega
        generalize y % 128 = r at hy' ⊢
        generalize y / 128 = z at hy' ⊢
        subst hy'
        have e1 : z * (P * 128) = 128 * z * P := by rw [← Int.mul_assoc, Int.mul_comm (z * P) 128, ← Int.mul_assoc]
        rw [e1, Int.add_mul, Int.add_assoc]
      rw [ev]
      have ell : (pre ++ [c]).length + (vi d' (y / 128)).length = pre.length + (vi (d' + 1) y).length := by rw [hv, ht]; simp; omega
      rw [ell]
    · obtain ⟨rfl, rfl⟩ := hlast hy
      rw [decide_eq_true (show c < 128 by omega), cond_true]
      have hmod : c % 128 = c := by omega
      rw [hmod, hv]
      simp
  | d, i, 0, _, _, _, _, _ => fun _ _ _ _ _ _ _ _ _ h => by omega

theorem varint_read {k : Nat} (hk : 12 ≤ k) {x : Int} (h0 : 0 ≤ x) (h1 : x < 18446744073709551616) (pre rest : List Int) (hlen : (pre ++ vi 9 x ++ rest).length ≤ 1000000) :
    codec_decoder_varint.f k (pre ++ vi 9 x ++ rest) (pre.length : Int) = some (.inl (pre ++ vi 9 x ++ rest, ((pre.length + (vi 9 x).length : Nat) : Int), x)) := by
  have := varint_dec (k := k) rest 9 0 k 0 x 1 18446744073709551616 pre rfl rfl rfl (fun _ => ⟨144115188075855872, rfl⟩) (by omega) (by omega) h0 h1 (by omega) (by omega) hlen rfl
  rw [codec_decoder_varint.f]
  rw [show ((0 : Nat) : Int) = 0 from rfl] at this
  rw [this]
  simp
end Gv

/- Plain laws: the encoding of a tree, written and read. -/
namespace Gv
open Go
set_option linter.unusedVariables false
set_option linter.unusedSimpArgs false

def zz (n : Int) : Int := (codec_zigzag.f 0 n).getD 0
theorem zz_spec (k : Nat) (n : Int) : codec_zigzag.f k n = some (zz n) ∧ 0 ≤ zz n ∧ zz n < 18446744073709551616 := by
  obtain ⟨r, h1, h2, h3⟩ := zigzag_spec 0 n
  have e : zz n = r := by unfold zz; rw [h1]; rfl
  rw [e]
  exact ⟨h1, h2, h3⟩

def Nd.enc : Nd → List Int
  | ⟨t, k, n, s, l⟩ => vi 9 t ++ k :: (if k = 1 then vi 9 (zz n) else if k = 2 then vi 9 (s.size : Int) ++ strList s else vi 9 (l.length : Int) ++ encL l)
where encL : List Nd → List Int
  | [] => []
  | n :: l => n.enc ++ encL l

/-- A tree that can be encoded: how deep it goes. -/
inductive Vd : Nat → Nd → Prop
  | int (d : Nat) (t n : Int) (h0 : 0 ≤ t) (h1 : t ≤ 9999999) : Vd (d + 1) ⟨t, 1, n, ⟨#[]⟩, []⟩
  | str (d : Nat) (t : Int) (s : ByteArray) (h0 : 0 ≤ t) (h1 : t ≤ 9999999) (hs : s.size ≤ 2000) : Vd (d + 1) ⟨t, 2, 0, s, []⟩
  | lst (d : Nat) (t : Int) (l : List Nd) (h0 : 0 ≤ t) (h1 : t ≤ 9999999) (hl : l.length ≤ 1024) (hk : ∀ x ∈ l, Vd d x) : Vd (d + 1) ⟨t, 3, 0, ⟨#[]⟩, l⟩

theorem strList_len (s : ByteArray) : (strList s).length = s.size := by simp [strList]
theorem strList_bytes (s : ByteArray) : IsB (strList s) := fun c hc => by
  obtain ⟨b, _, rfl⟩ := List.mem_map.1 hc
  have := b.toNat_lt
  exact ⟨by omega, by omega⟩

theorem putL_spec {self : List Int → Int → Int → Int → ByteArray → List Nd → Option (List Int)} {k : Nat} {l : List Nd} (hl : l.length ≤ 1024)
    (hs : ∀ x ∈ l, ∀ b, b.length + x.enc.length ≤ 900000000 → self b x.tag x.kind x.n x.s x.kids = some (b ++ x.enc)) :
    ∀ (d q i : Nat) (b : List Int), l.length - i = d → i ≤ l.length → d < q → b.length + (Nd.enc.encL (l.drop i)).length ≤ 900000000 → codec_put.l250 self k q b l (l.length : Int) (i : Int) = some (b ++ Nd.enc.encL (l.drop i))
  | 0, q + 1, i, b => fun hd hi _ _ => by
    unfold codec_put.l250
    rw [decide_eq_false (by omega), cond_false, List.drop_eq_nil_of_le (by omega)]
    simp [Nd.enc.encL]
  | d + 1, q + 1, i, b => fun hd hi hq hb => by
    have hlt : i < l.length := by omega
    obtain ⟨x, hx⟩ : ∃ x, l[i]? = some x := ⟨l[i], List.getElem?_eq_getElem hlt⟩
    have hxm : x ∈ l := List.mem_of_getElem? hx
    have hdr : l.drop i = x :: l.drop (i + 1) := by
      rw [List.drop_eq_getElem_cons hlt]
      rw [List.getElem?_eq_getElem hlt] at hx; cases hx; rfl
    rw [hdr] at hb ⊢
    simp only [Nd.enc.encL, List.length_append] at hb ⊢
    unfold codec_put.l250
    rw [decide_eq_true (by omega), inB_ok hlt, rdL_ok hx]
    simp only [cond_true]
    rw [hs x hxm b (by omega)]
    simp only [Option.bind_some]
    have e1 : IntKind.wrap .i64 ((i : Int) + 1) = ((i + 1 : Nat) : Int) := by rw [wrap64 (by omega) (by omega)]; rfl
    rw [e1, putL_spec hl hs d q (i + 1) (b ++ x.enc) (by omega) (by omega) (by omega) (by simp only [List.length_append]; omega), List.append_assoc]
  | _, 0, _, _ => fun _ _ h => by omega

theorem put_spec : ∀ (d : Nat) (n : Nd), Vd d n → ∀ (k : Nat) (b : List Int), 1100 + d ≤ k → b.length + n.enc.length ≤ 900000000 → codec_put.f k b n.tag n.kind n.n n.s n.kids = some (b ++ n.enc)
  | 0, n, h => by cases h
  | d + 1, n, h => by
    intro k b hk hb
    obtain ⟨k, rfl⟩ : ∃ q, k = q + 1 := ⟨k - 1, by omega⟩
    unfold codec_put.f codec_put.g
    cases h with
    | int _ t v h0 h1 =>
      simp only [Nd.enc, if_true, List.length_append, List.length_cons] at hb ⊢
      obtain ⟨z1, z2, z3⟩ := zz_spec k v
      rw [wrapu64 t, Int.emod_eq_of_lt h0 (by omega), putV_spec (by omega) h0 (by omega) b (by omega)]
      simp only [Option.bind_some]
      rw [fits_ok (by simp only [List.length_append]; omega), show ((1 : Int) == 1) = true from rfl, z1]
      simp only [cond_true, Option.bind_some]
      rw [show IntKind.wrap .u8 1 = 1 from rfl, putV_spec (by omega) z2 z3 _ (by simp only [List.length_append, List.length_cons, List.length_nil]; omega)]
      simp
    | str _ t s h0 h1 hs =>
      simp only [Nd.enc, show ((2 : Int) = 1) = False by decide, if_false, if_true, List.length_append, List.length_cons] at hb ⊢
      rw [wrapu64 t, Int.emod_eq_of_lt h0 (by omega), putV_spec (by omega) h0 (by omega) b (by omega)]
      simp only [Option.bind_some]
      rw [fits_ok (by simp only [List.length_append]; omega), show ((2 : Int) == 1) = false from rfl, show ((2 : Int) == 2) = true from rfl]
      simp only [cond_true, cond_false]
      rw [show IntKind.wrap .u8 2 = 2 from rfl, wrapu64 (s.size : Int), Int.emod_eq_of_lt (by omega) (by omega), putV_spec (by omega) (by omega) (by omega) _ (by simp only [List.length_append, List.length_cons, List.length_nil]; omega)]
      simp only [Option.bind_some]
      rw [fits_ok (by simp only [List.length_append, List.length_cons, List.length_nil]; omega)]
      simp
    | lst _ t l h0 h1 hl hk' =>
      simp only [Nd.enc, show ((3 : Int) = 1) = False by decide, show ((3 : Int) = 2) = False by decide, if_false, List.length_append, List.length_cons] at hb ⊢
      rw [wrapu64 t, Int.emod_eq_of_lt h0 (by omega), putV_spec (by omega) h0 (by omega) b (by omega)]
      simp only [Option.bind_some]
      rw [fits_ok (by simp only [List.length_append]; omega), show ((3 : Int) == 1) = false from rfl, show ((3 : Int) == 2) = false from rfl]
      simp only [cond_true, cond_false]
      rw [show IntKind.wrap .u8 3 = 3 from rfl, wrapu64 (l.length : Int), Int.emod_eq_of_lt (by omega) (by omega), putV_spec (by omega) (by omega) (by omega) _ (by simp only [List.length_append, List.length_cons, List.length_nil]; omega)]
      simp only [Option.bind_some]
      have := putL_spec (k := k) hl (fun x hx b hb => put_spec d x (hk' x hx) k b (by omega) hb) l.length k 0 ((b ++ vi 9 t ++ [3]) ++ vi 9 (l.length : Int)) (by omega) (by omega) (by omega) (by simp only [List.drop_zero, List.length_append, List.length_cons, List.length_nil]; omega)
      rw [show ((0 : Nat) : Int) = 0 from rfl] at this
      rw [this]
      simp
end Gv

/- Plain laws: a tree read. -/
namespace Gv
open Go
set_option linter.unusedVariables false
set_option linter.unusedSimpArgs false

theorem next_at {k : Nat} {b pre rest : List Int} {c : Int} (hb : b = pre ++ c :: rest) (hl : b.length ≤ 1000000) : codec_decoder_next.f k b (pre.length : Int) = some (.inl (b, ((pre ++ [c]).length : Int), c)) := by
  subst hb
  rw [next_spec k (c := c) (by simp) hl]
  simp
theorem varint_at {k : Nat} (hk : 12 ≤ k) {x : Int} (h0 : 0 ≤ x) (h1 : x < 18446744073709551616) {b pre rest : List Int} (hb : b = pre ++ (vi 9 x ++ rest)) (hl : b.length ≤ 1000000) :
    codec_decoder_varint.f k b (pre.length : Int) = some (.inl (b, ((pre ++ vi 9 x).length : Int), x)) := by
  subst hb
  rw [← List.append_assoc] at hl ⊢
  rw [varint_read hk h0 h1 pre rest hl, List.length_append]
theorem limited_at {k : Nat} (hk : 12 ≤ k) {x m code : Int} (h0 : 0 ≤ x) (h1 : x ≤ m) (hm : m ≤ 1000000000) {b pre rest : List Int} (hb : b = pre ++ (vi 9 x ++ rest)) (hl : b.length ≤ 1000000) :
    codec_decoder_limited.f k b (pre.length : Int) m code = some (.inl (b, ((pre ++ vi 9 x).length : Int), x)) := by
  rw [codec_decoder_limited.f, varint_at hk h0 (by omega) hb hl]
  simp only [Option.bind_some]
  rw [decide_eq_false (show ¬ x > m by omega), cond_false, wrap64 (by omega) (by omega)]

/-- The loop over a string's bytes. -/
theorem bytes_dec {self : List Int → Int → Int → Option ((List Int × Int × Int × Int × Int × ByteArray × List Nd) ⊕ (List Int × Int × Int))} {k : Nat} {b rest : List Int} (hl : b.length ≤ 1000000) (x2 x3 x4 : Int) (x5 : ByteArray) (x6 : List Nd) (x7 x8 x9 : Int) (x10 : ByteArray) (x11 : List Nd) (m : Nat) :
    ∀ (l pre : List Int) (q i : Nat) (acc : List Int), i + l.length = m → m ≤ 2000 → acc.length = i → l.length < q → b = pre ++ (l ++ rest) →
      codec_decoder_node.l128474 self k q b (pre.length : Int) x2 x3 x4 x5 x6 x7 x8 x9 x10 x11 acc (m : Int) (i : Int) = some (.inl (b, ((pre ++ l).length : Int), x2, x3, x4, x5, x6, x7, x8, x9, x10, x11, acc ++ l))
  | [], pre, q + 1, i, acc => fun him hm _ _ hb => by
    unfold codec_decoder_node.l128474
    simp only [List.length_nil] at him
    rw [decide_eq_false (by omega), cond_false]
    simp
  | c :: l, pre, q + 1, i, acc => fun him hm ha hq hb => by
    unfold codec_decoder_node.l128474
    simp only [List.length_cons] at him hq
    rw [decide_eq_true (by omega), cond_true, next_at (c := c) (rest := l ++ rest) (by rw [hb]; simp) hl]
    simp only [Option.bind_some]
    rw [fits_ok (by omega), cond_true]
    have e1 : IntKind.wrap .i64 ((i : Int) + 1) = ((i + 1 : Nat) : Int) := by rw [wrap64 (by omega) (by omega)]; rfl
    rw [e1, bytes_dec (rest := rest) hl x2 x3 x4 x5 x6 x7 x8 x9 x10 x11 m l (pre ++ [c]) q (i + 1) (acc ++ [c]) (by omega) hm (by simp [ha]) (by omega) (by rw [hb]; simp)]
    simp
  | _, _, 0, _, _ => fun _ _ _ h _ => by omega

def NodeAt (k : Nat) (b : List Int) (p a2 e : Int) : Prop := ∃ t' k' n' s' l', codec_decoder_node.f k b p a2 = some (.inl (b, e, t', k', n', s', l'))

/-- The loop over a list's kids. -/
theorem kids_dec {self : List Int → Int → Int → Option ((List Int × Int × Int × Int × Int × ByteArray × List Nd) ⊕ (List Int × Int × Int))} {k : Nat} {b rest : List Int} (hl : b.length ≤ 1000000) (x2 x3 x4 : Int) (x5 : ByteArray) (x6 : List Nd) (x7 x8 x9 : Int) (x10 : ByteArray) (a2 : Nat) (ha2 : a2 ≤ 8) (m : Nat) :
    ∀ (l : List Nd) (pre : List Int) (q i : Nat) (acc : List Nd), (∀ x ∈ l, ∀ pre rest, b = pre ++ (x.enc ++ rest) → ∃ t' k' n' s' l', self b (pre.length : Int) ((a2 + 1 : Nat) : Int) = some (.inl (b, ((pre ++ x.enc).length : Int), t', k', n', s', l'))) →
      i + l.length = m → m ≤ 1024 → acc.length = i → l.length < q → b = pre ++ (Nd.enc.encL l ++ rest) →
      ∃ acc', codec_decoder_node.l128502 self k q b (pre.length : Int) x2 x3 x4 x5 x6 x7 x8 x9 x10 acc (a2 : Int) (m : Int) (i : Int) = some (.inl (b, ((pre ++ Nd.enc.encL l).length : Int), x2, x3, x4, x5, x6, x7, x8, x9, x10, acc'))
  | [], pre, q + 1, i, acc => fun hs him hm _ _ hb => by
    refine ⟨acc, ?_⟩
    unfold codec_decoder_node.l128502
    simp only [List.length_nil] at him
    rw [decide_eq_false (by omega), cond_false]
    simp [Nd.enc.encL]
  | x :: l, pre, q + 1, i, acc => fun hs him hm ha hq hb => by
    simp only [List.length_cons] at him hq
    simp only [Nd.enc.encL] at hb ⊢
    obtain ⟨t', k', n', s', l', hx⟩ := hs x (by simp) pre (Nd.enc.encL l ++ rest) (by rw [hb]; simp)
    have e0 : IntKind.wrap .i64 ((a2 : Int) + 1) = ((a2 + 1 : Nat) : Int) := by rw [wrap64 (by omega) (by omega)]; rfl
    have e1 : IntKind.wrap .i64 ((i : Int) + 1) = ((i + 1 : Nat) : Int) := by rw [wrap64 (by omega) (by omega)]; rfl
    obtain ⟨acc', h⟩ := kids_dec (rest := rest) hl x2 x3 x4 x5 x6 x7 x8 x9 x10 a2 ha2 m l (pre ++ x.enc) q (i + 1) (acc ++ [⟨t', k', n', s', l'⟩]) (fun y hy => hs y (by simp [hy])) (by omega) hm (by simp [ha]) (by omega) (by rw [hb]; simp)
    refine ⟨acc', ?_⟩
    unfold codec_decoder_node.l128502
    rw [decide_eq_true (by omega), cond_true, e0, hx]
    simp only [Option.bind_some]
    rw [fits_ok (by omega), cond_true, e1, h, List.append_assoc]
  | _, _, 0, _, _ => fun _ _ _ _ h _ => by omega

theorem dec_spec : ∀ (d : Nat) (n : Nd), Vd d n → ∀ (k a2 : Nat) (b pre rest : List Int), 2100 + d ≤ k → a2 + d ≤ 9 → b.length ≤ 1000000 → b = pre ++ (n.enc ++ rest) →
    ∃ t' k' n' s' l', codec_decoder_node.f k b (pre.length : Int) (a2 : Int) = some (.inl (b, ((pre ++ n.enc).length : Int), t', k', n', s', l'))
  | 0, n, h => by cases h
  | d + 1, n, h => by
    intro k a2 b pre rest hk ha2 hl hb
    obtain ⟨k, rfl⟩ : ∃ q, k = q + 1 := ⟨k - 1, by omega⟩
    unfold codec_decoder_node.f codec_decoder_node.g
    rw [decide_eq_false (show ¬ (a2 : Int) > 8 by omega), cond_false]
    cases h with
    | int _ t v h0 h1 =>
      simp only [Nd.enc, if_true] at hb ⊢
      obtain ⟨z1, z2, z3⟩ := zz_spec k v
      rw [limited_at (by omega) h0 h1 (by omega) (rest := 1 :: (vi 9 (zz v) ++ rest)) (by rw [hb]; simp) hl]
      simp only [Option.bind_some]
      rw [next_at (c := 1) (rest := vi 9 (zz v) ++ rest) (by rw [hb]; simp) hl]
      simp only [Option.bind_some]
      rw [show (IntKind.wrap .i64 1 == 1) = true from rfl, cond_true, varint_at (by omega) z2 z3 (rest := rest) (by rw [hb]; simp) hl]
      simp only [Option.bind_some]
      have el : (pre ++ vi 9 t ++ [1] ++ vi 9 (zz v)).length = (pre ++ (vi 9 t ++ 1 :: vi 9 (zz v))).length := by simp
      rw [el]
      cases (IntKind.wrap .u64 (((BitVec.ofInt 64 (zz v)) &&& (BitVec.ofInt 64 1)).toNat : Int)) == 1
      · exact ⟨_, _, _, _, _, rfl⟩
      · exact ⟨_, _, _, _, _, rfl⟩
    | str _ t s h0 h1 hs =>
      simp only [Nd.enc, show ((2 : Int) = 1) = False by decide, if_false, if_true] at hb ⊢
      rw [limited_at (by omega) h0 h1 (by omega) (rest := 2 :: (vi 9 (s.size : Int) ++ (strList s ++ rest))) (by rw [hb]; simp) hl]
      simp only [Option.bind_some]
      rw [next_at (c := 2) (rest := vi 9 (s.size : Int) ++ (strList s ++ rest)) (by rw [hb]; simp) hl]
      simp only [Option.bind_some]
      rw [show (IntKind.wrap .i64 2 == 1) = false from rfl, show (IntKind.wrap .i64 2 == 2) = true from rfl, cond_false, cond_true, limited_at (by omega) (by omega) (show (s.size : Int) ≤ 2000 by omega) (by omega) (rest := strList s ++ rest) (by rw [hb]; simp) hl]
      simp only [Option.bind_some]
      rw [decide_eq_true (show (0 : Int) ≤ 0 by omega), decide_eq_true (show (0 : Int) ≤ (s.size : Int) by omega), fits_ok (by omega)]
      simp only [Bool.and_self, cond_true]
      have := bytes_dec (self := codec_decoder_node.f k) (k := k) (rest := rest) hl 0 0 0 ⟨#[]⟩ [] t 2 0 ⟨#[]⟩ [] s.size (strList s) (pre ++ vi 9 t ++ [2] ++ vi 9 (s.size : Int)) k 0 [] (by rw [strList_len]; omega) hs rfl (by rw [strList_len]; omega) (by rw [hb]; simp)
      rw [show ((0 : Nat) : Int) = 0 from rfl] at this
      rw [show IntKind.wrap .i64 2 = 2 from rfl, this]
      simp only [Option.bind_some]
      have el : (pre ++ vi 9 t ++ [2] ++ vi 9 (s.size : Int) ++ strList s).length = (pre ++ (vi 9 t ++ 2 :: (vi 9 (s.size : Int) ++ strList s))).length := by simp
      rw [el]
      exact ⟨_, _, _, _, _, rfl⟩
    | lst _ t l h0 h1 hll hk' =>
      simp only [Nd.enc, show ((3 : Int) = 1) = False by decide, show ((3 : Int) = 2) = False by decide, if_false] at hb ⊢
      rw [limited_at (by omega) h0 h1 (by omega) (rest := 3 :: (vi 9 (l.length : Int) ++ (Nd.enc.encL l ++ rest))) (by rw [hb]; simp) hl]
      simp only [Option.bind_some]
      rw [next_at (c := 3) (rest := vi 9 (l.length : Int) ++ (Nd.enc.encL l ++ rest)) (by rw [hb]; simp) hl]
      simp only [Option.bind_some]
      rw [show (IntKind.wrap .i64 3 == 1) = false from rfl, show (IntKind.wrap .i64 3 == 2) = false from rfl, show (IntKind.wrap .i64 3 == 3) = true from rfl, cond_false, cond_false, cond_true, limited_at (by omega) (by omega) (show (l.length : Int) ≤ 1024 by omega) (by omega) (rest := Nd.enc.encL l ++ rest) (by rw [hb]; simp) hl]
      simp only [Option.bind_some]
      obtain ⟨acc', this⟩ := kids_dec (self := codec_decoder_node.f k) (k := k) (rest := rest) hl 0 0 0 ⟨#[]⟩ [] t 3 0 ⟨#[]⟩ a2 (by omega) l.length l (pre ++ vi 9 t ++ [3] ++ vi 9 (l.length : Int)) k 0 [] (fun x hx pre' rest' hb' => dec_spec d x (hk' x hx) k (a2 + 1) b pre' rest' (by omega) (by omega) hl hb') (by omega) hll rfl (by omega) (by rw [hb]; simp)
      rw [show ((0 : Nat) : Int) = 0 from rfl] at this
      rw [show IntKind.wrap .i64 3 = 3 from rfl, this]
      simp only [Option.bind_some]
      have el : (pre ++ vi 9 t ++ [3] ++ vi 9 (l.length : Int) ++ Nd.enc.encL l).length = (pre ++ (vi 9 t ++ 3 :: (vi 9 (l.length : Int) ++ Nd.enc.encL l))).length := by simp
      rw [el]
      exact ⟨_, _, _, _, _, rfl⟩

theorem Decode_spec {d : Nat} {n : Nd} (h : Vd d n) (hd : d ≤ 8) {k : Nat} (hk : 2200 ≤ k) (hl : n.enc.length ≤ 1000000) : ∃ t' k' n' s' l', codec_Decode.f k n.enc = some (t', k', n', s', l', (n.enc.length : Int), 0) := by
  obtain ⟨t', k', n', s', l', h1⟩ := dec_spec d n h k 1 n.enc [] [] (by omega) (by omega) hl (by simp)
  refine ⟨t', k', n', s', l', ?_⟩
  have h1' : codec_decoder_node.f k n.enc 0 1 = _ := h1
  rw [codec_Decode.f, h1']
  simp
end Gv

/- Plain laws: an event's tree, encoded. -/
namespace Gv
open Go
set_option linter.unusedVariables false
set_option linter.unusedSimpArgs false

theorem encL_len {B : Nat} : ∀ (l : List Nd), (∀ x ∈ l, x.enc.length ≤ B) → (Nd.enc.encL l).length ≤ l.length * B
  | [], _ => by simp [Nd.enc.encL]
  | x :: l, h => by
    have h1 := h x (by simp)
    have h2 := encL_len l (fun y hy => h y (by simp [hy]))
    simp only [Nd.enc.encL, List.length_append, List.length_cons, Nat.add_mul, Nat.one_mul]
    omega

theorem enc_bytes : ∀ (d : Nat) (n : Nd), Vd d n → IsB n.enc
  | 0, n, h => by cases h
  | d + 1, n, h => by
    have hv : ∀ {t : Int}, 0 ≤ t → t < 18446744073709551616 → IsB (vi 9 t) := fun h0 h1 => vi_bytes 9 _ h0 (by rw [show (128 : Int) * 128 ^ 9 = 1180591620717411303424 from rfl]; omega)
    have hc : ∀ {c : Int} {l : List Int}, 0 ≤ c → c < 256 → IsB l → IsB (c :: l) := fun h0 h1 hl x hx => by
      rcases List.mem_cons.1 hx with rfl | hx
      · exact ⟨h0, h1⟩
      · exact hl x hx
    have many : ∀ (l : List Nd), (∀ x ∈ l, IsB x.enc) → IsB (Nd.enc.encL l) := by
      intro l
      induction l with
      | nil => intro _ c hc; simp [Nd.enc.encL] at hc
      | cons x l ih => intro h; simp only [Nd.enc.encL]; exact (h x (by simp)).append (ih fun y hy => h y (by simp [hy]))
    cases h with
    | int _ t v h0 h1 =>
      obtain ⟨z1, z2, z3⟩ := zz_spec 0 v
      simp only [Nd.enc, if_true]
      exact (hv h0 (by omega)).append (hc (by omega) (by omega) (hv z2 z3))
    | str _ t s h0 h1 hs =>
      simp only [Nd.enc, show ((2 : Int) = 1) = False by decide, if_false, if_true]
      exact (hv h0 (by omega)).append (hc (by omega) (by omega) ((hv (by omega) (by omega)).append (strList_bytes s)))
    | lst _ t l h0 h1 hl hk =>
      simp only [Nd.enc, show ((3 : Int) = 1) = False by decide, show ((3 : Int) = 2) = False by decide, if_false]
      exact (hv h0 (by omega)).append (hc (by omega) (by omega) ((hv (by omega) (by omega)).append (many l fun x hx => enc_bytes d x (hk x hx))))

theorem num_vd (d : Nat) {a : Int} (v : Int) (h0 : 0 ≤ a) (h1 : a ≤ 9999999) : Vd (d + 1) (num a v) := .int d a v h0 h1

theorem num_enc (a v : Int) : (num a v).enc.length ≤ 21 := by
  have h1 := vi_len 9 a
  have h2 := vi_len 9 (zz v)
  simp only [num, Nd.enc, if_true, List.length_append, List.length_cons]
  omega

theorem encN_kid {e : Ev} (h : e.Ok) : ∀ x ∈ encKids e, Vd 2 x ∧ x.enc.length ≤ 1100 := by
  have hsc := h.sc10
  have hn : ∀ (a v : Int), 0 ≤ a → a ≤ 9999999 → Vd 2 (num a v) ∧ (num a v).enc.length ≤ 1100 := fun a v h0 h1 => ⟨num_vd 1 v h0 h1, by have := num_enc a v; omega⟩
  have hl : Vd 2 ⟨4, 3, 0, ⟨#[]⟩, e.sc.map (num 0)⟩ ∧ (Nd.enc ⟨4, 3, 0, ⟨#[]⟩, e.sc.map (num 0)⟩).length ≤ 1100 := by
    refine ⟨.lst 1 4 _ (by omega) (by omega) (by simp; omega) (fun x hx => ?_), ?_⟩
    · obtain ⟨v, _, rfl⟩ := List.mem_map.1 hx
      exact num_vd 0 v (by omega) (by omega)
    · have h1 := vi_len 9 4
      have h2 := vi_len 9 (((e.sc.map (num 0)).length : Nat) : Int)
      have h3 := encL_len (B := 21) (e.sc.map (num 0)) (fun x hx => by obtain ⟨v, _, rfl⟩ := List.mem_map.1 hx; exact num_enc 0 v)
      simp only [Nd.enc, show ((3 : Int) = 1) = False by decide, show ((3 : Int) = 2) = False by decide, if_false, List.length_append, List.length_cons]
      simp only [List.length_map] at h3 h2 ⊢
      omega
  have ht : Vd 2 ⟨6, 2, 0, e.tx, []⟩ ∧ (Nd.enc ⟨6, 2, 0, e.tx, []⟩).length ≤ 1100 := by
    have htx := h.tx1000
    refine ⟨.str 1 6 _ (by omega) (by omega) (by omega), ?_⟩
    have h1 := vi_len 9 6
    have h2 := vi_len 9 (e.tx.size : Int)
    simp only [Nd.enc, show ((2 : Int) = 1) = False by decide, if_false, if_true, List.length_append, List.length_cons, strList_len]
    omega
  intro x hx
  unfold encKids at hx
  split at hx
  · simp only [List.cons_append, List.nil_append, List.mem_cons, List.not_mem_nil, or_false] at hx
    rcases hx with rfl | rfl | rfl | rfl | rfl | rfl | rfl
    · exact hn _ _ (by omega) (by omega)
    · exact hn _ _ (by omega) (by omega)
    · exact hn _ _ (by omega) (by omega)
    · exact hl
    · exact hn _ _ (by omega) (by omega)
    · exact ht
    · exact hn _ _ (by omega) (by omega)
  · split at hx
    · simp only [List.cons_append, List.nil_append, List.mem_cons, List.not_mem_nil, or_false] at hx
      rcases hx with rfl | rfl | rfl | rfl | rfl <;> exact hn _ _ (by omega) (by omega)
    · simp only [List.mem_cons, List.not_mem_nil, or_false] at hx
      rcases hx with rfl | rfl <;> exact hn _ _ (by omega) (by omega)

theorem encKids_le (e : Ev) : (encKids e).length ≤ 7 := by
  unfold encKids; split
  · simp
  · split <;> simp

theorem encN_vd {e : Ev} (h : e.Ok) : Vd 3 (encN e) := .lst 2 50 _ (by omega) (by omega) (by have := encKids_le e; omega) (fun x hx => (encN_kid h x hx).1)

theorem encN_len {e : Ev} (h : e.Ok) : (encN e).enc.length ≤ 10000 := by
  have h0 := encKids_le e
  have h1 := vi_len 9 50
  have h2 := vi_len 9 (((encKids e).length : Nat) : Int)
  have h3 := encL_len (B := 1100) (encKids e) (fun x hx => (encN_kid h x hx).2)
  simp only [encN, Nd.enc, show ((3 : Int) = 1) = False by decide, show ((3 : Int) = 2) = False by decide, if_false, List.length_append, List.length_cons]
  have : (encKids e).length * 1100 ≤ 7 * 1100 := Nat.mul_le_mul_right _ h0
  omega

theorem Encode_spec {k : Nat} (hk : 2200 ≤ k) {e : Ev} (h : e.Ok) : codec_Encode.f k 50 3 0 ⟨#[]⟩ (encKids e) = some ((encN e).enc, 0) := by
  obtain ⟨b, ⟨r, h1, h2, h3⟩, h4⟩ := encN_size (k := k) (by omega) h
  have h1' : codec_size.f k 50 3 0 ⟨#[]⟩ (encKids e) 1 = some r := h1
  have hp : codec_put.f k [] 50 3 0 ⟨#[]⟩ (encKids e) = some ((encN e).enc) := put_spec 3 (encN e) (encN_vd h) k [] (by omega) (by have := encN_len h; simp; omega)
  rw [codec_Encode.f, h1']
  simp only [Option.bind_some]
  rw [decide_eq_false (show ¬ r < 0 by omega), decide_eq_true (show (0 : Int) ≤ 0 by omega), decide_eq_true (show (0 : Int) ≤ r by omega), fits_ok (by omega), hp]
  rfl
end Gv

/- Plain laws: numbers in bytes, digests. -/
namespace Gv
open Go
set_option linter.unusedVariables false
set_option linter.unusedSimpArgs false

def be4 (x : Int) : List Int := [x / 16777216 % 256, x / 65536 % 256, x / 256 % 256, x % 256]
def be8 (x : Int) : List Int := [x / 72057594037927936 % 256, x / 281474976710656 % 256, x / 1099511627776 % 256, x / 4294967296 % 256, x / 16777216 % 256, x / 65536 % 256, x / 256 % 256, x % 256]
theorem be4_bytes (x : Int) : IsB (be4 x) := fun c hc => by
  simp only [be4, List.mem_cons, List.not_mem_nil, or_false] at hc
  rcases hc with rfl | rfl | rfl | rfl <;> omega
theorem be8_bytes (x : Int) : IsB (be8 x) := fun c hc => by
  simp only [be8, List.mem_cons, List.not_mem_nil, or_false] at hc
  rcases hc with rfl | rfl | rfl | rfl | rfl | rfl | rfl | rfl <;> omega

theorem fdiv_pos (x : Int) {m : Int} (h : 0 ≤ m) : Int.fdiv x m = x / m := Int.fdiv_eq_ediv_of_nonneg _ h

theorem big4 {k : Nat} (hk : 10 ≤ k) (x : Int) : journal_big.f k x 4 = some (be4 x) := by
  obtain ⟨k, rfl⟩ : ∃ q, k = q + 10 := ⟨k - 10, by omega⟩
  have h : journal_big.f (k + 10) x 4 = some [IntKind.wrap .u8 (Int.fdiv x (2 ^ 24)), IntKind.wrap .u8 (Int.fdiv x (2 ^ 16)), IntKind.wrap .u8 (Int.fdiv x (2 ^ 8)), IntKind.wrap .u8 (Int.fdiv x (2 ^ 0))] := by kernel_rfl
  rw [h]
  simp only [wrapu8, be4]
  rw [fdiv_pos _ (by decide), fdiv_pos _ (by decide), fdiv_pos _ (by decide), fdiv_pos _ (by decide)]
  simp
theorem big8 {k : Nat} (hk : 10 ≤ k) (x : Int) : journal_big.f k x 8 = some (be8 x) := by
  obtain ⟨k, rfl⟩ : ∃ q, k = q + 10 := ⟨k - 10, by omega⟩
  have h : journal_big.f (k + 10) x 8 = some [IntKind.wrap .u8 (Int.fdiv x (2 ^ 56)), IntKind.wrap .u8 (Int.fdiv x (2 ^ 48)), IntKind.wrap .u8 (Int.fdiv x (2 ^ 40)), IntKind.wrap .u8 (Int.fdiv x (2 ^ 32)), IntKind.wrap .u8 (Int.fdiv x (2 ^ 24)), IntKind.wrap .u8 (Int.fdiv x (2 ^ 16)), IntKind.wrap .u8 (Int.fdiv x (2 ^ 8)), IntKind.wrap .u8 (Int.fdiv x (2 ^ 0))] := by kernel_rfl
  rw [h]
  simp only [wrapu8, be8]
  rw [fdiv_pos _ (by decide), fdiv_pos _ (by decide), fdiv_pos _ (by decide), fdiv_pos _ (by decide), fdiv_pos _ (by decide), fdiv_pos _ (by decide), fdiv_pos _ (by decide), fdiv_pos _ (by decide)]
  simp

/-- One byte more of a number. -/
def nxt (a c : Int) : Int := IntKind.wrap .u64 (((BitVec.ofInt 64 (IntKind.wrap .u64 (a * 2 ^ (8)))) ||| (BitVec.ofInt 64 (IntKind.wrap .u64 c))).toNat : Int)
theorem nxt_spec {a c : Int} (h0 : 0 ≤ a) (h1 : a < 72057594037927936) (c0 : 0 ≤ c) (c1 : c < 256) : nxt a c = a * 256 + c := by
  unfold nxt
  have e : (2 : Int) ^ 8 = 256 := rfl
  rw [wrapu64 c, Int.emod_eq_of_lt c0 (by omega), wrapu64 (a * 2 ^ 8), e, Int.emod_eq_of_lt (by omega) (by omega), BitVec.or_comm]
  have := or64 (x := c) (m := a) 8 c0 (by rw [e]; omega) h0 (by rw [e]; omega)
  rw [e] at this
  rw [this]; omega

theorem number4 {k : Nat} (hk : 10 ≤ k) {x : Int} (h0 : 0 ≤ x) (h1 : x < 4294967296) : journal_number.f k (be4 x) = some x := by
  obtain ⟨k, rfl⟩ : ∃ q, k = q + 10 := ⟨k - 10, by omega⟩
  have h : ∀ a b c d : Int, journal_number.f (k + 10) [a, b, c, d] = some (nxt (nxt (nxt (nxt 0 a) b) c) d) := fun a b c d => by kernel_rfl
  rw [be4, h, nxt_spec (a := 0) (c := x / 16777216 % 256) (by omega) (by omega) (by omega) (by omega), nxt_spec (a := 0 * 256 + x / 16777216 % 256) (c := x / 65536 % 256) (by omega) (by omega) (by omega) (by omega), nxt_spec (a := (0 * 256 + x / 16777216 % 256) * 256 + x / 65536 % 256) (c := x / 256 % 256) (by omega) (by omega) (by omega) (by omega), nxt_spec (a := ((0 * 256 + x / 16777216 % 256) * 256 + x / 65536 % 256) * 256 + x / 256 % 256) (c := x % 256) (by omega) (by omega) (by omega) (by omega)]
  congr 1
  omega
theorem number8 {k : Nat} (hk : 10 ≤ k) {x : Int} (h0 : 0 ≤ x) (h1 : x < 18446744073709551616) : journal_number.f k (be8 x) = some x := by
  obtain ⟨k, rfl⟩ : ∃ q, k = q + 10 := ⟨k - 10, by omega⟩
  have h : ∀ a b c d e f g i : Int, journal_number.f (k + 10) [a, b, c, d, e, f, g, i] = some (nxt (nxt (nxt (nxt (nxt (nxt (nxt (nxt 0 a) b) c) d) e) f) g) i) := fun a b c d e f g i => by kernel_rfl
  rw [be8, h, nxt_spec (a := 0) (c := x / 72057594037927936 % 256) (by omega) (by omega) (by omega) (by omega), nxt_spec (a := 0 * 256 + x / 72057594037927936 % 256) (c := x / 281474976710656 % 256) (by omega) (by omega) (by omega) (by omega), nxt_spec (a := (0 * 256 + x / 72057594037927936 % 256) * 256 + x / 281474976710656 % 256) (c := x / 1099511627776 % 256) (by omega) (by omega) (by omega) (by omega), nxt_spec (a := ((0 * 256 + x / 72057594037927936 % 256) * 256 + x / 281474976710656 % 256) * 256 + x / 1099511627776 % 256) (c := x / 4294967296 % 256) (by omega) (by omega) (by omega) (by omega), nxt_spec (a := (((0 * 256 + x / 72057594037927936 % 256) * 256 + x / 281474976710656 % 256) * 256 + x / 1099511627776 % 256) * 256 + x / 4294967296 % 256) (c := x / 16777216 % 256) (by omega) (by omega) (by omega) (by omega), nxt_spec (a := ((((0 * 256 + x / 72057594037927936 % 256) * 256 + x / 281474976710656 % 256) * 256 + x / 1099511627776 % 256) * 256 + x / 4294967296 % 256) * 256 + x / 16777216 % 256) (c := x / 65536 % 256) (by omega) (by omega) (by omega) (by omega), nxt_spec (a := (((((0 * 256 + x / 72057594037927936 % 256) * 256 + x / 281474976710656 % 256) * 256 + x / 1099511627776 % 256) * 256 + x / 4294967296 % 256) * 256 + x / 16777216 % 256) * 256 + x / 65536 % 256) (c := x / 256 % 256) (by omega) (by omega) (by omega) (by omega), nxt_spec (a := ((((((0 * 256 + x / 72057594037927936 % 256) * 256 + x / 281474976710656 % 256) * 256 + x / 1099511627776 % 256) * 256 + x / 4294967296 % 256) * 256 + x / 16777216 % 256) * 256 + x / 65536 % 256) * 256 + x / 256 % 256) (c := x % 256) (by omega) (by omega) (by omega) (by omega)]
  congr 1
  omega

theorem u64_bound (n : Int) : 0 ≤ IntKind.wrap .u64 n ∧ IntKind.wrap .u64 n < 18446744073709551616 := by rw [wrapu64]; omega

theorem add_loop {k : Nat} {b : List Int} (hb : b.length ≤ 1000000) : ∀ (d q i : Nat) (x : Int), b.length - i = d → i ≤ b.length → d < q → 0 ≤ x → x < 18446744073709551616 → ∃ y, digest_Add.l26 k q x b (b.length : Int) (i : Int) = some y ∧ 0 ≤ y ∧ y < 18446744073709551616
  | 0, q + 1, i, x => fun hd hi _ h0 h1 => by
    refine ⟨x, ?_, h0, h1⟩
    unfold digest_Add.l26
    rw [decide_eq_false (by omega)]; rfl
  | d + 1, q + 1, i, x => fun hd hi hq h0 h1 => by
    have hlt : i < b.length := by omega
    unfold digest_Add.l26
    rw [decide_eq_true (by omega), inB_ok hlt]
    simp only [cond_true]
    have e1 : IntKind.wrap .i64 ((i : Int) + 1) = ((i + 1 : Nat) : Int) := by rw [wrap64 (by omega) (by omega)]; rfl
    rw [e1]
    exact add_loop hb d q (i + 1) _ (by omega) (by omega) (by omega) (u64_bound _).1 (u64_bound _).2
  | _, 0, _, _ => fun _ _ h => by omega
theorem num_loop {k : Nat} (v : Int) : ∀ (d q : Nat) (x : Int), d ≤ 8 → d < q → 0 ≤ x → x < 18446744073709551616 → ∃ y, digest_Number.l26 k q x v (8 * (d : Int) - 8) = some y ∧ 0 ≤ y ∧ y < 18446744073709551616
  | 0, q + 1, x => fun _ _ h0 h1 => by
    refine ⟨x, ?_, h0, h1⟩
    unfold digest_Number.l26
    rw [decide_eq_false (by omega)]; rfl
  | d + 1, q + 1, x => fun hd hq h0 h1 => by
    unfold digest_Number.l26
    rw [decide_eq_true (by omega), decide_eq_false (by rw [wrapu64]; omega)]
    simp only [cond_true, cond_false]
    have e1 : IntKind.wrap .i64 (8 * ((d + 1 : Nat) : Int) - 8 - 8) = 8 * (d : Int) - 8 := by rw [wrap64 (by omega) (by omega)]; omega
    rw [e1]
    exact num_loop v d q _ (by omega) (by omega) (u64_bound _).1 (u64_bound _).2
  | _, 0, _ => fun _ h => by omega
theorem chain_spec {k : Nat} {b : List Int} (hb : b.length ≤ 1000000) (hk : b.length + 10 < k) (d : Int) : ∃ y, digest_Chain.f k d b = some y ∧ 0 ≤ y ∧ y < 18446744073709551616 := by
  obtain ⟨y, h1, h2, h3⟩ := num_loop (k := k) d 8 k 14695981039346656037 (by omega) (by omega) (by omega) (by omega)
  obtain ⟨z, g1, g2, g3⟩ := add_loop (k := k) hb b.length k 0 y (by omega) (by omega) (by omega) h2 h3
  refine ⟨z, ?_, g2, g3⟩
  have h1' : digest_Number.l26 k k 14695981039346656037 d 56 = some y := h1
  rw [digest_Chain.f, digest_Number.f, h1']
  simp only [Option.bind_some]
  rw [show ((0 : Nat) : Int) = 0 from rfl] at g1
  rw [digest_Add.f, g1]
  rfl
theorem of_spec {k : Nat} (hk : 1 ≤ k) : digest_Of.f k [] = some 14695981039346656037 := by
  obtain ⟨k, rfl⟩ : ∃ q, k = q + 1 := ⟨k - 1, by omega⟩
  kernel_rfl
end Gv

/- Plain laws: the event of a tree, by the program and by the reference. -/
namespace Gv
open Go
set_option linter.unusedVariables false
set_option linter.unusedSimpArgs false
theorem copy_loop {self : Int → Int → Int → ByteArray → (List Nd) → Option (Int × Int × Int × ByteArray × List Nd)} {k : Nat} {l : List Nd} (hl : l.length * 64 ≤ 140737488351232)
    (hs : ∀ x ∈ l, self x.tag x.kind x.n x.s x.kids = some (x.tag, x.kind, x.n, x.s, x.kids)) (x0 x1 x2 : Int) (x3 : ByteArray) (x5 x6 x7 : Int) (x8 : ByteArray) (x9 : List Nd) (x10 x11 x12 : Int) (x13 : ByteArray) :
    ∀ (d q i : Nat) (acc : List Nd), l.length - i = d → i ≤ l.length → d < q → acc.length = i →
      ref10_Copy.l58 self k q x0 x1 x2 x3 l x5 x6 x7 x8 x9 x10 x11 x12 x13 acc (i : Int) = some (x5, x6, x7, x8, x9, x10, x11, x12, x13, acc ++ l.drop i) := by
  intro d
  induction d with
  | zero =>
    intro q i acc hd hi hq ha
    obtain ⟨q, rfl⟩ : ∃ q', q = q' + 1 := ⟨q - 1, by omega⟩
    have : i = l.length := by omega
    subst this
    rw [ref10_Copy.l58]
    rw [lt_ok, decide_eq_false (Nat.lt_irrefl _), cond_false, List.drop_length, List.append_nil]
  | succ d ih =>
    intro q i acc hd hi hq ha
    obtain ⟨q, rfl⟩ : ∃ q', q = q' + 1 := ⟨q - 1, by omega⟩
    have hlt : i < l.length := by omega
    have hx : l[i]? = some l[i] := List.getElem?_eq_getElem hlt
    have hr := rdL_ok (e := .node) hx
    have hself := hs l[i] (List.getElem_mem hlt)
    have hf : fits (acc.length + 1) 64 = true := by simp only [fits, decide_eq_true_eq]; omega
    have hw : IntKind.wrap .i64 ((i : Int) + 1) = ((i + 1 : Nat) : Int) := by rw [wrap64 (by omega) (by omega)]; rfl
    simp only [ref10_Copy.l58, lt_ok, hlt, decide_true, cond_true, inB_ok hlt, hr, hself, Option.bind_some, hf, hw]
    rw [ih q (i + 1) _ (by omega) (by omega) (by omega) (by simp [ha])]
    rw [List.drop_eq_getElem_cons hlt, List.append_assoc, Nd.eta]
    rfl

theorem copy_spec : ∀ (k : Nat) (n : Nd), n.sz < k → Fit n → ref10_Copy.f k n.tag n.kind n.n n.s n.kids = some (n.tag, n.kind, n.n, n.s, n.kids)
  | 0, n, h, _ => by omega
  | k + 1, n, h, hf => by
    have hsz := n.sz_eq
    have hle := Nd.sz_len n.kids
    have hs : ∀ x ∈ n.kids, ref10_Copy.f k x.tag x.kind x.n x.s x.kids = some (x.tag, x.kind, x.n, x.s, x.kids) := fun x hx =>
      copy_spec k x (by have := Nd.sz_mem hx; omega) (hf.kid hx)
    have hl := copy_loop (self := ref10_Copy.f k) (k := k) hf.len hs n.tag n.kind n.n n.s 0 0 0 ⟨#[]⟩ [] n.tag n.kind n.n n.s n.kids.length k 0 [] (by omega) (by omega) (by omega) rfl
    rw [ref10_Copy.f, ref10_Copy.g]
    rw [show ((0 : Nat) : Int) = 0 from rfl] at hl
    rw [hl]
    rfl



theorem codec_Equal_loop {self : Int → Int → Int → ByteArray → (List Nd) → Int → Int → Int → ByteArray → (List Nd) → Option (Bool)} {k : Nat} {l l' : List Nd} (hl : l.length ≤ 140737488351232) (hll : l.length = l'.length)
    (hs : ∀ x ∈ l, ∀ y, ∃ r, self x.tag x.kind x.n x.s x.kids y.tag y.kind y.n y.s y.kids = some r ∧ (r = true ↔ x = y)) (x0 x1 x2 : Int) (x3 : ByteArray) (x5 x6 x7 : Int) (x8 : ByteArray) :
    ∀ (d q i : Nat), l.length - i = d → i ≤ l.length → d < q →
      ∃ z, codec_Equal.l58 self k q x0 x1 x2 x3 l x5 x6 x7 x8 l' (l.length : Int) (i : Int) = some z ∧ ((z = .inl () ∧ l.drop i = l'.drop i) ∨ (z = .inr false ∧ l.drop i ≠ l'.drop i)) := by
  intro d
  induction d with
  | zero =>
    intro q i hd hi hq
    obtain ⟨q, rfl⟩ : ∃ q', q = q' + 1 := ⟨q - 1, by omega⟩
    have : i = l.length := by omega
    subst this
    refine ⟨.inl (), ?_, .inl ⟨rfl, by rw [List.drop_length, hll, List.drop_length]⟩⟩
    rw [codec_Equal.l58]
    rw [lt_ok, decide_eq_false (Nat.lt_irrefl _), cond_false]
  | succ d ih =>
    intro q i hd hi hq
    obtain ⟨q, rfl⟩ : ∃ q', q = q' + 1 := ⟨q - 1, by omega⟩
    have hlt : i < l.length := by omega
    have hlt' : i < l'.length := by omega
    have hr := rdL_ok (e := .node) (List.getElem?_eq_getElem hlt)
    have hr' := rdL_ok (e := .node) (List.getElem?_eq_getElem hlt')
    obtain ⟨r, hself, hrr⟩ := hs l[i] (List.getElem_mem hlt) l'[i]
    have hw : IntKind.wrap .i64 ((i : Int) + 1) = ((i + 1 : Nat) : Int) := by rw [wrap64 (by omega) (by omega)]; rfl
    simp only [codec_Equal.l58, lt_ok, hlt, hlt', decide_true, cond_true, inB_ok hlt, inB_ok hlt', hr, hr', hself, Option.bind_some, hw]
    rw [List.drop_eq_getElem_cons hlt, List.drop_eq_getElem_cons hlt']
    cases r with
    | false =>
      have hne : l[i] ≠ l'[i] := fun e => by have := hrr.2 e; cases this
      exact ⟨.inr false, rfl, .inr ⟨rfl, fun e => hne (List.cons.inj e).1⟩⟩
    | true =>
      have he := hrr.1 rfl
      obtain ⟨z, h1, h2⟩ := ih q (i + 1) (by omega) (by omega) (by omega)
      refine ⟨z, by simpa using h1, ?_⟩
      rcases h2 with ⟨e1, e2⟩ | ⟨e1, e2⟩
      · exact .inl ⟨e1, by rw [he, e2]⟩
      · exact .inr ⟨e1, fun e => e2 (List.cons.inj e).2⟩

theorem codec_Equal_spec : ∀ (k : Nat) (a b : Nd), a.sz < k → Fit a → ∃ r, codec_Equal.f k a.tag a.kind a.n a.s a.kids b.tag b.kind b.n b.s b.kids = some r ∧ (r = true ↔ a = b)
  | 0, a, b, h, _ => by omega
  | k + 1, a, b, h, hf => by
    have hsz := a.sz_eq
    have hle := Nd.sz_len a.kids
    have hlen := hf.len
    have hs : ∀ x ∈ a.kids, ∀ y, ∃ r, codec_Equal.f k x.tag x.kind x.n x.s x.kids y.tag y.kind y.n y.s y.kids = some r ∧ (r = true ↔ x = y) := fun x hx y =>
      codec_Equal_spec k x y (by have := Nd.sz_mem hx; omega) (hf.kid hx)
    have heq : a = b ↔ a.tag = b.tag ∧ a.kind = b.kind ∧ a.n = b.n ∧ a.s = b.s ∧ a.kids = b.kids := by
      cases a; cases b; simp
    rw [codec_Equal.f, codec_Equal.g]
    by_cases h0 : a.tag = b.tag
    case neg =>
      have e0 : (a.tag != b.tag) = true := by simpa using h0
      exact ⟨false, by simp only [e0, cond_true, Option.bind_some], by simp [heq, h0]⟩
    have e0 : (a.tag != b.tag) = false := by simpa using h0
    by_cases h1 : a.kind = b.kind
    case neg =>
      have e1 : (a.kind != b.kind) = true := by simpa using h1
      exact ⟨false, by simp only [e0, e1, cond_true, cond_false, Option.bind_some], by simp [heq, h1]⟩
    have e1 : (a.kind != b.kind) = false := by simpa using h1
    by_cases h2 : a.n = b.n
    case neg =>
      have e2 : (a.n != b.n) = true := by simpa using h2
      exact ⟨false, by simp only [e0, e1, e2, cond_true, cond_false, Option.bind_some], by simp [heq, h2]⟩
    have e2 : (a.n != b.n) = false := by simpa using h2
    by_cases h3 : a.s = b.s
    case neg =>
      have e3 : (a.s.toList == b.s.toList) = false := by
        cases hb : (a.s.toList == b.s.toList) with
        | false => rfl
        | true => exact absurd (bytes_inj.1 hb) h3
      exact ⟨false, by simp only [e0, e1, e2, e3, cond_true, cond_false, Option.bind_some, Bool.not_false], by simp [heq, h3]⟩
    have e3 : (a.s.toList == b.s.toList) = true := bytes_inj.2 h3
    by_cases h4 : a.kids.length = b.kids.length
    case neg =>
      have e4 : ((a.kids.length : Int) != (b.kids.length : Int)) = true := by simp; omega
      exact ⟨false, by simp only [e0, e1, e2, e3, e4, cond_true, cond_false, Option.bind_some, Bool.not_true], by simp only [Bool.false_eq_true, heq, false_iff]; rintro ⟨_, _, _, _, e⟩; exact h4 (by rw [e])⟩
    have e4 : ((a.kids.length : Int) != (b.kids.length : Int)) = false := by simp [h4]
    obtain ⟨z, g1, g2⟩ := codec_Equal_loop (self := codec_Equal.f k) (k := k) (by omega) h4 hs a.tag a.kind a.n a.s b.tag b.kind b.n b.s a.kids.length k 0 (by omega) (by omega) (by omega)
    rw [show ((0 : Nat) : Int) = 0 from rfl] at g1
    refine ⟨decide (z = .inl ()), ?_, ?_⟩
    · rcases g2 with ⟨rfl, _⟩ | ⟨rfl, _⟩ <;> simp only [e0, e1, e2, e3, e4, cond_false, Option.bind_some, Bool.not_true, g1] <;> rfl
    · simp only [List.drop_zero] at g2
      rcases g2 with ⟨rfl, e⟩ | ⟨rfl, e⟩
      · simp [heq, h0, h1, h2, h3, e]
      · simp [heq, e]

theorem ref10_Equal_loop {self : Int → Int → Int → ByteArray → (List Nd) → Int → Int → Int → ByteArray → (List Nd) → Option (Bool)} {k : Nat} {l l' : List Nd} (hl : l.length ≤ 140737488351232) (hll : l.length = l'.length)
    (hs : ∀ x ∈ l, ∀ y, ∃ r, self x.tag x.kind x.n x.s x.kids y.tag y.kind y.n y.s y.kids = some r ∧ (r = true ↔ x = y)) (x0 x1 x2 : Int) (x3 : ByteArray) (x5 x6 x7 : Int) (x8 : ByteArray) :
    ∀ (d q i : Nat), l.length - i = d → i ≤ l.length → d < q →
      ∃ z, ref10_Equal.l58 self k q x0 x1 x2 x3 l x5 x6 x7 x8 l' (i : Int) = some z ∧ ((z = .inl () ∧ l.drop i = l'.drop i) ∨ (z = .inr false ∧ l.drop i ≠ l'.drop i)) := by
  intro d
  induction d with
  | zero =>
    intro q i hd hi hq
    obtain ⟨q, rfl⟩ : ∃ q', q = q' + 1 := ⟨q - 1, by omega⟩
    have : i = l.length := by omega
    subst this
    refine ⟨.inl (), ?_, .inl ⟨rfl, by rw [List.drop_length, hll, List.drop_length]⟩⟩
    rw [ref10_Equal.l58]
    rw [lt_ok, decide_eq_false (Nat.lt_irrefl _), cond_false]
  | succ d ih =>
    intro q i hd hi hq
    obtain ⟨q, rfl⟩ : ∃ q', q = q' + 1 := ⟨q - 1, by omega⟩
    have hlt : i < l.length := by omega
    have hlt' : i < l'.length := by omega
    have hr := rdL_ok (e := .node) (List.getElem?_eq_getElem hlt)
    have hr' := rdL_ok (e := .node) (List.getElem?_eq_getElem hlt')
    obtain ⟨r, hself, hrr⟩ := hs l[i] (List.getElem_mem hlt) l'[i]
    have hw : IntKind.wrap .i64 ((i : Int) + 1) = ((i + 1 : Nat) : Int) := by rw [wrap64 (by omega) (by omega)]; rfl
    simp only [ref10_Equal.l58, lt_ok, hlt, hlt', decide_true, cond_true, inB_ok hlt, inB_ok hlt', hr, hr', hself, Option.bind_some, hw]
    rw [List.drop_eq_getElem_cons hlt, List.drop_eq_getElem_cons hlt']
    cases r with
    | false =>
      have hne : l[i] ≠ l'[i] := fun e => by have := hrr.2 e; cases this
      exact ⟨.inr false, rfl, .inr ⟨rfl, fun e => hne (List.cons.inj e).1⟩⟩
    | true =>
      have he := hrr.1 rfl
      obtain ⟨z, h1, h2⟩ := ih q (i + 1) (by omega) (by omega) (by omega)
      refine ⟨z, by simpa using h1, ?_⟩
      rcases h2 with ⟨e1, e2⟩ | ⟨e1, e2⟩
      · exact .inl ⟨e1, by rw [he, e2]⟩
      · exact .inr ⟨e1, fun e => e2 (List.cons.inj e).2⟩

theorem ref10_Equal_spec : ∀ (k : Nat) (a b : Nd), a.sz < k → Fit a → ∃ r, ref10_Equal.f k a.tag a.kind a.n a.s a.kids b.tag b.kind b.n b.s b.kids = some r ∧ (r = true ↔ a = b)
  | 0, a, b, h, _ => by omega
  | k + 1, a, b, h, hf => by
    have hsz := a.sz_eq
    have hle := Nd.sz_len a.kids
    have hlen := hf.len
    have hs : ∀ x ∈ a.kids, ∀ y, ∃ r, ref10_Equal.f k x.tag x.kind x.n x.s x.kids y.tag y.kind y.n y.s y.kids = some r ∧ (r = true ↔ x = y) := fun x hx y =>
      ref10_Equal_spec k x y (by have := Nd.sz_mem hx; omega) (hf.kid hx)
    have heq : a = b ↔ a.tag = b.tag ∧ a.kind = b.kind ∧ a.n = b.n ∧ a.s = b.s ∧ a.kids = b.kids := by
      cases a; cases b; simp
    rw [ref10_Equal.f, ref10_Equal.g]
    by_cases h0 : a.tag = b.tag
    case neg =>
      have e0 : (a.tag != b.tag) = true := by simpa using h0
      exact ⟨false, by simp only [e0, cond_true, Option.bind_some], by simp [heq, h0]⟩
    have e0 : (a.tag != b.tag) = false := by simpa using h0
    by_cases h1 : a.kind = b.kind
    case neg =>
      have e1 : (a.kind != b.kind) = true := by simpa using h1
      exact ⟨false, by simp only [e0, e1, cond_true, cond_false, Option.bind_some], by simp [heq, h1]⟩
    have e1 : (a.kind != b.kind) = false := by simpa using h1
    by_cases h2 : a.n = b.n
    case neg =>
      have e2 : (a.n != b.n) = true := by simpa using h2
      exact ⟨false, by simp only [e0, e1, e2, cond_true, cond_false, Option.bind_some], by simp [heq, h2]⟩
    have e2 : (a.n != b.n) = false := by simpa using h2
    by_cases h3 : a.s = b.s
    case neg =>
      have e3 : (a.s.toList == b.s.toList) = false := by
        cases hb : (a.s.toList == b.s.toList) with
        | false => rfl
        | true => exact absurd (bytes_inj.1 hb) h3
      exact ⟨false, by simp only [e0, e1, e2, e3, cond_true, cond_false, Option.bind_some, Bool.not_false], by simp [heq, h3]⟩
    have e3 : (a.s.toList == b.s.toList) = true := bytes_inj.2 h3
    by_cases h4 : a.kids.length = b.kids.length
    case neg =>
      have e4 : ((a.kids.length : Int) != (b.kids.length : Int)) = true := by simp; omega
      exact ⟨false, by simp only [e0, e1, e2, e3, e4, cond_true, cond_false, Option.bind_some, Bool.not_true], by simp only [Bool.false_eq_true, heq, false_iff]; rintro ⟨_, _, _, _, e⟩; exact h4 (by rw [e])⟩
    have e4 : ((a.kids.length : Int) != (b.kids.length : Int)) = false := by simp [h4]
    obtain ⟨z, g1, g2⟩ := ref10_Equal_loop (self := ref10_Equal.f k) (k := k) (by omega) h4 hs a.tag a.kind a.n a.s b.tag b.kind b.n b.s a.kids.length k 0 (by omega) (by omega) (by omega)
    rw [show ((0 : Nat) : Int) = 0 from rfl] at g1
    refine ⟨decide (z = .inl ()), ?_, ?_⟩
    · rcases g2 with ⟨rfl, _⟩ | ⟨rfl, _⟩ <;> simp only [e0, e1, e2, e3, e4, cond_false, Option.bind_some, Bool.not_true, g1] <;> rfl
    · simp only [List.drop_zero] at g2
      rcases g2 with ⟨rfl, e⟩ | ⟨rfl, e⟩
      · simp [heq, h0, h1, h2, h3, e]
      · simp [heq, e]


/-- The first kid that bears a tag. -/
def findKid (l : List Nd) (t : Int) : Nd := (l.find? fun x => x.tag == t).getD ⟨0, 0, 0, ⟨#[]⟩, []⟩

theorem find_loop {k : Nat} {l : List Nd} (hl : l.length ≤ 140737488351232) (hc : ∀ x ∈ l, x.sz < k ∧ Fit x) (t : Int) :
    ∀ (d q i : Nat), l.length - i = d → i ≤ l.length → d < q →
      codec_Find.l26 k q 0 0 0 ⟨#[]⟩ [] t l (l.length : Int) (i : Int) = some (match (l.drop i).find? fun x => x.tag == t with
        | some x => .inr (x.tag, x.kind, x.n, x.s, x.kids, true)
        | none => .inl (0, 0, 0, ⟨#[]⟩, [])) := by
  intro d
  induction d with
  | zero =>
    intro q i hd hi hq
    obtain ⟨q, rfl⟩ : ∃ q', q = q' + 1 := ⟨q - 1, by omega⟩
    have : i = l.length := by omega
    subst this
    rw [codec_Find.l26, List.drop_length]
    rw [lt_ok, decide_eq_false (Nat.lt_irrefl _), cond_false]
    rfl
  | succ d ih =>
    intro q i hd hi hq
    obtain ⟨q, rfl⟩ : ∃ q', q = q' + 1 := ⟨q - 1, by omega⟩
    have hlt : i < l.length := by omega
    have hr := rdL_ok (e := .node) (List.getElem?_eq_getElem hlt)
    have hw : IntKind.wrap .i64 ((i : Int) + 1) = ((i + 1 : Nat) : Int) := by rw [wrap64 (by omega) (by omega)]; rfl
    obtain ⟨h1, h2⟩ := hc l[i] (List.getElem_mem hlt)
    rw [List.drop_eq_getElem_cons hlt, List.find?_cons]
    simp only [codec_Find.l26, lt_ok, hlt, decide_true, cond_true, inB_ok hlt, hr, hw]
    cases ht : (l[i].tag == t) with
    | true => simp only [cond_true, clone_spec k l[i] h1 h2, Option.bind_some]
    | false => simp only [cond_false]; exact ih q (i + 1) (by omega) (by omega) (by omega)

theorem find_spec {k : Nat} (n : Nd) (hk : n.sz < k) (hf : Fit n) (t : Int) : ∃ b, codec_Find.f k n.tag n.kind n.n n.s n.kids t = some ((findKid n.kids t).tag, (findKid n.kids t).kind, (findKid n.kids t).n, (findKid n.kids t).s, (findKid n.kids t).kids, b) := by
  have hsz := n.sz_eq
  have hle := Nd.sz_len n.kids
  have hlen := hf.len
  have hl := find_loop (k := k) (l := n.kids) (by omega) (fun x hx => ⟨by have := Nd.sz_mem hx; omega, hf.kid hx⟩) t n.kids.length k 0 (by omega) (by omega) (by omega)
  rw [show ((0 : Nat) : Int) = 0 from rfl, List.drop_zero] at hl
  rw [codec_Find.f, hl]
  unfold findKid
  cases hx : n.kids.find? fun x => x.tag == t with
  | none => exact ⟨false, rfl⟩
  | some x => exact ⟨true, rfl⟩

theorem valid_same (k k' : Nat) (e : Ev) : ref52_check.f k e.kind e.at_ e.c e.sc e.d e.tx e.b e.t0 e.t1 e.t2 e.t3 = resume_valid.f k' e.kind e.at_ e.c e.sc e.d e.tx e.b e.t0 e.t1 e.t2 e.t3 := rfl

theorem guess_loop {k : Nat} {l : List Nd} (hl : l.length * 64 ≤ 140737488351232) (x0 x1 x2 x3 : Int) (x4 : ByteArray) (x5 : Bool) (x6 x7 x8 x9 : Int) (x10 : List Int) (x11 x12 x13 x14 : Int) (x15 : ByteArray) (x16 : Bool) (x17 x18 x19 x20 : Int) :
    ∀ (d q i : Nat) (acc : List Int), l.length - i = d → i ≤ l.length → d < q → acc.length = i →
      resume_guess.l15710 k q x0 x1 x2 x3 x4 x5 x6 x7 x8 x9 x10 x11 x12 x13 x14 x15 x16 x17 x18 x19 x20 acc l (l.length : Int) (i : Int) =
        some (x0, x1, x2, x3, x4, x5, x6, x7, x8, x9, x10, x11, x12, x13, x14, x15, x16, x17, x18, x19, x20, acc ++ (l.drop i).map fun x => x.n) := by
  intro d
  induction d with
  | zero =>
    intro q i acc hd hi hq ha
    obtain ⟨q, rfl⟩ : ∃ q', q = q' + 1 := ⟨q - 1, by omega⟩
    have : i = l.length := by omega
    subst this
    rw [resume_guess.l15710]
    rw [lt_ok, decide_eq_false (Nat.lt_irrefl _), cond_false, List.drop_length, List.map_nil, List.append_nil]
  | succ d ih =>
    intro q i acc hd hi hq ha
    obtain ⟨q, rfl⟩ : ∃ q', q = q' + 1 := ⟨q - 1, by omega⟩
    have hlt : i < l.length := by omega
    have hr := rdL_ok (e := .node) (List.getElem?_eq_getElem hlt)
    have hf : fits (acc.length + 1) 8 = true := by simp only [fits, decide_eq_true_eq]; omega
    have hw : IntKind.wrap .i64 ((i : Int) + 1) = ((i + 1 : Nat) : Int) := by rw [wrap64 (by omega) (by omega)]; rfl
    simp only [resume_guess.l15710, lt_ok, hlt, decide_true, cond_true, inB_ok hlt, hr, hf, hw]
    rw [ih q (i + 1) _ (by omega) (by omega) (by omega) (by simp [ha])]
    rw [List.drop_eq_getElem_cons hlt, List.map_cons, List.append_assoc]
    rfl

/-- The event that a tree's kids tell of, by their tags. -/
def gss (l : List Nd) : Ev :=
  if (findKid l 1).n = 2 then ⟨(findKid l 1).n, (findKid l 2).n, (findKid l 3).n, (findKid l 4).kids.map (fun x => x.n), (findKid l 5).n, (findKid l 6).s, (findKid l 7).n == 1, 0, 0, 0, 0⟩
  else if (findKid l 1).n = 5 then ⟨(findKid l 1).n, (findKid l 2).n, 0, [], 0, ⟨#[]⟩, false, (findKid l 8).n, (findKid l 2).n, (findKid l 9).n, (findKid l 10).n⟩
  else ⟨(findKid l 1).n, (findKid l 2).n, 0, [], 0, ⟨#[]⟩, false, 0, 0, 0, 0⟩

def Ev.tup (e : Ev) : Int × Int × Int × List Int × Int × ByteArray × Bool × Int × Int × Int × Int := (e.kind, e.at_, e.c, e.sc, e.d, e.tx, e.b, e.t0, e.t1, e.t2, e.t3)

theorem findKid_fit {l : List Nd} (h : ∀ x ∈ l, Fit x) (t : Int) : Fit (findKid l t) := by
  unfold findKid
  cases hx : l.find? fun x => x.tag == t with
  | none => exact .mk _ (by simp) (by simp)
  | some x => exact h x (List.mem_of_find?_eq_some hx)

theorem findKid_sz {l : List Nd} (t : Int) : (findKid l t).sz ≤ Nd.sz.szL l + 1 := by
  unfold findKid
  cases hx : l.find? fun x => x.tag == t with
  | none => simp [Nd.sz, Nd.sz.szL]
  | some x => have := Nd.sz_mem (List.mem_of_find?_eq_some hx); simp only [Option.getD_some]; omega

theorem guess1_spec {k : Nat} (n : Nd) (hk : n.sz < k) (hf : Fit n) (t : Int) : resume_guess_1.f k t n.tag n.kind n.n n.s n.kids = some (findKid n.kids t).n := by
  obtain ⟨b, h⟩ := find_spec n hk hf t
  rw [resume_guess_1.f, h]; rfl

theorem guess_spec {k : Nat} (n : Nd) (hk : n.sz < k) (hf : Fit n) : resume_guess.f k n.tag n.kind n.n n.s n.kids = some (gss n.kids).tup := by
  have hsz := n.sz_eq
  obtain ⟨b4, h4⟩ := find_spec n hk hf 4
  obtain ⟨b6, h6⟩ := find_spec n hk hf 6
  rw [resume_guess.f]
  simp only [guess1_spec n hk hf, Option.bind_some]
  unfold gss
  by_cases h2 : (findKid n.kids 1).n = 2
  · have e2 : ((findKid n.kids 1).n == 2) = true := by simp [h2]
    have hfk := (findKid_fit (fun x hx => hf.kid hx) 4 : Fit (findKid n.kids 4))
    have hle := Nd.sz_len (findKid n.kids 4).kids
    have hs4 := (findKid n.kids 4).sz_eq
    have hs4' := findKid_sz (l := n.kids) 4
    have hl := guess_loop (k := k) hfk.len 0 0 0 0 ⟨#[]⟩ false 0 0 0 0 [] (findKid n.kids 1).n (findKid n.kids 2).n (findKid n.kids 3).n (findKid n.kids 5).n (findKid n.kids 6).s ((findKid n.kids 7).n == 1) 0 0 0 0 (findKid n.kids 4).kids.length k 0 [] (by omega) (by omega) (by omega) rfl
    rw [show ((0 : Nat) : Int) = 0 from rfl] at hl
    simp only [e2, cond_true, h4, h6, Option.bind_some, hl, if_pos h2]
    rfl
  · have e2 : ((findKid n.kids 1).n == 2) = false := by simp [h2]
    by_cases h5 : (findKid n.kids 1).n = 5
    · have e5 : ((findKid n.kids 1).n == 5) = true := by simp [h5]
      simp only [e2, e5, cond_true, cond_false, if_neg h2, if_pos h5]
      rfl
    · have e5 : ((findKid n.kids 1).n == 5) = false := by simp [h5]
      simp only [e2, e5, cond_false, if_neg h2, if_neg h5]
      rfl
theorem list_spec' {k : Nat} {t : Int} {l : List Nd} (hk : 1 + Nd.sz.szL l < k) (hf : Fit ⟨t, 3, 0, ⟨#[]⟩, l⟩) : ref10_List.f k t l = some (t, 3, 0, ⟨#[]⟩, l) := by
  rw [ref10_List.f, copy_spec k ⟨t, 3, 0, ⟨#[]⟩, l⟩ (by simpa [Nd.sz] using hk) hf]
  rfl

theorem enc_loop' {k : Nat} {l : List Int} (hl : l.length ≤ 10) (x0 x1 x2 : Int) (x4 : Int) (x5 : ByteArray) (x6 : Bool) (x7 x8 x9 x10 x11 x12 x13 : Int) (x14 : ByteArray) (x15 x16 : List Nd) :
    ∀ (d q i : Nat) (acc : List Nd), l.length - i = d → i ≤ l.length → d < q → acc.length = i →
      ref52_Encode.l4010 k q x0 x1 x2 l x4 x5 x6 x7 x8 x9 x10 x11 x12 x13 x14 x15 x16 acc (i : Int) = some (x0, x1, x2, l, x4, x5, x6, x7, x8, x9, x10, x11, x12, x13, x14, x15, x16, acc ++ (l.drop i).map (num 0)) := by
  intro d
  induction d with
  | zero =>
    intro q i acc hd hi hq ha
    obtain ⟨q, rfl⟩ : ∃ q', q = q' + 1 := ⟨q - 1, by omega⟩
    have : i = l.length := by omega
    subst this
    rw [ref52_Encode.l4010]
    rw [lt_ok, decide_eq_false (Nat.lt_irrefl _), cond_false, List.drop_length, List.map_nil, List.append_nil]
  | succ d ih =>
    intro q i acc hd hi hq ha
    obtain ⟨q, rfl⟩ : ∃ q', q = q' + 1 := ⟨q - 1, by omega⟩
    have hlt : i < l.length := by omega
    have hr := rdL_ok (e := .int .i64) (List.getElem?_eq_getElem hlt)
    have hf : fits (acc.length + 1) 64 = true := by simp only [fits, decide_eq_true_eq]; omega
    have hw : IntKind.wrap .i64 ((i : Int) + 1) = ((i + 1 : Nat) : Int) := by rw [wrap64 (by omega) (by omega)]; rfl
    simp only [ref52_Encode.l4010, lt_ok, hlt, decide_true, cond_true, inB_ok hlt, hr, hf, hw, ref52_number.f, ref10_Int.f, Option.bind_some]
    rw [ih q (i + 1) _ (by omega) (by omega) (by omega) (by simp [ha])]
    rw [List.drop_eq_getElem_cons hlt, List.map_cons, List.append_assoc]
    rfl



theorem gss_enc {e : Ev} (h : e.Ok) : gss (encKids e) = e := by
  have hmap : (e.sc.map (num 0)).map (fun x => x.n) = e.sc := by rw [List.map_map]; exact List.map_id' e.sc
  unfold encKids
  by_cases h2 : e.kind = 2
  · obtain ⟨z0, z1, z2, z3⟩ := h.five (by omega)
    rw [if_pos h2]
    unfold gss findKid
    simp only [num, List.cons_append, List.nil_append, List.find?_cons, List.find?_nil, Option.getD_some, Option.getD_none, beq_self_eq_true, Int.reduceBEq, h2, if_true]
    rw [hmap]
    cases e with
    | mk kind at_ c sc d tx b t0 t1 t2 t3 =>
      simp only at *
      subst h2 z0 z1 z2 z3
      cases b <;> rfl
  · obtain ⟨w0, w1, w2, w3, w4⟩ := h.two h2
    rw [if_neg h2]
    by_cases h5 : e.kind = 5
    · have h51 := h.five' h5
      rw [if_pos h5]
      unfold gss findKid
      simp only [num, List.cons_append, List.nil_append, List.find?_cons, List.find?_nil, Option.getD_some, Option.getD_none, beq_self_eq_true, Int.reduceBEq, h5, if_true, if_neg (show ¬ ((5 : Int) = 2) by decide)]
      cases e with
      | mk kind at_ c sc d tx b t0 t1 t2 t3 =>
        simp only at *
        subst h5 w0 w1 w2 w3 w4 h51
        rfl
    · obtain ⟨z0, z1, z2, z3⟩ := h.five h5
      rw [if_neg h5]
      unfold gss findKid
      simp only [num, List.cons_append, List.nil_append, List.find?_cons, List.find?_nil, Option.getD_some, Option.getD_none, beq_self_eq_true, Int.reduceBEq, if_neg h2, if_neg h5]
      cases e with
      | mk kind at_ c sc d tx b t0 t1 t2 t3 =>
        simp only at *
        subst w0 w1 w2 w3 w4 z0 z1 z2 z3
        rfl

theorem encode_spec' {k : Nat} (hk : 60 ≤ k) (e : Ev) {v : Int} (hv : resume_valid.f k e.kind e.at_ e.c e.sc e.d e.tx e.b e.t0 e.t1 e.t2 e.t3 = some v) (hok : v = 0 → e.Ok) :
    ref52_Encode.f k e.kind e.at_ e.c e.sc e.d e.tx e.b e.t0 e.t1 e.t2 e.t3 = some (encR e v) := by
  rw [ref52_Encode.f, valid_same k k, hv]
  unfold encR
  by_cases h0 : v = 0
  · have e0 : (v != 0) = false := by simp [h0]
    have ok := hok h0
    have hsz := encN_sz ok
    have hft := encN_fit ok
    have hlist : ref10_List.f k 50 (encKids e) = some (50, 3, 0, ⟨#[]⟩, encKids e) := list_spec' (by simp only [encN, Nd.sz] at hsz; omega) hft
    simp only [e0, cond_false, Option.bind_some, if_pos h0, ref52_number.f, ref10_Int.f, ref10_String.f]
    unfold encKids at hlist ⊢
    by_cases h2 : e.kind = 2
    · have e2 : (e.kind == 2) = true := by simp [h2]
      have e5 : (e.kind == 5) = false := by simp [h2]
      have hsc := ok.sc10
      have hl := enc_loop' (k := k) hsc e.kind e.at_ e.c e.d e.tx e.b e.t0 e.t1 e.t2 e.t3 0 0 0 ⟨#[]⟩ [] [num 1 e.kind, num 2 e.at_] e.sc.length k 0 [] (by omega) (by omega) (by omega) rfl
      rw [show ((0 : Nat) : Int) = 0 from rfl] at hl
      have hl4 : ref10_List.f k 4 (e.sc.map (num 0)) = some (4, 3, 0, ⟨#[]⟩, e.sc.map (num 0)) := list_spec' (by rw [nums_sz]; omega) (nums_fit 0 hsc 4)
      have hj : ∀ (xs : List Nd), ref52_Encode.j4014 k e.kind e.at_ e.c e.sc e.d e.tx e.b e.t0 e.t1 e.t2 e.t3 0 0 0 ⟨#[]⟩ [] [num 1 e.kind, num 2 e.at_] xs 0 = some (e.kind, e.at_, e.c, e.sc, e.d, e.tx, e.b, e.t0, e.t1, e.t2, e.t3, 0, 0, 0, ⟨#[]⟩, [], [num 1 e.kind, num 2 e.at_], xs, if e.b then 1 else 0) := by
        intro xs
        unfold ref52_Encode.j4014
        cases e.b <;> rfl
      rw [if_pos h2] at hlist ⊢
      have hj62 : ref52_Encode.j62 k e.kind e.at_ e.c e.sc e.d e.tx e.b e.t0 e.t1 e.t2 e.t3 0 0 0 ⟨#[]⟩ [] [num 1 e.kind, num 2 e.at_] = some (e.kind, e.at_, e.c, e.sc, e.d, e.tx, e.b, e.t0, e.t1, e.t2, e.t3, 0, 0, 0, ⟨#[]⟩, [], [num 1 e.kind, num 2 e.at_] ++ [num 3 e.c, ⟨4, 3, 0, ⟨#[]⟩, e.sc.map (num 0)⟩, num 5 e.d, ⟨6, 2, 0, e.tx, []⟩, num 7 (if e.b then 1 else 0)]) := by
        unfold ref52_Encode.j62
        have hf : fits ([num 1 e.kind, num 2 e.at_].length + 5) 64 = true := rfl
        simp only [e2, cond_true, hl, Option.bind_some, List.drop_zero, List.nil_append, hj, hl4, ref52_number.f, ref10_Int.f, ref10_String.f, hf]
        rfl
      have hj62' : ref52_Encode.j62 k e.kind e.at_ e.c e.sc e.d e.tx e.b e.t0 e.t1 e.t2 e.t3 0 0 0 ⟨#[]⟩ [] [⟨1, 1, e.kind, ⟨#[]⟩, []⟩, ⟨2, 1, e.at_, ⟨#[]⟩, []⟩] = _ := hj62
      rw [hj62']
      simp only [Option.bind_some, e5, cond_false]
      rw [hlist]
      rfl
    · have e2 : (e.kind == 2) = false := by simp [h2]
      rw [if_neg h2] at hlist ⊢
      have hj62 : ref52_Encode.j62 k e.kind e.at_ e.c e.sc e.d e.tx e.b e.t0 e.t1 e.t2 e.t3 0 0 0 ⟨#[]⟩ [] [⟨1, 1, e.kind, ⟨#[]⟩, []⟩, ⟨2, 1, e.at_, ⟨#[]⟩, []⟩] = some (e.kind, e.at_, e.c, e.sc, e.d, e.tx, e.b, e.t0, e.t1, e.t2, e.t3, 0, 0, 0, ⟨#[]⟩, [], [num 1 e.kind, num 2 e.at_]) := by
        unfold ref52_Encode.j62
        simp only [e2, cond_false]
        rfl
      rw [hj62]
      by_cases h5 : e.kind = 5
      · have e5 : (e.kind == 5) = true := by simp [h5]
        have hf : fits ([num 1 e.kind, num 2 e.at_].length + 3) 64 = true := rfl
        rw [if_pos h5] at hlist ⊢
        simp only [e5, cond_true, Option.bind_some, hf]
        have hlist' : ref10_List.f k 50 ([num 1 e.kind, num 2 e.at_] ++ [⟨8, 1, e.t0, ⟨#[]⟩, []⟩, ⟨9, 1, e.t2, ⟨#[]⟩, []⟩, ⟨10, 1, e.t3, ⟨#[]⟩, []⟩]) = _ := hlist
        rw [hlist']
        rfl
      · have e5 : (e.kind == 5) = false := by simp [h5]
        rw [if_neg h5] at hlist ⊢
        simp only [e5, cond_false, Option.bind_some]
        rw [hlist]
        rfl
  · have e0 : (v != 0) = true := by simp [h0]
    simp only [e0, cond_true, Option.bind_some, if_neg h0]



def nth (l : List Nd) (i : Int) : Nd := rdL .node l i

theorem ref_loop {k : Nat} {l : List Nd} (h7 : l.length = 7) (hl : (nth l 3).kids.length * 64 ≤ 140737488351232) (x0 x1 x2 : Int) (x3 : ByteArray) (x4 : List Nd) (x5 x6 x7 x8 : Int) (x9 : ByteArray) (x10 : Bool) (x11 x12 x13 x14 : Int) (x15 : List Int) (x16 x17 x18 x19 : Int) (x20 : ByteArray) (x21 : Bool) (x22 x23 x24 x25 : Int) :
    ∀ (d q i : Nat) (acc : List Int), (nth l 3).kids.length - i = d → i ≤ (nth l 3).kids.length → d < q → acc.length = i →
      ref52_Decode.l2006 k q x0 x1 x2 x3 x4 x5 x6 x7 x8 x9 x10 x11 x12 x13 x14 x15 x16 x17 x18 x19 x20 x21 x22 x23 x24 x25 acc l (i : Int) =
        some (x0, x1, x2, x3, x4, x5, x6, x7, x8, x9, x10, x11, x12, x13, x14, x15, x16, x17, x18, x19, x20, x21, x22, x23, x24, x25, acc ++ ((nth l 3).kids.drop i).map (fun x => x.n), l) := by
  have h3 : inB 3 l.length = true := by rw [h7]; rfl
  intro d
  induction d with
  | zero =>
    intro q i acc hd hi hq ha
    obtain ⟨q, rfl⟩ : ∃ q', q = q' + 1 := ⟨q - 1, by omega⟩
    have : i = (nth l 3).kids.length := by omega
    subst this
    rw [ref52_Decode.l2006, h3]
    show cond true (cond (decide (((nth l 3).kids.length : Int) < ((nth l 3).kids.length : Int))) _ _) _ = _
    rw [lt_ok, decide_eq_false (Nat.lt_irrefl _), cond_false, cond_true, List.drop_length, List.map_nil, List.append_nil]
  | succ d ih =>
    intro q i acc hd hi hq ha
    obtain ⟨q, rfl⟩ : ∃ q', q = q' + 1 := ⟨q - 1, by omega⟩
    have hlt : i < (nth l 3).kids.length := by omega
    have hr := rdL_ok (e := .node) (List.getElem?_eq_getElem hlt)
    have hf : fits (acc.length + 1) 8 = true := by simp only [fits, decide_eq_true_eq]; omega
    have hw : IntKind.wrap .i64 ((i : Int) + 1) = ((i + 1 : Nat) : Int) := by rw [wrap64 (by omega) (by omega)]; rfl
    rw [ref52_Decode.l2006]
    simp only [h3, cond_true, show rdL .node l 3 = nth l 3 from rfl, lt_ok, hlt, decide_true, inB_ok hlt, hr, hf, hw, ref52_integer.f, Option.bind_some]
    rw [ih q (i + 1) _ (by omega) (by omega) (by omega) (by simp [ha])]
    rw [List.drop_eq_getElem_cons hlt, List.map_cons, List.append_assoc]
    rfl

/-- The event that a tree's kids tell of, by their places. -/
def pos (l : List Nd) : Ev :=
  if (nth l 0).n = 2 ∧ l.length = 7 then ⟨(nth l 0).n, (nth l 1).n, (nth l 2).n, (nth l 3).kids.map (fun x => x.n), (nth l 4).n, (nth l 5).s, (nth l 6).n == 1, 0, 0, 0, 0⟩
  else if (nth l 0).n = 5 ∧ l.length = 5 then ⟨(nth l 0).n, (nth l 1).n, 0, [], 0, ⟨#[]⟩, false, (nth l 2).n, (nth l 1).n, (nth l 3).n, (nth l 4).n⟩
  else ⟨(nth l 0).n, (nth l 1).n, 0, [], 0, ⟨#[]⟩, false, 0, 0, 0, 0⟩

theorem pos_enc {e : Ev} (h : e.Ok) : pos (encKids e) = e := by
  have hmap : (e.sc.map (num 0)).map (fun x => x.n) = e.sc := by rw [List.map_map]; exact List.map_id' e.sc
  unfold encKids
  by_cases h2 : e.kind = 2
  · obtain ⟨z0, z1, z2, z3⟩ := h.five (by omega)
    rw [if_pos h2]
    unfold pos
    rw [if_pos ⟨h2, rfl⟩]
    show (⟨e.kind, e.at_, e.c, (e.sc.map (num 0)).map (fun x => x.n), e.d, e.tx, (if e.b then 1 else 0 : Int) == 1, 0, 0, 0, 0⟩ : Ev) = e
    rw [hmap]
    cases e with
    | mk kind at_ c sc d tx b t0 t1 t2 t3 =>
      simp only at *
      subst h2 z0 z1 z2 z3
      cases b <;> rfl
  · obtain ⟨w0, w1, w2, w3, w4⟩ := h.two h2
    rw [if_neg h2]
    by_cases h5 : e.kind = 5
    · have h51 := h.five' h5
      rw [if_pos h5]
      unfold pos
      rw [if_neg (fun hh => h2 hh.1), if_pos ⟨h5, rfl⟩]
      cases e with
      | mk kind at_ c sc d tx b t0 t1 t2 t3 =>
        simp only at *
        subst h5 w0 w1 w2 w3 w4 h51
        rfl
    · obtain ⟨z0, z1, z2, z3⟩ := h.five h5
      rw [if_neg h5]
      unfold pos
      rw [if_neg (fun hh => h2 hh.1), if_neg (fun hh => h5 hh.1)]
      cases e with
      | mk kind at_ c sc d tx b t0 t1 t2 t3 =>
        simp only at *
        subst w0 w1 w2 w3 w4 z0 z1 z2 z3
        rfl


/-- An event and an error, as the decoders answer. -/
def decR (e : Ev) (ok : Bool) : Int × Int × Int × List Int × Int × ByteArray × Bool × Int × Int × Int × Int × Int :=
  if ok then (e.kind, e.at_, e.c, e.sc, e.d, e.tx, e.b, e.t0, e.t1, e.t2, e.t3, 0) else (0, 0, 0, [], 0, ⟨#[]⟩, false, 0, 0, 0, 0, 2)

/-- What both decoders do with their guess. -/
theorem decode_spec {k : Nat} (n : Nd) (hk : n.sz + 60 < k) (hf : Fit n) : ∃ ok, resume_Decode.f k n.tag n.kind n.n n.s n.kids = some (decR (gss n.kids) ok) ∧ (ok = true ↔ (gss n.kids).Ok ∧ (∃ v, v = (0 : Int) ∧ resume_valid.f k (gss n.kids).kind (gss n.kids).at_ (gss n.kids).c (gss n.kids).sc (gss n.kids).d (gss n.kids).tx (gss n.kids).b (gss n.kids).t0 (gss n.kids).t1 (gss n.kids).t2 (gss n.kids).t3 = some v) ∧ n = encN (gss n.kids)) := by
  obtain ⟨v, hv, hok⟩ := valid_spec k (gss n.kids)
  rw [resume_Decode.f, guess_spec n (by omega) hf]
  simp only [Option.bind_some, Ev.tup]
  rw [encode_spec (by omega) _ hv hok]
  simp only [Option.bind_some]
  by_cases h0 : v = 0
  · have e0 : (v != 0) = false := by simp [h0]
    have ok := hok h0
    obtain ⟨r, hr, hrr⟩ := codec_Equal_spec k n (encN (gss n.kids)) (by omega) hf
    simp only [encR, if_pos h0]
    have hr' : codec_Equal.f k n.tag n.kind n.n n.s n.kids 50 3 0 ⟨#[]⟩ (encKids (gss n.kids)) = some r := hr
    refine ⟨r, ?_, ?_⟩
    · simp only [bne_self_eq_false, cond_false, hr', Option.bind_some]
      cases r <;> rfl
    · rw [hrr]
      exact ⟨fun h => ⟨ok, ⟨v, h0, hv⟩, h⟩, fun h => h.2.2⟩
  · have e0 : (v != 0) = true := by simp [h0]
    refine ⟨false, ?_, ?_⟩
    · simp only [encR, if_neg h0, e0, cond_true, Option.bind_some]
      rfl
    · simp only [Bool.false_eq_true, false_iff]
      rintro ⟨_, ⟨v', h1, h2⟩, _⟩
      rw [hv] at h2
      cases h2
      exact h0 h1

theorem nth_fit {l : List Nd} (h : ∀ x ∈ l, Fit x) {i : Nat} (hi : i < l.length) : Fit (nth l (i : Int)) ∧ (nth l (i : Int)).sz ≤ Nd.sz.szL l := by
  have hx := rdL_ok (e := .node) (List.getElem?_eq_getElem hi)
  unfold nth
  rw [hx]
  exact ⟨h _ (List.getElem_mem hi), Nd.sz_mem (List.getElem_mem hi)⟩

theorem ref_decode_spec {k : Nat} (n : Nd) (hk : n.sz + 60 < k) (hf : Fit n) (h2l : 2 ≤ n.kids.length) : ∃ ok, ref52_Decode.f k n.tag n.kind n.n n.s n.kids = some (decR (pos n.kids) ok) ∧ (ok = true ↔ (pos n.kids).Ok ∧ (∃ v, v = (0 : Int) ∧ resume_valid.f k (pos n.kids).kind (pos n.kids).at_ (pos n.kids).c (pos n.kids).sc (pos n.kids).d (pos n.kids).tx (pos n.kids).b (pos n.kids).t0 (pos n.kids).t1 (pos n.kids).t2 (pos n.kids).t3 = some v) ∧ n = encN (pos n.kids)) := by
  obtain ⟨v, hv, hok⟩ := valid_spec k (pos n.kids)
  have hsz := n.sz_eq
  have d0 : decide ((n.kids.length : Int) < 2) = false := by simp; omega
  have i0 : inB 0 n.kids.length = true := by simp [inB]; omega
  have i1 : inB 1 n.kids.length = true := by simp [inB]; omega
  -- both halves of the reading
  have hj : ∃ z, ((ref52_Decode.j62 k n.tag n.kind n.n n.s n.kids 0 0 0 0 ⟨#[]⟩ false 0 0 0 0 [] (nth n.kids 0).n (nth n.kids 1).n 0 0 ⟨#[]⟩ false 0 0 0 0 [] n.kids) = some z) ∧
      z = (n.tag, n.kind, n.n, n.s, n.kids, 0, 0, 0, 0, ⟨#[]⟩, false, 0, 0, 0, 0, [], (nth n.kids 0).n, (nth n.kids 1).n,
        (if (nth n.kids 0).n = 2 ∧ n.kids.length = 7 then ((nth n.kids 2).n, (nth n.kids 4).n, (nth n.kids 5).s, (nth n.kids 6).n == 1, 0, 0, 0, 0, (nth n.kids 3).kids.map (fun x => x.n), n.kids) else (0, 0, ⟨#[]⟩, false, 0, 0, 0, 0, [], n.kids))) := by
    refine ⟨_, ?_, rfl⟩
    unfold ref52_Decode.j62
    by_cases h2 : (nth n.kids 0).n = 2
    · have e2 : ((nth n.kids 0).n == 2) = true := by simp [h2]
      by_cases h7 : n.kids.length = 7
      · have e7 : ((n.kids.length : Int) == 7) = true := by simp [h7]
        have q2 : inB 2 n.kids.length = true := by rw [h7]; rfl
        have q4 : inB 4 n.kids.length = true := by rw [h7]; rfl
        have q5 : inB 5 n.kids.length = true := by rw [h7]; rfl
        have q6 : inB 6 n.kids.length = true := by rw [h7]; rfl
        obtain ⟨f3, s3⟩ := nth_fit (l := n.kids) (fun x hx => hf.kid hx) (i := 3) (by omega)
        have hs3 := (nth n.kids ((3 : Nat) : Int)).sz_eq
        have hle := Nd.sz_len (nth n.kids ((3 : Nat) : Int)).kids
        have hl := ref_loop (k := k) (l := n.kids) h7 f3.len n.tag n.kind n.n n.s n.kids 0 0 0 0 ⟨#[]⟩ false 0 0 0 0 [] (nth n.kids 0).n (nth n.kids 1).n (nth n.kids 2).n (nth n.kids 4).n (nth n.kids 5).s ((nth n.kids 6).n == 1) 0 0 0 0 (nth n.kids 3).kids.length k 0 [] (by omega) (by omega) (by have : (nth n.kids 3).kids.length = (nth n.kids ((3 : Nat) : Int)).kids.length := rfl; omega) rfl
        rw [show ((0 : Nat) : Int) = 0 from rfl] at hl
        have hl' : ref52_Decode.l2006 k k n.tag n.kind n.n n.s n.kids 0 0 0 0 ⟨#[]⟩ false 0 0 0 0 [] (nth n.kids 0).n (nth n.kids 1).n (rdL .node n.kids 2).n (rdL .node n.kids 4).n (rdL .node n.kids 5).s ((rdL .node n.kids 6).n == 1) 0 0 0 0 [] n.kids 0 = _ := hl
        simp only [e2, e7, cond_true, Option.bind_some, q2, q4, q5, q6, ref52_integer.f, hl', if_pos (And.intro h2 h7)]
        rfl
      · have e7 : ((n.kids.length : Int) == 7) = false := by simp; omega
        simp only [e2, e7, cond_true, cond_false, Option.bind_some, if_neg (fun hh : (nth n.kids 0).n = 2 ∧ n.kids.length = 7 => h7 hh.2)]
    · have e2 : ((nth n.kids 0).n == 2) = false := by simp [h2]
      simp only [e2, cond_false, Option.bind_some, if_neg (fun hh : (nth n.kids 0).n = 2 ∧ n.kids.length = 7 => h2 hh.1)]
  obtain ⟨z, hz, hze⟩ := hj
  have hz' : ref52_Decode.j62 k n.tag n.kind n.n n.s n.kids 0 0 0 0 ⟨#[]⟩ false 0 0 0 0 [] (rdL .node n.kids 0).n (rdL .node n.kids 1).n 0 0 ⟨#[]⟩ false 0 0 0 0 [] n.kids = _ := hz
  -- the event is read
  have hread : ∀ (F : _ → Option (Int × Int × Int × List Int × Int × ByteArray × Bool × Int × Int × Int × Int × Int)),
      ((ref52_Decode.j126 k z.1 z.2.1 z.2.2.1 z.2.2.2.1 z.2.2.2.2.1 z.2.2.2.2.2.1 z.2.2.2.2.2.2.1 z.2.2.2.2.2.2.2.1 z.2.2.2.2.2.2.2.2.1 z.2.2.2.2.2.2.2.2.2.1 z.2.2.2.2.2.2.2.2.2.2.1 z.2.2.2.2.2.2.2.2.2.2.2.1 z.2.2.2.2.2.2.2.2.2.2.2.2.1 z.2.2.2.2.2.2.2.2.2.2.2.2.2.1 z.2.2.2.2.2.2.2.2.2.2.2.2.2.2.1 z.2.2.2.2.2.2.2.2.2.2.2.2.2.2.2.1 z.2.2.2.2.2.2.2.2.2.2.2.2.2.2.2.2.1 z.2.2.2.2.2.2.2.2.2.2.2.2.2.2.2.2.2.1 z.2.2.2.2.2.2.2.2.2.2.2.2.2.2.2.2.2.2.1 z.2.2.2.2.2.2.2.2.2.2.2.2.2.2.2.2.2.2.2.1 z.2.2.2.2.2.2.2.2.2.2.2.2.2.2.2.2.2.2.2.2.1 z.2.2.2.2.2.2.2.2.2.2.2.2.2.2.2.2.2.2.2.2.2.1 z.2.2.2.2.2.2.2.2.2.2.2.2.2.2.2.2.2.2.2.2.2.2.1 z.2.2.2.2.2.2.2.2.2.2.2.2.2.2.2.2.2.2.2.2.2.2.2.1 z.2.2.2.2.2.2.2.2.2.2.2.2.2.2.2.2.2.2.2.2.2.2.2.2.1 z.2.2.2.2.2.2.2.2.2.2.2.2.2.2.2.2.2.2.2.2.2.2.2.2.2.1 z.2.2.2.2.2.2.2.2.2.2.2.2.2.2.2.2.2.2.2.2.2.2.2.2.2.2.1 z.2.2.2.2.2.2.2.2.2.2.2.2.2.2.2.2.2.2.2.2.2.2.2.2.2.2.2).bind F) =
      F (n.tag, n.kind, n.n, n.s, n.kids, 0, 0, 0, 0, ⟨#[]⟩, false, 0, 0, 0, 0, [], (pos n.kids).kind, (pos n.kids).at_, (pos n.kids).c, (pos n.kids).d, (pos n.kids).tx, (pos n.kids).b, (pos n.kids).t0, (pos n.kids).t1, (pos n.kids).t2, (pos n.kids).t3, (pos n.kids).sc) := by
    intro F
    subst hze
    unfold ref52_Decode.j126 pos
    by_cases hA : (nth n.kids 0).n = 2 ∧ n.kids.length = 7
    · have e5 : ((nth n.kids 0).n == 5) = false := by simp [hA.1]
      simp only [if_pos hA, e5, cond_false, Option.bind_some]
    · by_cases hB : (nth n.kids 0).n = 5 ∧ n.kids.length = 5
      · have e5 : ((nth n.kids 0).n == 5) = true := by simp [hB.1]
        have e7 : ((n.kids.length : Int) == 5) = true := by simp [hB.2]
        have q2 : inB 2 n.kids.length = true := by rw [hB.2]; rfl
        have q3 : inB 3 n.kids.length = true := by rw [hB.2]; rfl
        have q4 : inB 4 n.kids.length = true := by rw [hB.2]; rfl
        simp only [if_neg hA, if_pos hB, e5, e7, q2, q3, q4, cond_true, cond_false, Option.bind_some, ref52_integer.f]
        rfl
      · by_cases h5 : (nth n.kids 0).n = 5
        · have e5 : ((nth n.kids 0).n == 5) = true := by simp [h5]
          have e7 : ((n.kids.length : Int) == 5) = false := by
            have : n.kids.length ≠ 5 := fun hh => hB ⟨h5, hh⟩
            simp; omega
          simp only [if_neg hA, if_neg hB, e5, e7, cond_true, cond_false, Option.bind_some]
        · have e5 : ((nth n.kids 0).n == 5) = false := by simp [h5]
          simp only [if_neg hA, if_neg hB, e5, cond_false, Option.bind_some]
  rw [ref52_Decode.f]
  simp only [d0, cond_false, i0, i1, cond_true, ref52_integer.f, Option.bind_some, hz', hread]
  rw [encode_spec' (by omega) _ hv hok]
  simp only [Option.bind_some]
  by_cases h0 : v = 0
  · have ok := hok h0
    have hfe := encN_fit ok
    have hze := encN_sz ok
    obtain ⟨r, hr, hrr⟩ := ref10_Equal_spec k (encN (pos n.kids)) n (by omega) hfe
    simp only [encR, if_pos h0]
    have hr' : ref10_Equal.f k 50 3 0 ⟨#[]⟩ (encKids (pos n.kids)) n.tag n.kind n.n n.s n.kids = some r := hr
    refine ⟨r, ?_, ?_⟩
    · simp only [bne_self_eq_false, cond_false, hr', Option.bind_some]
      cases r <;> rfl
    · rw [hrr]
      exact ⟨fun h => ⟨ok, ⟨v, h0, hv⟩, h.symm⟩, fun h => h.2.2.symm⟩
  · have e0 : (v != 0) = true := by simp [h0]
    refine ⟨false, ?_, ?_⟩
    · simp only [encR, if_neg h0, e0, cond_true, Option.bind_some]
      rfl
    · simp only [Bool.false_eq_true, false_iff]
      rintro ⟨_, ⟨v', h1, h2⟩, _⟩
      rw [hv] at h2
      cases h2
      exact h0 h1


theorem same_loop {k : Nat} {l : List Int} (hl : l.length ≤ 140737488351232) (x0 x1 x2 x4 : Int) (x5 : ByteArray) (x6 : Bool) (x7 x8 x9 x10 x11 x12 x13 x15 : Int) (x16 : ByteArray) (x17 : Bool) (x18 x19 x20 x21 : Int) :
    ∀ (d q i : Nat), l.length - i = d → i ≤ l.length → d < q → law52_same.l58 k q x0 x1 x2 l x4 x5 x6 x7 x8 x9 x10 x11 x12 x13 l x15 x16 x17 x18 x19 x20 x21 (i : Int) = some (.inl (x0, x1, x2, l, x4, x5, x6, x7, x8, x9, x10, x11, x12, x13, l, x15, x16, x17, x18, x19, x20, x21)) := by
  intro d
  induction d with
  | zero =>
    intro q i hd hi hq
    obtain ⟨q, rfl⟩ : ∃ q', q = q' + 1 := ⟨q - 1, by omega⟩
    have : i = l.length := by omega
    subst this
    rw [law52_same.l58]
    rw [lt_ok, decide_eq_false (Nat.lt_irrefl _), cond_false]
  | succ d ih =>
    intro q i hd hi hq
    obtain ⟨q, rfl⟩ : ∃ q', q = q' + 1 := ⟨q - 1, by omega⟩
    have hlt : i < l.length := by omega
    have hw : IntKind.wrap .i64 ((i : Int) + 1) = ((i + 1 : Nat) : Int) := by rw [wrap64 (by omega) (by omega)]; rfl
    rw [law52_same.l58]
    simp only [lt_ok, hlt, decide_true, cond_true, inB_ok hlt, hw, bne_self_eq_false, cond_false]
    exact ih q (i + 1) (by omega) (by omega) (by omega)

theorem same_refl {k : Nat} (e : Ev) (h : e.sc.length < k) (hl : e.sc.length ≤ 140737488351232) : law52_same.f k e.kind e.at_ e.c e.sc e.d e.tx e.b e.t0 e.t1 e.t2 e.t3 e.kind e.at_ e.c e.sc e.d e.tx e.b e.t0 e.t1 e.t2 e.t3 = some true := by
  have hs := same_loop (k := k) hl e.kind e.at_ e.c e.d e.tx e.b e.t0 e.t1 e.t2 e.t3 e.kind e.at_ e.c e.d e.tx e.b e.t0 e.t1 e.t2 e.t3 e.sc.length k 0 (by omega) (by omega) h
  rw [show ((0 : Nat) : Int) = 0 from rfl] at hs
  rw [law52_same.f]
  simp only [bne_self_eq_false, beq_self_eq_true, Bool.and_self, Bool.not_true, cond_false, cond_true, Option.bind_some, hs, bytes_inj.2 rfl]


theorem encKids_len (e : Ev) : 2 ≤ (encKids e).length := by
  unfold encKids; split
  · simp
  · split <;> simp

theorem encN_kids {n : Nd} {e : Ev} (h : n = encN e) : n.kids = encKids e := by rw [h]; rfl

/-- The two answers, held side by side. -/
theorem join_same {k : Nat} (hk : 100 < k) (e : Ev) (ok : Bool) (h : ok = true → e.Ok) (y2 y3 : Int × Int × Int × List Int × Int × ByteArray × Bool × Int × Int × Int × Int × Int) (h2 : y2 = decR e ok) (h3 : y3 = decR e ok) :
    (Option.bind (cond (y2.2.2.2.2.2.2.2.2.2.2.2 == y3.2.2.2.2.2.2.2.2.2.2.2)
      ((law52_same.f k y2.1 y2.2.1 y2.2.2.1 y2.2.2.2.1 y2.2.2.2.2.1 y2.2.2.2.2.2.1 y2.2.2.2.2.2.2.1 y2.2.2.2.2.2.2.2.1 y2.2.2.2.2.2.2.2.2.1 y2.2.2.2.2.2.2.2.2.2.1 y2.2.2.2.2.2.2.2.2.2.2.1 y3.1 y3.2.1 y3.2.2.1 y3.2.2.2.1 y3.2.2.2.2.1 y3.2.2.2.2.2.1 y3.2.2.2.2.2.2.1 y3.2.2.2.2.2.2.2.1 y3.2.2.2.2.2.2.2.2.1 y3.2.2.2.2.2.2.2.2.2.1 y3.2.2.2.2.2.2.2.2.2.2.1).bind fun y4 =>
        some y4)
      (some false)) fun (c5 : Bool) =>
    some c5) = some true := by
  subst h2 h3
  cases ok with
  | true =>
    have := (h rfl).sc10
    simp only [decR, if_true, beq_self_eq_true, cond_true, same_refl (k := k) e (by omega) (by omega), Option.bind_some]
  | false =>
    have := same_refl (k := k) ⟨0, 0, 0, [], 0, ⟨#[]⟩, false, 0, 0, 0, 0⟩ (by simp; omega) (by simp)
    simp only at this
    simp only [decR, Bool.false_eq_true, if_false, beq_self_eq_true, cond_true, this, Option.bind_some]

end Gv
