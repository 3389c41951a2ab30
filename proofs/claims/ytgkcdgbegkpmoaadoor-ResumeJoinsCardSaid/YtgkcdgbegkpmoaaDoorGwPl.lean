/- Plain laws of the encoder: the tree of an event, its size. -/
import Derived.Test.YtgkcdgbegkpmoaaDoorGwT6
import Derived.Test.YtgkcdgbegkpmoaaDoorGwLw
namespace Gv
open Go
set_option linter.unusedVariables false
set_option linter.unusedSimpArgs false


theorem wrap64 {n : Int} (h0 : -9223372036854775808 ≤ n) (h1 : n ≤ 9223372036854775807) : IntKind.wrap .i64 n = n := by
  have e : IntKind.wrap .i64 n = if n % 18446744073709551616 ≥ 9223372036854775808 then n % 18446744073709551616 - 18446744073709551616 else n % 18446744073709551616 := by
    show (if (true && decide (n % 18446744073709551616 ≥ 9223372036854775808)) = true then n % 18446744073709551616 - 18446744073709551616 else n % 18446744073709551616) = _
    simp only [Bool.true_and, decide_eq_true_eq]
  rw [e]
  split <;> omega

theorem inB_ok {i : Nat} {n : Nat} (h : i < n) : inB (i : Int) n = true := by simp [inB]; omega
theorem rdL_ok {e : Sh} {l : List e.T} {i : Nat} {x : e.T} (h : l[i]? = some x) : rdL e l (i : Int) = x := by
  simp [rdL, List.getD_eq_getElem?_getD, h]
theorem lt_ok {i n : Nat} : decide ((i : Int) < (n : Int)) = decide (i < n) := by simp
theorem Nd.eta (x : Nd) : (⟨x.tag, x.kind, x.n, x.s, x.kids⟩ : Nd) = x := by cases x; rfl
def Nd.sz : Nd → Nat
  | ⟨_, _, _, _, l⟩ => 1 + szL l
where szL : List Nd → Nat
  | [] => 0
  | n :: l => n.sz + szL l
theorem Nd.sz_mem : ∀ {l : List Nd} {n : Nd}, n ∈ l → n.sz ≤ Nd.sz.szL l
  | m :: l, n, h => by
    simp only [Nd.sz.szL]
    rcases List.mem_cons.1 h with rfl | h
    · omega
    · have := Nd.sz_mem h; omega
theorem Nd.sz_len : ∀ (l : List Nd), l.length ≤ Nd.sz.szL l
  | [] => by simp
  | n :: l => by
    simp only [Nd.sz.szL, List.length_cons]
    have := Nd.sz_len l
    have : 1 ≤ n.sz := by cases n; simp only [Nd.sz]; omega
    omega
theorem Nd.sz_eq (n : Nd) : n.sz = 1 + Nd.sz.szL n.kids := by cases n; rfl

/-- A node's lists are no longer than memory allows. -/
theorem reach_lt : reachBytes = 140737488351232 := by rfl

theorem NWf.kids_fit {n : Nd} (h : NWf n) : n.kids.length * 64 ≤ 140737488351232 := by
  obtain ⟨_, _, _, _, _, h4, _⟩ := h; exact h4
theorem NWf.kid {n : Nd} (h : NWf n) {x : Nd} (hx : x ∈ n.kids) : NWf x := by
  obtain ⟨_, _, _, _, _, _, h5⟩ := h; exact h5 x hx

/-- Lists no longer than memory allows, all the way down: what a copy needs. -/
inductive Fit : Nd → Prop
  | mk (n : Nd) (h : n.kids.length * 64 ≤ 140737488351232) (hk : ∀ x ∈ n.kids, Fit x) : Fit n
theorem NWf.fit {n : Nd} (h : NWf n) : Fit n := by
  induction h with
  | mk n _ _ _ _ h4 _ ih => exact .mk n h4 ih
theorem Fit.len {n : Nd} (h : Fit n) : n.kids.length * 64 ≤ 140737488351232 := by cases h; assumption
theorem Fit.kid {n : Nd} (h : Fit n) {x : Nd} (hx : x ∈ n.kids) : Fit x := by cases h; rename_i hk; exact hk x hx

theorem clone_loop {self : Int → Int → Int → ByteArray → (List Nd) → Option (Int × Int × Int × ByteArray × List Nd)} {k : Nat} {l : List Nd} (hl : l.length * 64 ≤ 140737488351232)
    (hs : ∀ x ∈ l, self x.tag x.kind x.n x.s x.kids = some (x.tag, x.kind, x.n, x.s, x.kids)) (x0 x1 x2 : Int) (x3 : ByteArray) (x4 : List Nd) (x5 x6 x7 : Int) (x8 : ByteArray) :
    ∀ (d q i : Nat) (acc : List Nd), l.length - i = d → i ≤ l.length → d < q → acc.length = i →
      codec_clone.l122 self k q x0 x1 x2 x3 x4 x5 x6 x7 x8 acc l (l.length : Int) (i : Int) = some (x0, x1, x2, x3, x4, x5, x6, x7, x8, acc ++ l.drop i) := by
  intro d
  induction d with
  | zero =>
    intro q i acc hd hi hq ha
    obtain ⟨q, rfl⟩ : ∃ q', q = q' + 1 := ⟨q - 1, by omega⟩
    have : i = l.length := by omega
    subst this
    rw [codec_clone.l122]
    rw [lt_ok, decide_eq_false (Nat.lt_irrefl _), cond_false, List.drop_length, List.append_nil]
  | succ d ih =>
    intro q i acc hd hi hq ha
    obtain ⟨q, rfl⟩ : ∃ q', q = q' + 1 := ⟨q - 1, by omega⟩
    have hlt : i < l.length := by omega
    have hx : l[i]? = some l[i] := List.getElem?_eq_getElem hlt
    have hr := rdL_ok (e := .node) hx
    have hself := hs l[i] (List.getElem_mem hlt)
    have hf : fits (acc.length + 1) 64 = true := by simp only [fits, decide_eq_true_eq]; omega
    have hw : IntKind.wrap .i64 ((i : Int) + 1) = ((i + 1 : Nat) : Int) := by rw [wrap64 (by omega) (by omega)]; rfl
    simp only [codec_clone.l122, lt_ok, hlt, decide_true, cond_true, inB_ok hlt, hr, hself, Option.bind_some, hf, hw]
    rw [ih q (i + 1) _ (by omega) (by omega) (by omega) (by simp [ha])]
    rw [List.drop_eq_getElem_cons hlt, List.append_assoc, Nd.eta]
    rfl

/-- A copy is what is copied. -/
theorem clone_spec : ∀ (k : Nat) (n : Nd), n.sz < k → Fit n → codec_clone.f k n.tag n.kind n.n n.s n.kids = some (n.tag, n.kind, n.n, n.s, n.kids)
  | 0, n, h, _ => by omega
  | k + 1, n, h, hf => by
    have hsz := n.sz_eq
    have hle := Nd.sz_len n.kids
    have hs : ∀ x ∈ n.kids, codec_clone.f k x.tag x.kind x.n x.s x.kids = some (x.tag, x.kind, x.n, x.s, x.kids) := fun x hx =>
      clone_spec k x (by have := Nd.sz_mem hx; omega) (hf.kid hx)
    have hl := clone_loop (self := codec_clone.f k) (k := k) hf.len hs 0 0 0 ⟨#[]⟩ [] n.tag n.kind n.n n.s n.kids.length k 0 [] (by omega) (by omega) (by omega) rfl
    rw [codec_clone.f, codec_clone.g]
    rw [show ((0 : Nat) : Int) = 0 from rfl] at hl
    rw [hl]
    rfl


theorem bytes_loop_eq (bs : ByteArray) : ∀ (d i : Nat) (r : List UInt8), bs.size - i = d → ByteArray.toList.loop bs i r = r.reverse ++ bs.data.toList.drop i := by
  intro d
  induction d with
  | zero =>
    intro i r h
    rw [ByteArray.toList.loop, if_neg (by omega), List.drop_eq_nil_of_le (by rw [Array.length_toList]; have : bs.data.size = bs.size := rfl; omega)]
    simp
  | succ d ih =>
    intro i r h
    have hlt : i < bs.data.toList.length := by rw [Array.length_toList]; have : bs.data.size = bs.size := rfl; omega
    rw [ByteArray.toList.loop, if_pos (by omega), ih (i + 1) _ (by omega), List.drop_eq_getElem_cons hlt]
    simp [ByteArray.get!, getElem!_def, show bs.data[i]? = some bs.data.toList[i] by rw [← Array.getElem?_toList]; exact List.getElem?_eq_getElem hlt]
theorem bytes_toList (bs : ByteArray) : bs.toList = bs.data.toList := by
  rw [ByteArray.toList, bytes_loop_eq bs _ 0 [] rfl]; simp
theorem bytes_inj {a b : ByteArray} : (a.toList == b.toList) = true ↔ a = b := by
  rw [beq_iff_eq, bytes_toList, bytes_toList]
  constructor
  · intro h; cases a; cases b; simp at h; simp [h]
  · rintro rfl; rfl



/-- An event. -/
structure Ev where
  kind : Int
  at_ : Int
  c : Int
  sc : List Int
  d : Int
  tx : ByteArray
  b : Bool
  t0 : Int
  t1 : Int
  t2 : Int
  t3 : Int

/-- What the checks let in. -/
structure Ev.Ok (e : Ev) : Prop where
  two : e.kind ≠ 2 → e.c = 0 ∧ e.sc = [] ∧ e.d = 0 ∧ e.tx = ⟨#[]⟩ ∧ e.b = false
  five : e.kind ≠ 5 → e.t0 = 0 ∧ e.t1 = 0 ∧ e.t2 = 0 ∧ e.t3 = 0
  five' : e.kind = 5 → e.t1 = e.at_
  at0 : 0 ≤ e.at_
  at1 : e.at_ ≤ 1099511627776
  sc10 : e.sc.length ≤ 10
  tx1000 : e.tx.size ≤ 1000

theorem empty_spec (k : Nat) (c : Int) (sc : List Int) (d : Int) (tx : ByteArray) (b : Bool) : ∃ r, resume_empty.f k c sc d tx b = some r ∧ (r = true → c = 0 ∧ sc = [] ∧ d = 0 ∧ tx = ⟨#[]⟩ ∧ b = false) := by
  unfold resume_empty.f
  cases h0 : (c == 0) <;> cases h1 : ((sc.length : Int) == 0) <;> cases h2 : (d == 0) <;> cases h3 : (tx.toList == (⟨#[]⟩ : ByteArray).toList) <;> cases b <;>
    simp only [cond_true, cond_false, Option.bind_some, Bool.not_true, Bool.not_false, Option.some.injEq, exists_eq_left', Bool.false_eq_true, false_imp_iff, forall_const, true_imp_iff] <;> try trivial
  exact ⟨by simpa using h0, by simpa using h1, by simpa using h2, bytes_inj.1 h3, trivial⟩

theorem valid_spec (k : Nat) (e : Ev) : ∃ v, resume_valid.f k e.kind e.at_ e.c e.sc e.d e.tx e.b e.t0 e.t1 e.t2 e.t3 = some v ∧ (v = 0 → e.Ok) := by
  obtain ⟨r, hr, hr'⟩ := empty_spec k e.c e.sc e.d e.tx e.b
  unfold resume_valid.f
  rw [hr]
  have no : ∀ {v : Int}, v ≠ 0 → ∀ {o : Option Int}, o = some v → ∃ v, o = some v ∧ (v = 0 → e.Ok) := fun hv _ ho => ⟨_, ho, fun h => absurd h hv⟩
  cases h0 : decide (e.kind < 1)
  case true => exact no (v := 1) (by decide) (by simp only [cond_true, Option.bind_some])
  cases h1 : decide (e.kind > 6)
  case true => exact no (v := 1) (by decide) (by simp only [cond_true, cond_false, Option.bind_some])
  cases h2 : (e.kind != 2) <;> cases r
  case true.false => exact no (v := 1) (by decide) (by simp only [cond_true, cond_false, Option.bind_some, Bool.not_false])
  all_goals (
    cases h3 : (e.kind != 5) <;> cases h4 : ((e.t0 == 0) && ((e.t1 == 0) && ((e.t2 == 0) && ((e.t3 == 0) && true))))
    case true.false => exact no (v := 1) (by decide) (by simp only [cond_true, cond_false, Option.bind_some, Bool.not_false, Bool.not_true])
    all_goals (
      cases h5 : (e.kind == 5) <;> cases h6 : (e.t1 != e.at_)
      case true.true => exact no (v := 1) (by decide) (by simp only [cond_true, cond_false, Option.bind_some, Bool.not_false, Bool.not_true])
      all_goals (
        cases h7 : decide (e.at_ < 0)
        case true => exact no (v := 3) (by decide) (by simp only [cond_true, cond_false, Option.bind_some, Bool.not_false, Bool.not_true])
        cases h8 : decide (e.at_ > 1099511627776)
        case true => exact no (v := 3) (by decide) (by simp only [cond_true, cond_false, Option.bind_some, Bool.not_false, Bool.not_true])
        cases h9 : decide ((e.sc.length : Int) > 10)
        case true => exact no (v := 5) (by decide) (by simp only [cond_true, cond_false, Option.bind_some, Bool.not_false, Bool.not_true])
        cases h10 : decide ((e.tx.size : Int) > 1000)
        case true => exact no (v := 5) (by decide) (by simp only [cond_true, cond_false, Option.bind_some, Bool.not_false, Bool.not_true])
        refine ⟨0, by simp only [cond_true, cond_false, Option.bind_some, Bool.not_false, Bool.not_true], fun _ => ?_⟩
        simp only [bne_iff_ne, ne_eq, bne_eq_false_iff_eq, beq_iff_eq, beq_eq_false_iff_ne, decide_eq_false_iff_not, Bool.and_eq_true, Bool.and_true] at h2 h3 h4 h5 h6 h7 h8 h9 h10
        refine ⟨fun hk => ?_, fun hk => ?_, fun hk => ?_, by omega, by omega, by omega, by omega⟩
        · first | exact absurd h2 hk | exact hr' rfl
        · first | exact absurd h3 hk | exact ⟨h4.1, h4.2.1, h4.2.2.1, h4.2.2.2⟩
        · first | exact h6 | exact absurd hk h5)))



def num (t v : Int) : Nd := ⟨t, 1, v, ⟨#[]⟩, []⟩
def encKids (e : Ev) : List Nd :=
  if e.kind = 2 then [num 1 e.kind, num 2 e.at_] ++ [num 3 e.c, ⟨4, 3, 0, ⟨#[]⟩, e.sc.map (num 0)⟩, num 5 e.d, ⟨6, 2, 0, e.tx, []⟩, num 7 (if e.b then 1 else 0)]
  else if e.kind = 5 then [num 1 e.kind, num 2 e.at_] ++ [num 8 e.t0, num 9 e.t2, num 10 e.t3]
  else [num 1 e.kind, num 2 e.at_]
def encN (e : Ev) : Nd := ⟨50, 3, 0, ⟨#[]⟩, encKids e⟩

theorem num_sz (t v : Int) : (num t v).sz = 1 := rfl
theorem num_fit (t v : Int) : Fit (num t v) := .mk _ (by simp [num]) (by simp [num])
theorem nums_sz (t : Int) : ∀ (l : List Int), Nd.sz.szL (l.map (num t)) = l.length
  | [] => rfl
  | v :: l => by simp only [List.map_cons, Nd.sz.szL, num_sz, nums_sz t l, List.length_cons]; omega
theorem nums_fit (t : Int) {l : List Int} (h : l.length ≤ 10) (g : Int) : Fit ⟨g, 3, 0, ⟨#[]⟩, l.map (num t)⟩ := .mk _ (by simp; omega) (by
  intro x hx
  obtain ⟨v, _, rfl⟩ := List.mem_map.1 hx
  exact num_fit t v)

theorem list_spec {k : Nat} {t : Int} {l : List Nd} (hk : 1 + Nd.sz.szL l < k) (hf : Fit ⟨t, 3, 0, ⟨#[]⟩, l⟩) : codec_List.f k l t = some (t, 3, 0, ⟨#[]⟩, l) := by
  rw [codec_List.f, clone_spec k ⟨t, 3, 0, ⟨#[]⟩, l⟩ (by simpa [Nd.sz] using hk) hf]
  rfl
theorem enc_loop {k : Nat} {l : List Int} (hl : l.length ≤ 10) (x0 x1 x2 : Int) (x3 : List Int) (x4 : Int) (x5 : ByteArray) (x6 : Bool) (x7 x8 x9 x10 x11 x12 x13 : Int) (x14 : ByteArray) (x15 x16 : List Nd) :
    ∀ (d q i : Nat) (acc : List Nd), l.length - i = d → i ≤ l.length → d < q → acc.length = i →
      resume_Encode.l7850 k q x0 x1 x2 x3 x4 x5 x6 x7 x8 x9 x10 x11 x12 x13 x14 x15 x16 acc l (l.length : Int) (i : Int) = some (x0, x1, x2, x3, x4, x5, x6, x7, x8, x9, x10, x11, x12, x13, x14, x15, x16, acc ++ (l.drop i).map (num 0)) := by
  intro d
  induction d with
  | zero =>
    intro q i acc hd hi hq ha
    obtain ⟨q, rfl⟩ : ∃ q', q = q' + 1 := ⟨q - 1, by omega⟩
    have : i = l.length := by omega
    subst this
    rw [resume_Encode.l7850]
    rw [lt_ok, decide_eq_false (Nat.lt_irrefl _), cond_false, List.drop_length, List.map_nil, List.append_nil]
  | succ d ih =>
    intro q i acc hd hi hq ha
    obtain ⟨q, rfl⟩ : ∃ q', q = q' + 1 := ⟨q - 1, by omega⟩
    have hlt : i < l.length := by omega
    have hr := rdL_ok (e := .int .i64) (List.getElem?_eq_getElem hlt)
    have hf : fits (acc.length + 1) 64 = true := by simp only [fits, decide_eq_true_eq]; omega
    have hw : IntKind.wrap .i64 ((i : Int) + 1) = ((i + 1 : Nat) : Int) := by rw [wrap64 (by omega) (by omega)]; rfl
    simp only [resume_Encode.l7850, lt_ok, hlt, decide_true, cond_true, inB_ok hlt, hr, hf, hw, resume_number.f, codec_Int.f, Option.bind_some]
    rw [ih q (i + 1) _ (by omega) (by omega) (by omega) (by simp [ha])]
    rw [List.drop_eq_getElem_cons hlt, List.map_cons, List.append_assoc]
    rfl

theorem encN_sz {e : Ev} (h : e.Ok) : (encN e).sz ≤ 40 := by
  have hs := nums_sz 0 e.sc
  have := h.sc10
  unfold encN encKids
  split
  · simp only [Nd.sz, Nd.sz.szL, num, List.cons_append, List.nil_append] at hs ⊢
    rw [nums_sz]
    omega
  · split <;> simp [Nd.sz, Nd.sz.szL, num]

theorem encN_fit {e : Ev} (h : e.Ok) : Fit (encN e) := by
  have := h.sc10
  refine .mk _ ?_ ?_
  · unfold encN encKids; split
    · simp
    · split <;> simp
  · intro x hx
    unfold encN encKids at hx
    simp only at hx
    split at hx
    · simp only [List.cons_append, List.nil_append, List.mem_cons, List.not_mem_nil, or_false] at hx
      rcases hx with rfl | rfl | rfl | rfl | rfl | rfl | rfl
      · exact num_fit ..
      · exact num_fit ..
      · exact num_fit ..
      · exact nums_fit 0 this 4
      · exact num_fit ..
      · exact .mk _ (by simp) (by simp)
      · exact num_fit ..
    · split at hx
      · simp only [List.cons_append, List.nil_append, List.mem_cons, List.not_mem_nil, or_false] at hx
        rcases hx with rfl | rfl | rfl | rfl | rfl <;> exact num_fit ..
      · simp only [List.mem_cons, List.not_mem_nil, or_false] at hx
        rcases hx with rfl | rfl <;> exact num_fit ..


/-- What an event is encoded to, or the error. -/
def encR (e : Ev) (v : Int) : Int × Int × Int × ByteArray × List Nd × Int := if v = 0 then (50, 3, 0, ⟨#[]⟩, encKids e, 0) else (0, 0, 0, ⟨#[]⟩, [], v)

theorem encode_spec {k : Nat} (hk : 60 ≤ k) (e : Ev) {v : Int} (hv : resume_valid.f k e.kind e.at_ e.c e.sc e.d e.tx e.b e.t0 e.t1 e.t2 e.t3 = some v) (hok : v = 0 → e.Ok) :
    resume_Encode.f k e.kind e.at_ e.c e.sc e.d e.tx e.b e.t0 e.t1 e.t2 e.t3 = some (encR e v) := by
  rw [resume_Encode.f, hv]
  unfold encR
  by_cases h0 : v = 0
  · have e0 : (v != 0) = false := by simp [h0]
    have ok := hok h0
    have hsz := encN_sz ok
    have hft := encN_fit ok
    have hlist : codec_List.f k (encKids e) 50 = some (50, 3, 0, ⟨#[]⟩, encKids e) := list_spec (by simp only [encN, Nd.sz] at hsz; omega) hft
    simp only [e0, cond_false, Option.bind_some, if_pos h0, resume_number.f, codec_Int.f, codec_String.f]
    unfold encKids at hlist ⊢
    by_cases h2 : e.kind = 2
    · have e2 : (e.kind == 2) = true := by simp [h2]
      have hsc := ok.sc10
      have hl := enc_loop (k := k) hsc e.kind e.at_ e.c e.sc e.d e.tx e.b e.t0 e.t1 e.t2 e.t3 0 0 0 ⟨#[]⟩ [] [num 1 e.kind, num 2 e.at_] e.sc.length k 0 [] (by omega) (by omega) (by omega) rfl
      rw [show ((0 : Nat) : Int) = 0 from rfl] at hl
      have hl4 : codec_List.f k (e.sc.map (num 0)) 4 = some (4, 3, 0, ⟨#[]⟩, e.sc.map (num 0)) := list_spec (by rw [nums_sz]; omega) (nums_fit 0 hsc 4)
      have hj : ∀ (xs : List Nd), resume_Encode.j7854 k e.kind e.at_ e.c e.sc e.d e.tx e.b e.t0 e.t1 e.t2 e.t3 0 0 0 ⟨#[]⟩ [] [num 1 e.kind, num 2 e.at_] xs 0 = some (e.kind, e.at_, e.c, e.sc, e.d, e.tx, e.b, e.t0, e.t1, e.t2, e.t3, 0, 0, 0, ⟨#[]⟩, [], [num 1 e.kind, num 2 e.at_], xs, if e.b then 1 else 0) := by
        intro xs
        unfold resume_Encode.j7854
        cases e.b <;> rfl
      rw [if_pos h2] at hlist ⊢
      simp only [e2, cond_true]
      have hl' : resume_Encode.l7850 k k e.kind e.at_ e.c e.sc e.d e.tx e.b e.t0 e.t1 e.t2 e.t3 0 0 0 ⟨#[]⟩ [] [⟨1, 1, e.kind, ⟨#[]⟩, []⟩, ⟨2, 1, e.at_, ⟨#[]⟩, []⟩] [] e.sc (e.sc.length : Int) 0 = _ := hl
      rw [hl']
      simp only [Option.bind_some, List.drop_zero, List.nil_append, hj, hl4]
      have hf : fits ([num 1 e.kind, num 2 e.at_].length + 5) 64 = true := rfl
      simp only [hf, cond_true]
      have hlist' : codec_List.f k ([num 1 e.kind, num 2 e.at_] ++ [⟨3, 1, e.c, ⟨#[]⟩, []⟩, ⟨4, 3, 0, ⟨#[]⟩, e.sc.map (num 0)⟩, ⟨5, 1, e.d, ⟨#[]⟩, []⟩, ⟨6, 2, 0, e.tx, []⟩, ⟨7, 1, if e.b then 1 else 0, ⟨#[]⟩, []⟩]) 50 = _ := hlist
      rw [hlist']
      rfl
    · have e2 : (e.kind == 2) = false := by simp [h2]
      rw [if_neg h2] at hlist ⊢
      by_cases h5 : e.kind = 5
      · have e5 : (e.kind == 5) = true := by simp [h5]
        have hf : fits (2 + 3) 64 = true := by decide
        rw [if_pos h5] at hlist ⊢
        simp only [e2, e5, cond_true, cond_false, hf]
        have hlist' : codec_List.f k ([⟨1, 1, e.kind, ⟨#[]⟩, []⟩, ⟨2, 1, e.at_, ⟨#[]⟩, []⟩] ++ [⟨8, 1, e.t0, ⟨#[]⟩, []⟩, ⟨9, 1, e.t2, ⟨#[]⟩, []⟩, ⟨10, 1, e.t3, ⟨#[]⟩, []⟩]) 50 = _ := hlist
        rw [hlist']
        rfl
      · have e5 : (e.kind == 5) = false := by simp [h5]
        rw [if_neg h5] at hlist ⊢
        simp only [e2, e5, cond_false]
        have hlist' : codec_List.f k [⟨1, 1, e.kind, ⟨#[]⟩, []⟩, ⟨2, 1, e.at_, ⟨#[]⟩, []⟩] 50 = _ := hlist
        rw [hlist']
        rfl
  · have e0 : (v != 0) = true := by simp [h0]
    simp only [e0, cond_true, Option.bind_some, if_neg h0]



theorem varint_loop {k : Nat} : ∀ (d q : Nat) (x n : Int), 0 ≤ x → x < 128 * 128 ^ d → d < q → 0 ≤ n → n + d ≤ 100 → ∃ r, codec_varintSize.l28 k q x n = some r ∧ n ≤ r ∧ r ≤ n + d := by
  intro d
  induction d with
  | zero =>
    intro q x n h0 h1 hq hn hd
    obtain ⟨q, rfl⟩ : ∃ q', q = q' + 1 := ⟨q - 1, by omega⟩
    have : decide (x > 127) = false := by simp; omega
    refine ⟨n, ?_, by omega, by omega⟩
    rw [codec_varintSize.l28, this, cond_false]
  | succ d ih =>
    intro q x n h0 h1 hq hn hd
    obtain ⟨q, rfl⟩ : ∃ q', q = q' + 1 := ⟨q - 1, by omega⟩
    rw [codec_varintSize.l28]
    cases hx : decide (x > 127) with
    | false => exact ⟨n, rfl, by omega, by omega⟩
    | true =>
      rw [cond_true, wrap64 (by omega) (by omega)]
      have e : Int.fdiv x (2 ^ 7) = x / 128 := by rw [Int.fdiv_eq_ediv_of_nonneg x (by decide)]; rfl
      rw [e]
      obtain ⟨r, h2, h3, h4⟩ := ih q (x / 128) (n + 1) (by omega) (by rw [Int.pow_succ] at h1; omega) (by omega) (by omega) (by omega)
      exact ⟨r, h2, by omega, by omega⟩

theorem varint_spec {k : Nat} (hk : 12 ≤ k) {x : Int} (h0 : 0 ≤ x) (h1 : x < 18446744073709551616) : ∃ r, codec_varintSize.f k x = some r ∧ 1 ≤ r ∧ r ≤ 10 := by
  obtain ⟨r, h2, h3, h4⟩ := varint_loop (k := k) 9 k x 1 h0 (by rw [show (128 : Int) * 128 ^ 9 = 1180591620717411303424 by decide]; omega) (by omega) (by omega) (by omega)
  exact ⟨r, by rw [codec_varintSize.f, h2]; rfl, h3, by omega⟩

theorem wrapu_bound (n : Int) : 0 ≤ IntKind.wrap .u64 n ∧ IntKind.wrap .u64 n < 18446744073709551616 := by
  have e : IntKind.wrap .u64 n = n % 18446744073709551616 := by
    show (if (false && decide (n % 18446744073709551616 ≥ 9223372036854775808)) = true then n % 18446744073709551616 - 18446744073709551616 else n % 18446744073709551616) = _
    simp
  rw [e]; omega

theorem zigzag_spec (k : Nat) (n : Int) : ∃ r, codec_zigzag.f k n = some r ∧ 0 ≤ r ∧ r < 18446744073709551616 := by
  rw [codec_zigzag.f]
  cases decide (n < 0)
  · exact ⟨_, rfl, wrapu_bound _⟩
  · exact ⟨_, rfl, wrapu_bound _⟩

/-- A tree that can be encoded, in at most so many bytes. -/
def SizeOk (k : Nat) (t : Int) (x : Nd) (b : Int) : Prop := ∃ r, codec_size.f k x.tag x.kind x.n x.s x.kids t = some r ∧ 1 ≤ r ∧ r ≤ b

theorem size_head {self : Int → Int → Int → ByteArray → (List Nd) → Int → Option (Int)} {k : Nat} {t a : Int} (ht : t ≤ 8) (h0 : 0 ≤ a) (h1 : a ≤ 9999999) : decide (t > 8) = false ∧ decide (a < 0) = false ∧ decide (a > 9999999) = false := by
  refine ⟨?_, ?_, ?_⟩ <;> simp <;> omega

theorem size_num {k : Nat} (hk : 13 ≤ k) {t : Int} (ht : t ≤ 8) {a : Int} (h0 : 0 ≤ a) (h1 : a ≤ 9999999) (v : Int) : SizeOk k t (num a v) 21 := by
  obtain ⟨k, rfl⟩ : ∃ k', k = k' + 1 := ⟨k - 1, by omega⟩
  obtain ⟨e0, e1, e2⟩ := size_head (self := codec_size.f k) (k := k) ht h0 h1
  obtain ⟨y3, g3, g4, g5⟩ := varint_spec (k := k) (by omega) (wrapu_bound a).1 (wrapu_bound a).2
  obtain ⟨z, z1, z2, z3⟩ := zigzag_spec k v
  obtain ⟨y6, g6, g7, g8⟩ := varint_spec (k := k) (by omega) z2 z3
  refine ⟨y3 + 1 + y6, ?_, by omega, by omega⟩
  show codec_size.f (k + 1) a 1 v ⟨#[]⟩ [] t = _
  rw [codec_size.f, codec_size.g]
  have eb : ((⟨#[]⟩ : ByteArray).toList == (⟨#[]⟩ : ByteArray).toList) = true := bytes_inj.2 rfl
  have el : decide ((([] : List Nd).length : Int) > 0) = false := by decide
  simp only [e0, e1, e2, cond_false, cond_true, Option.bind_some, g3, beq_self_eq_true, eb, Bool.not_true, el, z1, g6]
  rw [wrap64 (n := y3 + 1) (by omega) (by omega), wrap64 (by omega) (by omega)]

theorem size_text {k : Nat} (hk : 13 ≤ k) {t : Int} (ht : t ≤ 8) {a : Int} (h0 : 0 ≤ a) (h1 : a ≤ 9999999) {s : ByteArray} (hs : s.size ≤ 1000) : SizeOk k t ⟨a, 2, 0, s, []⟩ 1021 := by
  obtain ⟨k, rfl⟩ : ∃ k', k = k' + 1 := ⟨k - 1, by omega⟩
  obtain ⟨e0, e1, e2⟩ := size_head (self := codec_size.f k) (k := k) ht h0 h1
  obtain ⟨y3, g3, g4, g5⟩ := varint_spec (k := k) (by omega) (wrapu_bound a).1 (wrapu_bound a).2
  obtain ⟨y6, g6, g7, g8⟩ := varint_spec (k := k) (by omega) (wrapu_bound (s.size : Int)).1 (wrapu_bound (s.size : Int)).2
  refine ⟨y3 + 1 + y6 + (s.size : Int), ?_, by omega, by omega⟩
  show codec_size.f (k + 1) a 2 0 s [] t = _
  rw [codec_size.f, codec_size.g]
  have el : decide ((([] : List Nd).length : Int) > 0) = false := by decide
  have el2 : decide ((s.size : Int) > 2000) = false := by simp; omega
  have k1 : ((2 : Int) == 1) = false := by decide
  simp only [e0, e1, e2, cond_false, cond_true, Option.bind_some, g3, k1, beq_self_eq_true, bne_self_eq_false, el, el2, g6]
  rw [wrap64 (n := y3 + 1) (by omega) (by omega), wrap64 (n := y3 + 1 + y6) (by omega) (by omega), wrap64 (by omega) (by omega)]

theorem size_loop {self : Int → Int → Int → ByteArray → (List Nd) → Int → Option (Int)} {k : Nat} {l : List Nd} {t b : Int} (ht : t < 8) (ht0 : 0 ≤ t) (hb0 : 0 ≤ b) (hl : l.length ≤ 1024) (hs : ∀ x ∈ l, ∃ r, self x.tag x.kind x.n x.s x.kids (t + 1) = some r ∧ 1 ≤ r ∧ r ≤ b) :
    ∀ (d q i : Nat) (acc : Int), l.length - i = d → i ≤ l.length → d < q → 1 ≤ acc → acc + d * b ≤ 1048576 →
      ∃ r, codec_size.l251866 self k q t acc l (l.length : Int) (i : Int) = some (.inl r) ∧ 1 ≤ r ∧ r ≤ acc + d * b := by
  intro d
  induction d with
  | zero =>
    intro q i acc hd hi hq ha hb
    obtain ⟨q, rfl⟩ : ∃ q', q = q' + 1 := ⟨q - 1, by omega⟩
    have : i = l.length := by omega
    subst this
    refine ⟨acc, ?_, ha, by simp⟩
    rw [codec_size.l251866]
    rw [lt_ok, decide_eq_false (Nat.lt_irrefl _), cond_false]
  | succ d ih =>
    intro q i acc hd hi hq ha hb
    obtain ⟨q, rfl⟩ : ∃ q', q = q' + 1 := ⟨q - 1, by omega⟩
    have hlt : i < l.length := by omega
    have hr := rdL_ok (e := .node) (List.getElem?_eq_getElem hlt)
    obtain ⟨r, hself, r1, r2⟩ := hs l[i] (List.getElem_mem hlt)
    have hw : IntKind.wrap .i64 ((i : Int) + 1) = ((i + 1 : Nat) : Int) := by rw [wrap64 (by omega) (by omega)]; rfl
    have hmul : ((d + 1 : Nat) : Int) * b = d * b + b := by push_cast; rw [Int.add_mul, Int.one_mul]
    rw [hmul] at hb ⊢
    have hdb : 0 ≤ (d : Int) * b := Int.mul_nonneg (by omega) hb0
    have n0 : decide (r < 0) = false := by simp; omega
    have n1 : decide (acc + r > 1048576) = false := by simp; omega
    rw [codec_size.l251866]
    simp only [lt_ok, hlt, decide_true, cond_true, inB_ok hlt, hr, wrap64 (show -9223372036854775808 ≤ t + 1 by omega) (show t + 1 ≤ 9223372036854775807 by omega), hself, Option.bind_some, n0, cond_false, wrap64 (show -9223372036854775808 ≤ acc + r by omega) (show acc + r ≤ 9223372036854775807 by omega), n1, hw]
    obtain ⟨r', h1, h2, h3⟩ := ih q (i + 1) (acc + r) (by omega) (by omega) (by omega) (by omega) (by omega)
    exact ⟨r', h1, h2, by omega⟩

theorem size_list {k : Nat} {t : Int} (ht : t < 8) (ht0 : 0 ≤ t) {a : Int} (h0 : 0 ≤ a) (h1 : a ≤ 9999999) {l : List Nd} {b : Int} (hb0 : 0 ≤ b) (hl : l.length ≤ 40) (hk : 60 ≤ k) (hb : 21 + l.length * b ≤ 1048576) (hs : ∀ x ∈ l, SizeOk (k - 1) (t + 1) x b) :
    SizeOk k t ⟨a, 3, 0, ⟨#[]⟩, l⟩ (21 + l.length * b) := by
  obtain ⟨k, rfl⟩ : ∃ k', k = k' + 1 := ⟨k - 1, by omega⟩
  rw [Nat.add_sub_cancel] at hs
  obtain ⟨e0, e1, e2⟩ := size_head (self := codec_size.f k) (k := k) (t := t) (by omega) h0 h1
  obtain ⟨y3, g3, g4, g5⟩ := varint_spec (k := k) (by omega) (wrapu_bound a).1 (wrapu_bound a).2
  obtain ⟨y6, g6, g7, g8⟩ := varint_spec (k := k) (by omega) (wrapu_bound (l.length : Int)).1 (wrapu_bound (l.length : Int)).2
  have hlb : 0 ≤ (l.length : Int) * b := Int.mul_nonneg (by omega) hb0
  obtain ⟨r, q1, q2, q3⟩ := size_loop (self := codec_size.f k) (k := k) ht ht0 hb0 (by omega) hs l.length k 0 (y3 + 1 + y6) (by omega) (by omega) (by omega) (by omega) (by omega)
  refine ⟨r, ?_, q2, by omega⟩
  show codec_size.f (k + 1) a 3 0 ⟨#[]⟩ l t = _
  rw [codec_size.f, codec_size.g]
  have eb : ((⟨#[]⟩ : ByteArray).toList == (⟨#[]⟩ : ByteArray).toList) = true := bytes_inj.2 rfl
  have el2 : decide ((l.length : Int) > 1024) = false := by simp; omega
  have k1 : ((3 : Int) == 1) = false := by decide
  have k2 : ((3 : Int) == 2) = false := by decide
  rw [show ((0 : Nat) : Int) = 0 from rfl] at q1
  simp only [e0, e1, e2, cond_false, cond_true, Option.bind_some, g3, k1, k2, beq_self_eq_true, bne_self_eq_false, eb, Bool.not_true, el2, g6]
  rw [wrap64 (n := y3 + 1) (by omega) (by omega), wrap64 (n := y3 + 1 + y6) (by omega) (by omega), q1]
  rfl

theorem SizeOk.mono {k : Nat} {t : Int} {x : Nd} {b b' : Int} (h : SizeOk k t x b) (hb : b ≤ b') : SizeOk k t x b' := by
  obtain ⟨r, h1, h2, h3⟩ := h; exact ⟨r, h1, h2, by omega⟩

theorem encN_size {k : Nat} (hk : 200 ≤ k) {e : Ev} (h : e.Ok) : ∃ b, SizeOk k 1 (encN e) b ∧ b ≤ 10000 := by
  have hn : ∀ (a v : Int), 0 ≤ a → a ≤ 9999999 → SizeOk (k - 1) 2 (num a v) 1021 := fun a v h0 h1 => (size_num (by omega) (by omega) h0 h1 v).mono (by omega)
  have hsc := h.sc10
  have hl : SizeOk (k - 1) 2 ⟨4, 3, 0, ⟨#[]⟩, e.sc.map (num 0)⟩ 1021 := by
    refine (size_list (b := 21) (by omega) (by omega) (by omega) (by omega) (by omega) (by simp; omega) (by omega) (by simp; omega) (fun x hx => ?_)).mono (by simp; omega)
    obtain ⟨v, _, rfl⟩ := List.mem_map.1 hx
    exact size_num (by omega) (by omega) (by omega) (by omega) v
  have ht : SizeOk (k - 1) 2 ⟨6, 2, 0, e.tx, []⟩ 1021 := size_text (by omega) (by omega) (by omega) (by omega) h.tx1000
  have len : (encKids e).length ≤ 7 := by
    unfold encKids; split
    · simp
    · split <;> simp
  refine ⟨_, size_list (b := 1021) (by omega) (by omega) (by omega) (by omega) (by omega) (by omega) (by omega) (by omega) (fun x hx => ?_), by omega⟩
  unfold encKids at hx
  split at hx
  · simp only [List.cons_append, List.nil_append, List.mem_cons, List.not_mem_nil, or_false] at hx
    rcases hx with rfl | rfl | rfl | rfl | rfl | rfl | rfl
    · exact hn _ _ (by omega) (by omega)
    · exact hn _ _ (by omega) (by omega)
    · exact hn _ _ (by omega) (by omega)
    · exact hl
    · exact hn _ _ (by omega) (by omega)
    · exact ht
    · exact hn _ _ (by omega) (by omega)
  · split at hx
    · simp only [List.cons_append, List.nil_append, List.mem_cons, List.not_mem_nil, or_false] at hx
      rcases hx with rfl | rfl | rfl | rfl | rfl <;> exact hn _ _ (by omega) (by omega)
    · simp only [List.mem_cons, List.not_mem_nil, or_false] at hx
      rcases hx with rfl | rfl <;> exact hn _ _ (by omega) (by omega)

end Gv

/- Plain laws: bits, varints. -/
namespace Gv
open Go
set_option linter.unusedVariables false
set_option linter.unusedSimpArgs false

theorem wrapu8 (n : Int) : IntKind.wrap .u8 n = n % 256 := rfl
theorem wrapu64 (n : Int) : IntKind.wrap .u64 n = n % 18446744073709551616 := rfl
theorem or128 (x : Int) : IntKind.wrap .u8 (((BitVec.ofInt 8 (IntKind.wrap .u8 x)) ||| (BitVec.ofInt 8 128)).toNat : Int) = x % 128 + 128 := by
  have key : ∀ m : Fin 256, (((BitVec.ofInt 8 (m.val : Int)) ||| (BitVec.ofInt 8 128)).toNat : Int) % 256 = (m.val : Int) % 128 + 128 := by decide +kernel
  obtain ⟨m, hm⟩ : ∃ m : Fin 256, (m.val : Int) = x % 256 := ⟨⟨(x % 256).toNat, by omega⟩, by simp; omega⟩
  rw [wrapu8, wrapu8, ← hm, key m, hm]
  omega
theorem and127 {c : Int} (h0 : 0 ≤ c) (h1 : c < 256) : IntKind.wrap .u8 (((BitVec.ofInt 8 c) &&& (BitVec.ofInt 8 127)).toNat : Int) = c % 128 := by
  have key : ∀ m : Fin 256, (((BitVec.ofInt 8 (m.val : Int)) &&& (BitVec.ofInt 8 127)).toNat : Int) % 256 = (m.val : Int) % 128 := by decide +kernel
  obtain ⟨m, hm⟩ : ∃ m : Fin 256, (m.val : Int) = c := ⟨⟨c.toNat, by omega⟩, by simp; omega⟩
  rw [wrapu8, ← hm, key m]

theorem or64 {x m : Int} (s : Nat) (hx : 0 ≤ x) (hs : x < 2 ^ s) (hm : 0 ≤ m) (h : x + m * 2 ^ s < 18446744073709551616) : IntKind.wrap .u64 (((BitVec.ofInt 64 x) ||| (BitVec.ofInt 64 (m * 2 ^ s))).toNat : Int) = x + m * 2 ^ s := by
  obtain ⟨a, rfl⟩ := Int.eq_ofNat_of_zero_le hx
  obtain ⟨b, rfl⟩ := Int.eq_ofNat_of_zero_le hm
  have hs' : a < 2 ^ s := by exact_mod_cast hs
  have e : (b : Int) * 2 ^ s = ((b * 2 ^ s : Nat) : Int) := by rw [Int.natCast_mul, Int.natCast_pow]; rfl
  have h' : a + b * 2 ^ s < 18446744073709551616 := by rw [e] at h; omega
  rw [e, BitVec.ofInt_natCast, BitVec.ofInt_natCast, BitVec.toNat_or, BitVec.toNat_ofNat, BitVec.toNat_ofNat, Nat.mod_eq_of_lt (by omega), Nat.mod_eq_of_lt (by omega)]
  have e2 : a ||| b * 2 ^ s = a + b * 2 ^ s := by
    have := Nat.two_pow_add_eq_or_of_lt hs' b
    rw [Nat.or_comm, Nat.mul_comm b, ← this]; omega
  rw [e2, wrapu64]
  omega

/-- The bytes of a varint. -/
def vi : Nat → Int → List Int
  | 0, x => [x]
  | d + 1, x => if x ≤ 127 then [x] else (x % 128 + 128) :: vi d (x / 128)
theorem vi_len : ∀ (d : Nat) (x : Int), (vi d x).length ≤ d + 1 ∧ 1 ≤ (vi d x).length
  | 0, _ => by simp [vi]
  | d + 1, x => by
    unfold vi
    split
    · simp
    · have := vi_len d (x / 128); simp only [List.length_cons]; omega

/-- What a byte is. -/
def IsB (l : List Int) : Prop := ∀ c ∈ l, 0 ≤ c ∧ c < 256
theorem IsB.append {l l' : List Int} (h : IsB l) (h' : IsB l') : IsB (l ++ l') := fun c hc => by
  rcases List.mem_append.1 hc with hc | hc
  · exact h c hc
  · exact h' c hc
theorem vi_bytes : ∀ (d : Nat) (x : Int), 0 ≤ x → x < 128 * 128 ^ d → IsB (vi d x)
  | 0, x => fun h0 h1 c hc => by simp [vi] at hc; subst hc; omega
  | d + 1, x => fun h0 h1 => by
    unfold vi
    split
    · intro c hc; simp at hc; subst hc; omega
    · have h2 : x < 128 * (128 * 128 ^ d) := by rw [Int.pow_succ] at h1; rw [Int.mul_comm (128 : Int) (128 ^ d)]; exact h1
      have := vi_bytes d (x / 128) (by omega) (by generalize (128 : Int) * 128 ^ d = z at h2 ⊢; omega)
      intro c hc
      rcases List.mem_cons.1 hc with rfl | hc
      · omega
      · exact this c hc

theorem fits_ok {n b : Nat} (h : n * b ≤ 140737488355328) : fits n b = true := by unfold fits; exact decide_eq_true h

theorem put_loop {k : Nat} : ∀ (d q : Nat) (x : Int) (b : List Int), 0 ≤ x → x < 128 * 128 ^ d → d < q → b.length + (vi d x).length ≤ 1000000000 →
    ∃ b' y, codec_putVarint.l12 k q b x = some (b', y) ∧ 0 ≤ y ∧ y ≤ 127 ∧ b' ++ [y] = b ++ vi d x
  | 0, q + 1, x, b => fun h0 h1 _ _ => by
    refine ⟨b, x, ?_, h0, by omega, by simp [vi]⟩
    unfold codec_putVarint.l12
    rw [decide_eq_false (by omega)]; rfl
  | d + 1, q + 1, x, b => fun h0 h1 hq hb => by
    unfold codec_putVarint.l12
    unfold vi at hb ⊢
    by_cases hx : x ≤ 127
    · rw [decide_eq_false (by omega)]
      exact ⟨b, x, rfl, h0, hx, by rw [if_pos hx]⟩
    · rw [decide_eq_true (by omega)]
      rw [if_neg hx] at hb ⊢
      simp only [List.length_cons] at hb
      have h2 : x < 128 * (128 * 128 ^ d) := by rw [Int.pow_succ] at h1; rw [Int.mul_comm (128 : Int) (128 ^ d)]; exact h1
      have e : Int.fdiv x (2 ^ 7) = x / 128 := by rw [show (2 : Int) ^ 7 = 128 from rfl, Int.fdiv_eq_ediv_of_nonneg _ (by omega)]
      rw [fits_ok (by omega), or128, e]
      simp only [cond_true]
      obtain ⟨b', y, g1, g2, g3, g4⟩ := put_loop d q (x / 128) (b ++ [x % 128 + 128]) (by omega) (by generalize (128 : Int) * 128 ^ d = z at h2 ⊢; omega) (by omega) (by simp; omega)
      exact ⟨b', y, g1, g2, g3, by rw [g4]; simp⟩
  | d, 0, _, _ => fun _ _ h => by omega

theorem putV_spec {k : Nat} (hk : 12 ≤ k) {x : Int} (h0 : 0 ≤ x) (h1 : x < 18446744073709551616) (b : List Int) (hb : b.length + (vi 9 x).length ≤ 1000000000) : codec_putVarint.f k b x = some (b ++ vi 9 x) := by
  obtain ⟨b', y, g1, g2, g3, g4⟩ := put_loop (k := k) 9 k x b h0 (by rw [show (128 : Int) * 128 ^ 9 = 1180591620717411303424 from rfl]; omega) (by omega) hb
  have hl : b'.length + 1 = b.length + (vi 9 x).length := by
    have := congrArg List.length g4
    simpa using this
  rw [codec_putVarint.f, g1]
  simp only [Option.bind_some]
  rw [fits_ok (by omega)]
  simp only [cond_true]
  rw [wrapu8, Int.emod_eq_of_lt g2 (by omega), g4]
end Gv

/- Plain laws: varints read. -/
namespace Gv
open Go
set_option linter.unusedVariables false
set_option linter.unusedSimpArgs false

theorem next_spec (k : Nat) {b : List Int} {i : Nat} {c : Int} (hc : b[i]? = some c) (hb : b.length ≤ 1000000) : codec_decoder_next.f k b (i : Int) = some (.inl (b, ((i + 1 : Nat) : Int), c)) := by
  have hi : i < b.length := (List.getElem?_eq_some_iff.1 hc).1
  unfold codec_decoder_next.f codec_decoder_next.j6
  rw [decide_eq_false (show ¬ (i : Int) ≥ 1048576 by omega)]
  simp only [cond_false, Option.bind_some]
  rw [decide_eq_false (show ¬ (i : Int) ≥ (b.length : Int) by omega)]
  have e1 : IntKind.wrap .i64 ((i : Int) + 1) = ((i + 1 : Nat) : Int) := by rw [wrap64 (by omega) (by omega)]; rfl
  have e2 : IntKind.wrap .i64 (((i + 1 : Nat) : Int) - 1) = (i : Int) := by rw [wrap64 (by omega) (by omega)]; omega
  rw [e1, e2, inB_ok hi, rdL_ok hc]
  rfl

theorem orstep {i : Nat} (hi : i ≤ 9) {acc c P Q : Int} (hP : P = 2 ^ (7 * i)) (hPQ : P * Q = 18446744073709551616) (h0 : 0 ≤ acc) (h1 : acc < P) (hc0 : 0 ≤ c) (hc1 : c < 256) (hq : c % 128 < Q) :
    IntKind.wrap .u64 (((BitVec.ofInt 64 acc) ||| (BitVec.ofInt 64 (IntKind.wrap .u64 ((IntKind.wrap .u64 (IntKind.wrap .u8 (((BitVec.ofInt 8 c) &&& (BitVec.ofInt 8 127)).toNat : Int))) * 2 ^ (min (Int.toNat (IntKind.wrap .i64 (7 * (i : Int)))) 64))))).toNat : Int) = acc + (c % 128) * P := by
  have e1 : IntKind.wrap .i64 (7 * (i : Int)) = ((7 * i : Nat) : Int) := by rw [wrap64 (by omega) (by omega)]; omega
  have hP0 : 0 < P := by omega
  have hb : (c % 128) * P ≤ (Q - 1) * P := Int.mul_le_mul_of_nonneg_right (by omega) (by omega)
  have hb2 : (Q - 1) * P = 18446744073709551616 - P := by rw [Int.sub_mul, Int.one_mul, Int.mul_comm Q P, hPQ]
  have hn : 0 ≤ (c % 128) * P := Int.mul_nonneg (by omega) (by omega)
  rw [and127 hc0 hc1, e1, Int.toNat_natCast, Nat.min_eq_left (by omega), wrapu64 (c % 128), Int.emod_eq_of_lt (by omega) (show c % 128 < 18446744073709551616 by omega), ← hP, wrapu64 ((c % 128) * P), Int.emod_eq_of_lt hn (by omega)]
  have := or64 (x := acc) (m := c % 128) (7 * i) h0 (by rw [← hP]; exact h1) (by omega) (by rw [← hP]; omega)
  rw [← hP] at this
  exact this

theorem varint_dec {k : Nat} (rest : List Int) : ∀ (d i q : Nat) (acc y P Q : Int) (pre : List Int), d + i = 9 → P = 2 ^ (7 * i) → P * Q = 18446744073709551616 → (0 < d → ∃ Q', Q = 128 * Q') → 0 ≤ acc → acc < P → 0 ≤ y → y < Q → (0 < i → 1 ≤ y) → d + 1 < q →
    (pre ++ vi d y ++ rest).length ≤ 1000000 → Q = 2 ^ (64 - 7 * i) →
    codec_decoder_varint.l58 k q (pre ++ vi d y ++ rest) (pre.length : Int) acc (i : Int) = some (.inl (pre ++ vi d y ++ rest, ((pre.length + (vi d y).length : Nat) : Int), acc + y * P))
  | d, i, q + 1, acc, y, P, Q, pre => fun hdi hP hPQ hd h0 h1 hy0 hy1 hi hq hlen hQ => by
    have hP0 : 0 < P := by omega
    -- the first byte
    obtain ⟨c, t, hv, hc0, hc1, hcq, hlast, hmore⟩ : ∃ c t, vi d y = c :: t ∧ 0 ≤ c ∧ c < 256 ∧ c % 128 < Q ∧ (y ≤ 127 → c = y ∧ t = []) ∧ (127 < y → ∃ d', d = d' + 1 ∧ c = y % 128 + 128 ∧ t = vi d' (y / 128)) := by
      cases d with
      | zero =>
        have e : Q = 2 := by rw [hQ, show i = 9 by omega]; rfl
        exact ⟨y, [], rfl, hy0, by omega, by omega, fun _ => ⟨rfl, rfl⟩, fun h => by omega⟩
      | succ d =>
        by_cases hy : y ≤ 127
        · exact ⟨y, [], by simp [vi, hy], hy0, by omega, by omega, fun _ => ⟨rfl, rfl⟩, fun h => by omega⟩
        · exact ⟨y % 128 + 128, vi d (y / 128), by simp [vi, hy], by omega, by omega, by omega, fun h => absurd h hy, fun _ => ⟨d, rfl, rfl, rfl⟩⟩
    have hget : (pre ++ vi d y ++ rest)[pre.length]? = some c := by rw [hv]; simp
    have hnx := next_spec k hget hlen
    unfold codec_decoder_varint.l58
    rw [decide_eq_true (show (i : Int) < 10 by omega), cond_true, hnx]
    simp only [Option.bind_some]
    have hc34 : (cond ((i : Int) == 9) (some (decide (c > 1))) (some false) : Option Bool) = some false := by
      by_cases h9 : (i : Int) = 9
      · have e : Q = 2 := by rw [hQ, show i = 9 by omega]; rfl
        have hcy : c = y := (hlast (by omega)).1
        rw [h9, hcy, decide_eq_false (show ¬ y > 1 by omega)]; rfl
      · have : ((i : Int) == 9) = false := by simpa using h9
        rw [this]; rfl
    have hc35 : (cond (c == 0) (some (decide ((i : Int) > 0))) (some false) : Option Bool) = some false := by
      by_cases hz : c = 0
      · have hcy : c = y ∨ c = y % 128 + 128 := by
          rcases Int.lt_or_le 127 y with h | h
          · obtain ⟨d', _, e, _⟩ := hmore h; exact .inr e
          · exact .inl (hlast h).1
        have hi0 : ¬ (i : Int) > 0 := fun h => by have := hi (by omega); omega
        rw [decide_eq_false hi0]; cases (c == 0) <;> rfl
      · have : (c == 0) = false := by simpa using hz
        rw [this]; rfl
    simp only [hc34, hc35, Option.bind_some, cond_false]
    have e7 : IntKind.wrap .i64 (7 * (i : Int)) = ((7 * i : Nat) : Int) := by rw [wrap64 (by omega) (by omega)]; omega
    rw [decide_eq_false (show ¬ IntKind.wrap .i64 (7 * (i : Int)) < 0 by rw [e7]; omega)]
    simp only [cond_false]
    rw [orstep (by omega) hP hPQ h0 h1 hc0 hc1 hcq]
    rcases Int.lt_or_le 127 y with hy | hy
    · obtain ⟨d', rfl, hc, ht⟩ := hmore hy
      obtain ⟨Q', rfl⟩ := hd (by omega)
      rw [decide_eq_false (show ¬ c < 128 by omega), cond_false]
      have e1 : IntKind.wrap .i64 ((i : Int) + 1) = ((i + 1 : Nat) : Int) := by rw [wrap64 (by omega) (by omega)]; rfl
      have hmod : c % 128 = y % 128 := by omega
      have eb : pre ++ vi (d' + 1) y ++ rest = (pre ++ [c]) ++ vi d' (y / 128) ++ rest := by rw [hv, ht]; simp
      have el : ((pre.length + 1 : Nat) : Int) = ((pre ++ [c]).length : Int) := by simp
      have hm : (y % 128) * P ≤ 127 * P := Int.mul_le_mul_of_nonneg_right (by omega) (by omega)
      have hm0 : 0 ≤ (y % 128) * P := Int.mul_nonneg (by omega) (by omega)
      rw [e1, eb, el, hmod]
      have hQ2 : Q' = 2 ^ (64 - 7 * (i + 1)) := by
        have : (2 : Int) ^ (64 - 7 * i) = 128 * 2 ^ (64 - 7 * (i + 1)) := by
          rw [show 64 - 7 * i = (64 - 7 * (i + 1)) + 7 by omega, Int.pow_add, Int.mul_comm]; rfl
        omega
      rw [varint_dec rest d' (i + 1) q (acc + (y % 128) * P) (y / 128) (P * 128) Q' (pre ++ [c]) (by omega) (by rw [hP, show 7 * (i + 1) = 7 * i + 7 by omega, Int.pow_add]; rfl) (by rw [Int.mul_assoc]; exact hPQ) (fun hd' => ⟨2 ^ (64 - 7 * (i + 1) - 7), by
          rw [hQ2, show (64 - 7 * (i + 1)) = (64 - 7 * (i + 1) - 7) + 7 by omega, Int.pow_add, Int.mul_comm]; rfl⟩) (by omega) (by omega) (by omega) (by omega) (by omega) (by omega) (by rw [← eb]; exact hlen) hQ2]
      have ev : acc + y % 128 * P + y / 128 * (P * 128) = acc + y * P := by
        have hy' : y = y % 128 + 128 * (y / 128) := by omega
        generalize y % 128 = r at hy' ⊢
        generalize y / 128 = z at hy' ⊢
        subst hy'
        have e1 : z * (P * 128) = 128 * z * P := by rw [← Int.mul_assoc, Int.mul_comm (z * P) 128, ← Int.mul_assoc]
        rw [e1, Int.add_mul, Int.add_assoc]
      rw [ev]
      have ell : (pre ++ [c]).length + (vi d' (y / 128)).length = pre.length + (vi (d' + 1) y).length := by rw [hv, ht]; simp; omega
      rw [ell]
    · obtain ⟨rfl, rfl⟩ := hlast hy
      rw [decide_eq_true (show c < 128 by omega), cond_true]
      have hmod : c % 128 = c := by omega
      rw [hmod, hv]
      simp
  | d, i, 0, _, _, _, _, _ => fun _ _ _ _ _ _ _ _ _ h => by omega

theorem varint_read {k : Nat} (hk : 12 ≤ k) {x : Int} (h0 : 0 ≤ x) (h1 : x < 18446744073709551616) (pre rest : List Int) (hlen : (pre ++ vi 9 x ++ rest).length ≤ 1000000) :
    codec_decoder_varint.f k (pre ++ vi 9 x ++ rest) (pre.length : Int) = some (.inl (pre ++ vi 9 x ++ rest, ((pre.length + (vi 9 x).length : Nat) : Int), x)) := by
  have := varint_dec (k := k) rest 9 0 k 0 x 1 18446744073709551616 pre rfl rfl rfl (fun _ => ⟨144115188075855872, rfl⟩) (by omega) (by omega) h0 h1 (by omega) (by omega) hlen rfl
  rw [codec_decoder_varint.f]
  rw [show ((0 : Nat) : Int) = 0 from rfl] at this
  rw [this]
  simp
end Gv

/- Plain laws: the encoding of a tree, written and read. -/
namespace Gv
open Go
set_option linter.unusedVariables false
set_option linter.unusedSimpArgs false

def zz (n : Int) : Int := (codec_zigzag.f 0 n).getD 0
theorem zz_spec (k : Nat) (n : Int) : codec_zigzag.f k n = some (zz n) ∧ 0 ≤ zz n ∧ zz n < 18446744073709551616 := by
  obtain ⟨r, h1, h2, h3⟩ := zigzag_spec 0 n
  have e : zz n = r := by unfold zz; rw [h1]; rfl
  rw [e]
  exact ⟨h1, h2, h3⟩

def Nd.enc : Nd → List Int
  | ⟨t, k, n, s, l⟩ => vi 9 t ++ k :: (if k = 1 then vi 9 (zz n) else if k = 2 then vi 9 (s.size : Int) ++ strList s else vi 9 (l.length : Int) ++ encL l)
where encL : List Nd → List Int
  | [] => []
  | n :: l => n.enc ++ encL l

/-- A tree that can be encoded: how deep it goes. -/
inductive Vd : Nat → Nd → Prop
  | int (d : Nat) (t n : Int) (h0 : 0 ≤ t) (h1 : t ≤ 9999999) : Vd (d + 1) ⟨t, 1, n, ⟨#[]⟩, []⟩
  | str (d : Nat) (t : Int) (s : ByteArray) (h0 : 0 ≤ t) (h1 : t ≤ 9999999) (hs : s.size ≤ 2000) : Vd (d + 1) ⟨t, 2, 0, s, []⟩
  | lst (d : Nat) (t : Int) (l : List Nd) (h0 : 0 ≤ t) (h1 : t ≤ 9999999) (hl : l.length ≤ 1024) (hk : ∀ x ∈ l, Vd d x) : Vd (d + 1) ⟨t, 3, 0, ⟨#[]⟩, l⟩

theorem strList_len (s : ByteArray) : (strList s).length = s.size := by simp [strList]
theorem strList_bytes (s : ByteArray) : IsB (strList s) := fun c hc => by
  obtain ⟨b, _, rfl⟩ := List.mem_map.1 hc
  have := b.toNat_lt
  exact ⟨by omega, by omega⟩

theorem putL_spec {self : List Int → Int → Int → Int → ByteArray → List Nd → Option (List Int)} {k : Nat} {l : List Nd} (hl : l.length ≤ 1024)
    (hs : ∀ x ∈ l, ∀ b, b.length + x.enc.length ≤ 900000000 → self b x.tag x.kind x.n x.s x.kids = some (b ++ x.enc)) :
    ∀ (d q i : Nat) (b : List Int), l.length - i = d → i ≤ l.length → d < q → b.length + (Nd.enc.encL (l.drop i)).length ≤ 900000000 → codec_put.l250 self k q b l (l.length : Int) (i : Int) = some (b ++ Nd.enc.encL (l.drop i))
  | 0, q + 1, i, b => fun hd hi _ _ => by
    unfold codec_put.l250
    rw [decide_eq_false (by omega), cond_false, List.drop_eq_nil_of_le (by omega)]
    simp [Nd.enc.encL]
  | d + 1, q + 1, i, b => fun hd hi hq hb => by
    have hlt : i < l.length := by omega
    obtain ⟨x, hx⟩ : ∃ x, l[i]? = some x := ⟨l[i], List.getElem?_eq_getElem hlt⟩
    have hxm : x ∈ l := List.mem_of_getElem? hx
    have hdr : l.drop i = x :: l.drop (i + 1) := by
      rw [List.drop_eq_getElem_cons hlt]
      rw [List.getElem?_eq_getElem hlt] at hx; cases hx; rfl
    rw [hdr] at hb ⊢
    simp only [Nd.enc.encL, List.length_append] at hb ⊢
    unfold codec_put.l250
    rw [decide_eq_true (by omega), inB_ok hlt, rdL_ok hx]
    simp only [cond_true]
    rw [hs x hxm b (by omega)]
    simp only [Option.bind_some]
    have e1 : IntKind.wrap .i64 ((i : Int) + 1) = ((i + 1 : Nat) : Int) := by rw [wrap64 (by omega) (by omega)]; rfl
    rw [e1, putL_spec hl hs d q (i + 1) (b ++ x.enc) (by omega) (by omega) (by omega) (by simp only [List.length_append]; omega), List.append_assoc]
  | _, 0, _, _ => fun _ _ h => by omega

theorem put_spec : ∀ (d : Nat) (n : Nd), Vd d n → ∀ (k : Nat) (b : List Int), 1100 + d ≤ k → b.length + n.enc.length ≤ 900000000 → codec_put.f k b n.tag n.kind n.n n.s n.kids = some (b ++ n.enc)
  | 0, n, h => by cases h
  | d + 1, n, h => by
    intro k b hk hb
    obtain ⟨k, rfl⟩ : ∃ q, k = q + 1 := ⟨k - 1, by omega⟩
    unfold codec_put.f codec_put.g
    cases h with
    | int _ t v h0 h1 =>
      simp only [Nd.enc, if_true, List.length_append, List.length_cons] at hb ⊢
      obtain ⟨z1, z2, z3⟩ := zz_spec k v
      rw [wrapu64 t, Int.emod_eq_of_lt h0 (by omega), putV_spec (by omega) h0 (by omega) b (by omega)]
      simp only [Option.bind_some]
      rw [fits_ok (by simp only [List.length_append]; omega), show ((1 : Int) == 1) = true from rfl, z1]
      simp only [cond_true, Option.bind_some]
      rw [show IntKind.wrap .u8 1 = 1 from rfl, putV_spec (by omega) z2 z3 _ (by simp only [List.length_append, List.length_cons, List.length_nil]; omega)]
      simp
    | str _ t s h0 h1 hs =>
      simp only [Nd.enc, show ((2 : Int) = 1) = False by decide, if_false, if_true, List.length_append, List.length_cons] at hb ⊢
      rw [wrapu64 t, Int.emod_eq_of_lt h0 (by omega), putV_spec (by omega) h0 (by omega) b (by omega)]
      simp only [Option.bind_some]
      rw [fits_ok (by simp only [List.length_append]; omega), show ((2 : Int) == 1) = false from rfl, show ((2 : Int) == 2) = true from rfl]
      simp only [cond_true, cond_false]
      rw [show IntKind.wrap .u8 2 = 2 from rfl, wrapu64 (s.size : Int), Int.emod_eq_of_lt (by omega) (by omega), putV_spec (by omega) (by omega) (by omega) _ (by simp only [List.length_append, List.length_cons, List.length_nil]; omega)]
      simp only [Option.bind_some]
      rw [fits_ok (by simp only [List.length_append, List.length_cons, List.length_nil]; omega)]
      simp
    | lst _ t l h0 h1 hl hk' =>
      simp only [Nd.enc, show ((3 : Int) = 1) = False by decide, show ((3 : Int) = 2) = False by decide, if_false, List.length_append, List.length_cons] at hb ⊢
      rw [wrapu64 t, Int.emod_eq_of_lt h0 (by omega), putV_spec (by omega) h0 (by omega) b (by omega)]
      simp only [Option.bind_some]
      rw [fits_ok (by simp only [List.length_append]; omega), show ((3 : Int) == 1) = false from rfl, show ((3 : Int) == 2) = false from rfl]
      simp only [cond_true, cond_false]
      rw [show IntKind.wrap .u8 3 = 3 from rfl, wrapu64 (l.length : Int), Int.emod_eq_of_lt (by omega) (by omega), putV_spec (by omega) (by omega) (by omega) _ (by simp only [List.length_append, List.length_cons, List.length_nil]; omega)]
      simp only [Option.bind_some]
      have := putL_spec (k := k) hl (fun x hx b hb => put_spec d x (hk' x hx) k b (by omega) hb) l.length k 0 ((b ++ vi 9 t ++ [3]) ++ vi 9 (l.length : Int)) (by omega) (by omega) (by omega) (by simp only [List.drop_zero, List.length_append, List.length_cons, List.length_nil]; omega)
      rw [show ((0 : Nat) : Int) = 0 from rfl] at this
      rw [this]
      simp
end Gv

/- Plain laws: a tree read. -/
namespace Gv
open Go
set_option linter.unusedVariables false
set_option linter.unusedSimpArgs false

theorem next_at {k : Nat} {b pre rest : List Int} {c : Int} (hb : b = pre ++ c :: rest) (hl : b.length ≤ 1000000) : codec_decoder_next.f k b (pre.length : Int) = some (.inl (b, ((pre ++ [c]).length : Int), c)) := by
  subst hb
  rw [next_spec k (c := c) (by simp) hl]
  simp
theorem varint_at {k : Nat} (hk : 12 ≤ k) {x : Int} (h0 : 0 ≤ x) (h1 : x < 18446744073709551616) {b pre rest : List Int} (hb : b = pre ++ (vi 9 x ++ rest)) (hl : b.length ≤ 1000000) :
    codec_decoder_varint.f k b (pre.length : Int) = some (.inl (b, ((pre ++ vi 9 x).length : Int), x)) := by
  subst hb
  rw [← List.append_assoc] at hl ⊢
  rw [varint_read hk h0 h1 pre rest hl, List.length_append]
theorem limited_at {k : Nat} (hk : 12 ≤ k) {x m code : Int} (h0 : 0 ≤ x) (h1 : x ≤ m) (hm : m ≤ 1000000000) {b pre rest : List Int} (hb : b = pre ++ (vi 9 x ++ rest)) (hl : b.length ≤ 1000000) :
    codec_decoder_limited.f k b (pre.length : Int) m code = some (.inl (b, ((pre ++ vi 9 x).length : Int), x)) := by
  rw [codec_decoder_limited.f, varint_at hk h0 (by omega) hb hl]
  simp only [Option.bind_some]
  rw [decide_eq_false (show ¬ x > m by omega), cond_false, wrap64 (by omega) (by omega)]

/-- The loop over a string's bytes. -/
theorem bytes_dec {self : List Int → Int → Int → Option ((List Int × Int × Int × Int × Int × ByteArray × List Nd) ⊕ (List Int × Int × Int))} {k : Nat} {b rest : List Int} (hl : b.length ≤ 1000000) (x2 x3 x4 : Int) (x5 : ByteArray) (x6 : List Nd) (x7 x8 x9 : Int) (x10 : ByteArray) (x11 : List Nd) (m : Nat) :
    ∀ (l pre : List Int) (q i : Nat) (acc : List Int), i + l.length = m → m ≤ 2000 → acc.length = i → l.length < q → b = pre ++ (l ++ rest) →
      codec_decoder_node.l128474 self k q b (pre.length : Int) x2 x3 x4 x5 x6 x7 x8 x9 x10 x11 acc (m : Int) (i : Int) = some (.inl (b, ((pre ++ l).length : Int), x2, x3, x4, x5, x6, x7, x8, x9, x10, x11, acc ++ l))
  | [], pre, q + 1, i, acc => fun him hm _ _ hb => by
    unfold codec_decoder_node.l128474
    simp only [List.length_nil] at him
    rw [decide_eq_false (by omega), cond_false]
    simp
  | c :: l, pre, q + 1, i, acc => fun him hm ha hq hb => by
    unfold codec_decoder_node.l128474
    simp only [List.length_cons] at him hq
    rw [decide_eq_true (by omega), cond_true, next_at (c := c) (rest := l ++ rest) (by rw [hb]; simp) hl]
    simp only [Option.bind_some]
    rw [fits_ok (by omega), cond_true]
    have e1 : IntKind.wrap .i64 ((i : Int) + 1) = ((i + 1 : Nat) : Int) := by rw [wrap64 (by omega) (by omega)]; rfl
    rw [e1, bytes_dec (rest := rest) hl x2 x3 x4 x5 x6 x7 x8 x9 x10 x11 m l (pre ++ [c]) q (i + 1) (acc ++ [c]) (by omega) hm (by simp [ha]) (by omega) (by rw [hb]; simp)]
    simp
  | _, _, 0, _, _ => fun _ _ _ h _ => by omega

def NodeAt (k : Nat) (b : List Int) (p a2 e : Int) : Prop := ∃ t' k' n' s' l', codec_decoder_node.f k b p a2 = some (.inl (b, e, t', k', n', s', l'))

/-- The loop over a list's kids. -/
theorem kids_dec {self : List Int → Int → Int → Option ((List Int × Int × Int × Int × Int × ByteArray × List Nd) ⊕ (List Int × Int × Int))} {k : Nat} {b rest : List Int} (hl : b.length ≤ 1000000) (x2 x3 x4 : Int) (x5 : ByteArray) (x6 : List Nd) (x7 x8 x9 : Int) (x10 : ByteArray) (a2 : Nat) (ha2 : a2 ≤ 8) (m : Nat) :
    ∀ (l : List Nd) (pre : List Int) (q i : Nat) (acc : List Nd), (∀ x ∈ l, ∀ pre rest, b = pre ++ (x.enc ++ rest) → ∃ t' k' n' s' l', self b (pre.length : Int) ((a2 + 1 : Nat) : Int) = some (.inl (b, ((pre ++ x.enc).length : Int), t', k', n', s', l'))) →
      i + l.length = m → m ≤ 1024 → acc.length = i → l.length < q → b = pre ++ (Nd.enc.encL l ++ rest) →
      ∃ acc', codec_decoder_node.l128502 self k q b (pre.length : Int) x2 x3 x4 x5 x6 x7 x8 x9 x10 acc (a2 : Int) (m : Int) (i : Int) = some (.inl (b, ((pre ++ Nd.enc.encL l).length : Int), x2, x3, x4, x5, x6, x7, x8, x9, x10, acc'))
  | [], pre, q + 1, i, acc => fun hs him hm _ _ hb => by
    refine ⟨acc, ?_⟩
    unfold codec_decoder_node.l128502
    simp only [List.length_nil] at him
    rw [decide_eq_false (by omega), cond_false]
    simp [Nd.enc.encL]
  | x :: l, pre, q + 1, i, acc => fun hs him hm ha hq hb => by
    simp only [List.length_cons] at him hq
    simp only [Nd.enc.encL] at hb ⊢
    obtain ⟨t', k', n', s', l', hx⟩ := hs x (by simp) pre (Nd.enc.encL l ++ rest) (by rw [hb]; simp)
    have e0 : IntKind.wrap .i64 ((a2 : Int) + 1) = ((a2 + 1 : Nat) : Int) := by rw [wrap64 (by omega) (by omega)]; rfl
    have e1 : IntKind.wrap .i64 ((i : Int) + 1) = ((i + 1 : Nat) : Int) := by rw [wrap64 (by omega) (by omega)]; rfl
    obtain ⟨acc', h⟩ := kids_dec (rest := rest) hl x2 x3 x4 x5 x6 x7 x8 x9 x10 a2 ha2 m l (pre ++ x.enc) q (i + 1) (acc ++ [⟨t', k', n', s', l'⟩]) (fun y hy => hs y (by simp [hy])) (by omega) hm (by simp [ha]) (by omega) (by rw [hb]; simp)
    refine ⟨acc', ?_⟩
    unfold codec_decoder_node.l128502
    rw [decide_eq_true (by omega), cond_true, e0, hx]
    simp only [Option.bind_some]
    rw [fits_ok (by omega), cond_true, e1, h, List.append_assoc]
  | _, _, 0, _, _ => fun _ _ _ _ h _ => by omega

theorem dec_spec : ∀ (d : Nat) (n : Nd), Vd d n → ∀ (k a2 : Nat) (b pre rest : List Int), 2100 + d ≤ k → a2 + d ≤ 9 → b.length ≤ 1000000 → b = pre ++ (n.enc ++ rest) →
    ∃ t' k' n' s' l', codec_decoder_node.f k b (pre.length : Int) (a2 : Int) = some (.inl (b, ((pre ++ n.enc).length : Int), t', k', n', s', l'))
  | 0, n, h => by cases h
  | d + 1, n, h => by
    intro k a2 b pre rest hk ha2 hl hb
    obtain ⟨k, rfl⟩ : ∃ q, k = q + 1 := ⟨k - 1, by omega⟩
    unfold codec_decoder_node.f codec_decoder_node.g
    rw [decide_eq_false (show ¬ (a2 : Int) > 8 by omega), cond_false]
    cases h with
    | int _ t v h0 h1 =>
      simp only [Nd.enc, if_true] at hb ⊢
      obtain ⟨z1, z2, z3⟩ := zz_spec k v
      rw [limited_at (by omega) h0 h1 (by omega) (rest := 1 :: (vi 9 (zz v) ++ rest)) (by rw [hb]; simp) hl]
      simp only [Option.bind_some]
      rw [next_at (c := 1) (rest := vi 9 (zz v) ++ rest) (by rw [hb]; simp) hl]
      simp only [Option.bind_some]
      rw [show (IntKind.wrap .i64 1 == 1) = true from rfl, cond_true, varint_at (by omega) z2 z3 (rest := rest) (by rw [hb]; simp) hl]
      simp only [Option.bind_some]
      have el : (pre ++ vi 9 t ++ [1] ++ vi 9 (zz v)).length = (pre ++ (vi 9 t ++ 1 :: vi 9 (zz v))).length := by simp
      rw [el]
      cases (IntKind.wrap .u64 (((BitVec.ofInt 64 (zz v)) &&& (BitVec.ofInt 64 1)).toNat : Int)) == 1
      · exact ⟨_, _, _, _, _, rfl⟩
      · exact ⟨_, _, _, _, _, rfl⟩
    | str _ t s h0 h1 hs =>
      simp only [Nd.enc, show ((2 : Int) = 1) = False by decide, if_false, if_true] at hb ⊢
      rw [limited_at (by omega) h0 h1 (by omega) (rest := 2 :: (vi 9 (s.size : Int) ++ (strList s ++ rest))) (by rw [hb]; simp) hl]
      simp only [Option.bind_some]
      rw [next_at (c := 2) (rest := vi 9 (s.size : Int) ++ (strList s ++ rest)) (by rw [hb]; simp) hl]
      simp only [Option.bind_some]
      rw [show (IntKind.wrap .i64 2 == 1) = false from rfl, show (IntKind.wrap .i64 2 == 2) = true from rfl, cond_false, cond_true, limited_at (by omega) (by omega) (show (s.size : Int) ≤ 2000 by omega) (by omega) (rest := strList s ++ rest) (by rw [hb]; simp) hl]
      simp only [Option.bind_some]
      rw [decide_eq_true (show (0 : Int) ≤ 0 by omega), decide_eq_true (show (0 : Int) ≤ (s.size : Int) by omega), fits_ok (by omega)]
      simp only [Bool.and_self, cond_true]
      have := bytes_dec (self := codec_decoder_node.f k) (k := k) (rest := rest) hl 0 0 0 ⟨#[]⟩ [] t 2 0 ⟨#[]⟩ [] s.size (strList s) (pre ++ vi 9 t ++ [2] ++ vi 9 (s.size : Int)) k 0 [] (by rw [strList_len]; omega) hs rfl (by rw [strList_len]; omega) (by rw [hb]; simp)
      rw [show ((0 : Nat) : Int) = 0 from rfl] at this
      rw [show IntKind.wrap .i64 2 = 2 from rfl, this]
      simp only [Option.bind_some]
      have el : (pre ++ vi 9 t ++ [2] ++ vi 9 (s.size : Int) ++ strList s).length = (pre ++ (vi 9 t ++ 2 :: (vi 9 (s.size : Int) ++ strList s))).length := by simp
      rw [el]
      exact ⟨_, _, _, _, _, rfl⟩
    | lst _ t l h0 h1 hll hk' =>
      simp only [Nd.enc, show ((3 : Int) = 1) = False by decide, show ((3 : Int) = 2) = False by decide, if_false] at hb ⊢
      rw [limited_at (by omega) h0 h1 (by omega) (rest := 3 :: (vi 9 (l.length : Int) ++ (Nd.enc.encL l ++ rest))) (by rw [hb]; simp) hl]
      simp only [Option.bind_some]
      rw [next_at (c := 3) (rest := vi 9 (l.length : Int) ++ (Nd.enc.encL l ++ rest)) (by rw [hb]; simp) hl]
      simp only [Option.bind_some]
      rw [show (IntKind.wrap .i64 3 == 1) = false from rfl, show (IntKind.wrap .i64 3 == 2) = false from rfl, show (IntKind.wrap .i64 3 == 3) = true from rfl, cond_false, cond_false, cond_true, limited_at (by omega) (by omega) (show (l.length : Int) ≤ 1024 by omega) (by omega) (rest := Nd.enc.encL l ++ rest) (by rw [hb]; simp) hl]
      simp only [Option.bind_some]
      obtain ⟨acc', this⟩ := kids_dec (self := codec_decoder_node.f k) (k := k) (rest := rest) hl 0 0 0 ⟨#[]⟩ [] t 3 0 ⟨#[]⟩ a2 (by omega) l.length l (pre ++ vi 9 t ++ [3] ++ vi 9 (l.length : Int)) k 0 [] (fun x hx pre' rest' hb' => dec_spec d x (hk' x hx) k (a2 + 1) b pre' rest' (by omega) (by omega) hl hb') (by omega) hll rfl (by omega) (by rw [hb]; simp)
      rw [show ((0 : Nat) : Int) = 0 from rfl] at this
      rw [show IntKind.wrap .i64 3 = 3 from rfl, this]
      simp only [Option.bind_some]
      have el : (pre ++ vi 9 t ++ [3] ++ vi 9 (l.length : Int) ++ Nd.enc.encL l).length = (pre ++ (vi 9 t ++ 3 :: (vi 9 (l.length : Int) ++ Nd.enc.encL l))).length := by simp
      rw [el]
      exact ⟨_, _, _, _, _, rfl⟩

theorem Decode_spec {d : Nat} {n : Nd} (h : Vd d n) (hd : d ≤ 8) {k : Nat} (hk : 2200 ≤ k) (hl : n.enc.length ≤ 1000000) : ∃ t' k' n' s' l', codec_Decode.f k n.enc = some (t', k', n', s', l', (n.enc.length : Int), 0) := by
  obtain ⟨t', k', n', s', l', h1⟩ := dec_spec d n h k 1 n.enc [] [] (by omega) (by omega) hl (by simp)
  refine ⟨t', k', n', s', l', ?_⟩
  have h1' : codec_decoder_node.f k n.enc 0 1 = _ := h1
  rw [codec_Decode.f, h1']
  simp
end Gv

/- Plain laws: an event's tree, encoded. -/
namespace Gv
open Go
set_option linter.unusedVariables false
set_option linter.unusedSimpArgs false

theorem encL_len {B : Nat} : ∀ (l : List Nd), (∀ x ∈ l, x.enc.length ≤ B) → (Nd.enc.encL l).length ≤ l.length * B
  | [], _ => by simp [Nd.enc.encL]
  | x :: l, h => by
    have h1 := h x (by simp)
    have h2 := encL_len l (fun y hy => h y (by simp [hy]))
    simp only [Nd.enc.encL, List.length_append, List.length_cons, Nat.add_mul, Nat.one_mul]
    omega

theorem enc_bytes : ∀ (d : Nat) (n : Nd), Vd d n → IsB n.enc
  | 0, n, h => by cases h
  | d + 1, n, h => by
    have hv : ∀ {t : Int}, 0 ≤ t → t < 18446744073709551616 → IsB (vi 9 t) := fun h0 h1 => vi_bytes 9 _ h0 (by rw [show (128 : Int) * 128 ^ 9 = 1180591620717411303424 from rfl]; omega)
    have hc : ∀ {c : Int} {l : List Int}, 0 ≤ c → c < 256 → IsB l → IsB (c :: l) := fun h0 h1 hl x hx => by
      rcases List.mem_cons.1 hx with rfl | hx
      · exact ⟨h0, h1⟩
      · exact hl x hx
    have many : ∀ (l : List Nd), (∀ x ∈ l, IsB x.enc) → IsB (Nd.enc.encL l) := by
      intro l
      induction l with
      | nil => intro _ c hc; simp [Nd.enc.encL] at hc
      | cons x l ih => intro h; simp only [Nd.enc.encL]; exact (h x (by simp)).append (ih fun y hy => h y (by simp [hy]))
    cases h with
    | int _ t v h0 h1 =>
      obtain ⟨z1, z2, z3⟩ := zz_spec 0 v
      simp only [Nd.enc, if_true]
      exact (hv h0 (by omega)).append (hc (by omega) (by omega) (hv z2 z3))
    | str _ t s h0 h1 hs =>
      simp only [Nd.enc, show ((2 : Int) = 1) = False by decide, if_false, if_true]
      exact (hv h0 (by omega)).append (hc (by omega) (by omega) ((hv (by omega) (by omega)).append (strList_bytes s)))
    | lst _ t l h0 h1 hl hk =>
      simp only [Nd.enc, show ((3 : Int) = 1) = False by decide, show ((3 : Int) = 2) = False by decide, if_false]
      exact (hv h0 (by omega)).append (hc (by omega) (by omega) ((hv (by omega) (by omega)).append (many l fun x hx => enc_bytes d x (hk x hx))))

theorem num_vd (d : Nat) {a : Int} (v : Int) (h0 : 0 ≤ a) (h1 : a ≤ 9999999) : Vd (d + 1) (num a v) := .int d a v h0 h1

theorem num_enc (a v : Int) : (num a v).enc.length ≤ 21 := by
  have h1 := vi_len 9 a
  have h2 := vi_len 9 (zz v)
  simp only [num, Nd.enc, if_true, List.length_append, List.length_cons]
  omega

theorem encN_kid {e : Ev} (h : e.Ok) : ∀ x ∈ encKids e, Vd 2 x ∧ x.enc.length ≤ 1100 := by
  have hsc := h.sc10
  have hn : ∀ (a v : Int), 0 ≤ a → a ≤ 9999999 → Vd 2 (num a v) ∧ (num a v).enc.length ≤ 1100 := fun a v h0 h1 => ⟨num_vd 1 v h0 h1, by have := num_enc a v; omega⟩
  have hl : Vd 2 ⟨4, 3, 0, ⟨#[]⟩, e.sc.map (num 0)⟩ ∧ (Nd.enc ⟨4, 3, 0, ⟨#[]⟩, e.sc.map (num 0)⟩).length ≤ 1100 := by
    refine ⟨.lst 1 4 _ (by omega) (by omega) (by simp; omega) (fun x hx => ?_), ?_⟩
    · obtain ⟨v, _, rfl⟩ := List.mem_map.1 hx
      exact num_vd 0 v (by omega) (by omega)
    · have h1 := vi_len 9 4
      have h2 := vi_len 9 (((e.sc.map (num 0)).length : Nat) : Int)
      have h3 := encL_len (B := 21) (e.sc.map (num 0)) (fun x hx => by obtain ⟨v, _, rfl⟩ := List.mem_map.1 hx; exact num_enc 0 v)
      simp only [Nd.enc, show ((3 : Int) = 1) = False by decide, show ((3 : Int) = 2) = False by decide, if_false, List.length_append, List.length_cons]
      simp only [List.length_map] at h3 h2 ⊢
      omega
  have ht : Vd 2 ⟨6, 2, 0, e.tx, []⟩ ∧ (Nd.enc ⟨6, 2, 0, e.tx, []⟩).length ≤ 1100 := by
    have htx := h.tx1000
    refine ⟨.str 1 6 _ (by omega) (by omega) (by omega), ?_⟩
    have h1 := vi_len 9 6
    have h2 := vi_len 9 (e.tx.size : Int)
    simp only [Nd.enc, show ((2 : Int) = 1) = False by decide, if_false, if_true, List.length_append, List.length_cons, strList_len]
    omega
  intro x hx
  unfold encKids at hx
  split at hx
  · simp only [List.cons_append, List.nil_append, List.mem_cons, List.not_mem_nil, or_false] at hx
    rcases hx with rfl | rfl | rfl | rfl | rfl | rfl | rfl
    · exact hn _ _ (by omega) (by omega)
    · exact hn _ _ (by omega) (by omega)
    · exact hn _ _ (by omega) (by omega)
    · exact hl
    · exact hn _ _ (by omega) (by omega)
    · exact ht
    · exact hn _ _ (by omega) (by omega)
  · split at hx
    · simp only [List.cons_append, List.nil_append, List.mem_cons, List.not_mem_nil, or_false] at hx
      rcases hx with rfl | rfl | rfl | rfl | rfl <;> exact hn _ _ (by omega) (by omega)
    · simp only [List.mem_cons, List.not_mem_nil, or_false] at hx
      rcases hx with rfl | rfl <;> exact hn _ _ (by omega) (by omega)

theorem encKids_le (e : Ev) : (encKids e).length ≤ 7 := by
  unfold encKids; split
  · simp
  · split <;> simp

theorem encN_vd {e : Ev} (h : e.Ok) : Vd 3 (encN e) := .lst 2 50 _ (by omega) (by omega) (by have := encKids_le e; omega) (fun x hx => (encN_kid h x hx).1)

theorem encN_len {e : Ev} (h : e.Ok) : (encN e).enc.length ≤ 10000 := by
  have h0 := encKids_le e
  have h1 := vi_len 9 50
  have h2 := vi_len 9 (((encKids e).length : Nat) : Int)
  have h3 := encL_len (B := 1100) (encKids e) (fun x hx => (encN_kid h x hx).2)
  simp only [encN, Nd.enc, show ((3 : Int) = 1) = False by decide, show ((3 : Int) = 2) = False by decide, if_false, List.length_append, List.length_cons]
  have : (encKids e).length * 1100 ≤ 7 * 1100 := Nat.mul_le_mul_right _ h0
  omega

theorem Encode_spec {k : Nat} (hk : 2200 ≤ k) {e : Ev} (h : e.Ok) : codec_Encode.f k 50 3 0 ⟨#[]⟩ (encKids e) = some ((encN e).enc, 0) := by
  obtain ⟨b, ⟨r, h1, h2, h3⟩, h4⟩ := encN_size (k := k) (by omega) h
  have h1' : codec_size.f k 50 3 0 ⟨#[]⟩ (encKids e) 1 = some r := h1
  have hp : codec_put.f k [] 50 3 0 ⟨#[]⟩ (encKids e) = some ((encN e).enc) := put_spec 3 (encN e) (encN_vd h) k [] (by omega) (by have := encN_len h; simp; omega)
  rw [codec_Encode.f, h1']
  simp only [Option.bind_some]
  rw [decide_eq_false (show ¬ r < 0 by omega), decide_eq_true (show (0 : Int) ≤ 0 by omega), decide_eq_true (show (0 : Int) ≤ r by omega), fits_ok (by omega), hp]
  rfl
end Gv

/- Plain laws: numbers in bytes, digests. -/
namespace Gv
open Go
set_option linter.unusedVariables false
set_option linter.unusedSimpArgs false

def be4 (x : Int) : List Int := [x / 16777216 % 256, x / 65536 % 256, x / 256 % 256, x % 256]
def be8 (x : Int) : List Int := [x / 72057594037927936 % 256, x / 281474976710656 % 256, x / 1099511627776 % 256, x / 4294967296 % 256, x / 16777216 % 256, x / 65536 % 256, x / 256 % 256, x % 256]
theorem be4_bytes (x : Int) : IsB (be4 x) := fun c hc => by
  simp only [be4, List.mem_cons, List.not_mem_nil, or_false] at hc
  rcases hc with rfl | rfl | rfl | rfl <;> omega
theorem be8_bytes (x : Int) : IsB (be8 x) := fun c hc => by
  simp only [be8, List.mem_cons, List.not_mem_nil, or_false] at hc
  rcases hc with rfl | rfl | rfl | rfl | rfl | rfl | rfl | rfl <;> omega

theorem fdiv_pos (x : Int) {m : Int} (h : 0 ≤ m) : Int.fdiv x m = x / m := Int.fdiv_eq_ediv_of_nonneg _ h

theorem big4 {k : Nat} (hk : 10 ≤ k) (x : Int) : journal_big.f k x 4 = some (be4 x) := by
  obtain ⟨k, rfl⟩ : ∃ q, k = q + 10 := ⟨k - 10, by omega⟩
  have h : journal_big.f (k + 10) x 4 = some [IntKind.wrap .u8 (Int.fdiv x (2 ^ 24)), IntKind.wrap .u8 (Int.fdiv x (2 ^ 16)), IntKind.wrap .u8 (Int.fdiv x (2 ^ 8)), IntKind.wrap .u8 (Int.fdiv x (2 ^ 0))] := by kernel_rfl
  rw [h]
  simp only [wrapu8, be4]
  rw [fdiv_pos _ (by decide), fdiv_pos _ (by decide), fdiv_pos _ (by decide), fdiv_pos _ (by decide)]
  simp
theorem big8 {k : Nat} (hk : 10 ≤ k) (x : Int) : journal_big.f k x 8 = some (be8 x) := by
  obtain ⟨k, rfl⟩ : ∃ q, k = q + 10 := ⟨k - 10, by omega⟩
  have h : journal_big.f (k + 10) x 8 = some [IntKind.wrap .u8 (Int.fdiv x (2 ^ 56)), IntKind.wrap .u8 (Int.fdiv x (2 ^ 48)), IntKind.wrap .u8 (Int.fdiv x (2 ^ 40)), IntKind.wrap .u8 (Int.fdiv x (2 ^ 32)), IntKind.wrap .u8 (Int.fdiv x (2 ^ 24)), IntKind.wrap .u8 (Int.fdiv x (2 ^ 16)), IntKind.wrap .u8 (Int.fdiv x (2 ^ 8)), IntKind.wrap .u8 (Int.fdiv x (2 ^ 0))] := by kernel_rfl
  rw [h]
  simp only [wrapu8, be8]
  rw [fdiv_pos _ (by decide), fdiv_pos _ (by decide), fdiv_pos _ (by decide), fdiv_pos _ (by decide), fdiv_pos _ (by decide), fdiv_pos _ (by decide), fdiv_pos _ (by decide), fdiv_pos _ (by decide)]
  simp

/-- One byte more of a number. -/
def nxt (a c : Int) : Int := IntKind.wrap .u64 (((BitVec.ofInt 64 (IntKind.wrap .u64 (a * 2 ^ (8)))) ||| (BitVec.ofInt 64 (IntKind.wrap .u64 c))).toNat : Int)
theorem nxt_spec {a c : Int} (h0 : 0 ≤ a) (h1 : a < 72057594037927936) (c0 : 0 ≤ c) (c1 : c < 256) : nxt a c = a * 256 + c := by
  unfold nxt
  have e : (2 : Int) ^ 8 = 256 := rfl
  rw [wrapu64 c, Int.emod_eq_of_lt c0 (by omega), wrapu64 (a * 2 ^ 8), e, Int.emod_eq_of_lt (by omega) (by omega), BitVec.or_comm]
  have := or64 (x := c) (m := a) 8 c0 (by rw [e]; omega) h0 (by rw [e]; omega)
  rw [e] at this
  rw [this]; omega

theorem number4 {k : Nat} (hk : 10 ≤ k) {x : Int} (h0 : 0 ≤ x) (h1 : x < 4294967296) : journal_number.f k (be4 x) = some x := by
  obtain ⟨k, rfl⟩ : ∃ q, k = q + 10 := ⟨k - 10, by omega⟩
  have h : ∀ a b c d : Int, journal_number.f (k + 10) [a, b, c, d] = some (nxt (nxt (nxt (nxt 0 a) b) c) d) := fun a b c d => by kernel_rfl
  rw [be4, h, nxt_spec (a := 0) (c := x / 16777216 % 256) (by omega) (by omega) (by omega) (by omega), nxt_spec (a := 0 * 256 + x / 16777216 % 256) (c := x / 65536 % 256) (by omega) (by omega) (by omega) (by omega), nxt_spec (a := (0 * 256 + x / 16777216 % 256) * 256 + x / 65536 % 256) (c := x / 256 % 256) (by omega) (by omega) (by omega) (by omega), nxt_spec (a := ((0 * 256 + x / 16777216 % 256) * 256 + x / 65536 % 256) * 256 + x / 256 % 256) (c := x % 256) (by omega) (by omega) (by omega) (by omega)]
  congr 1
  omega
theorem number8 {k : Nat} (hk : 10 ≤ k) {x : Int} (h0 : 0 ≤ x) (h1 : x < 18446744073709551616) : journal_number.f k (be8 x) = some x := by
  obtain ⟨k, rfl⟩ : ∃ q, k = q + 10 := ⟨k - 10, by omega⟩
  have h : ∀ a b c d e f g i : Int, journal_number.f (k + 10) [a, b, c, d, e, f, g, i] = some (nxt (nxt (nxt (nxt (nxt (nxt (nxt (nxt 0 a) b) c) d) e) f) g) i) := fun a b c d e f g i => by kernel_rfl
  rw [be8, h, nxt_spec (a := 0) (c := x / 72057594037927936 % 256) (by omega) (by omega) (by omega) (by omega), nxt_spec (a := 0 * 256 + x / 72057594037927936 % 256) (c := x / 281474976710656 % 256) (by omega) (by omega) (by omega) (by omega), nxt_spec (a := (0 * 256 + x / 72057594037927936 % 256) * 256 + x / 281474976710656 % 256) (c := x / 1099511627776 % 256) (by omega) (by omega) (by omega) (by omega), nxt_spec (a := ((0 * 256 + x / 72057594037927936 % 256) * 256 + x / 281474976710656 % 256) * 256 + x / 1099511627776 % 256) (c := x / 4294967296 % 256) (by omega) (by omega) (by omega) (by omega), nxt_spec (a := (((0 * 256 + x / 72057594037927936 % 256) * 256 + x / 281474976710656 % 256) * 256 + x / 1099511627776 % 256) * 256 + x / 4294967296 % 256) (c := x / 16777216 % 256) (by omega) (by omega) (by omega) (by omega), nxt_spec (a := ((((0 * 256 + x / 72057594037927936 % 256) * 256 + x / 281474976710656 % 256) * 256 + x / 1099511627776 % 256) * 256 + x / 4294967296 % 256) * 256 + x / 16777216 % 256) (c := x / 65536 % 256) (by omega) (by omega) (by omega) (by omega), nxt_spec (a := (((((0 * 256 + x / 72057594037927936 % 256) * 256 + x / 281474976710656 % 256) * 256 + x / 1099511627776 % 256) * 256 + x / 4294967296 % 256) * 256 + x / 16777216 % 256) * 256 + x / 65536 % 256) (c := x / 256 % 256) (by omega) (by omega) (by omega) (by omega), nxt_spec (a := ((((((0 * 256 + x / 72057594037927936 % 256) * 256 + x / 281474976710656 % 256) * 256 + x / 1099511627776 % 256) * 256 + x / 4294967296 % 256) * 256 + x / 16777216 % 256) * 256 + x / 65536 % 256) * 256 + x / 256 % 256) (c := x % 256) (by omega) (by omega) (by omega) (by omega)]
  congr 1
  omega

theorem u64_bound (n : Int) : 0 ≤ IntKind.wrap .u64 n ∧ IntKind.wrap .u64 n < 18446744073709551616 := by rw [wrapu64]; omega

theorem add_loop {k : Nat} {b : List Int} (hb : b.length ≤ 1000000) : ∀ (d q i : Nat) (x : Int), b.length - i = d → i ≤ b.length → d < q → 0 ≤ x → x < 18446744073709551616 → ∃ y, digest_Add.l26 k q x b (b.length : Int) (i : Int) = some y ∧ 0 ≤ y ∧ y < 18446744073709551616
  | 0, q + 1, i, x => fun hd hi _ h0 h1 => by
    refine ⟨x, ?_, h0, h1⟩
    unfold digest_Add.l26
    rw [decide_eq_false (by omega)]; rfl
  | d + 1, q + 1, i, x => fun hd hi hq h0 h1 => by
    have hlt : i < b.length := by omega
    unfold digest_Add.l26
    rw [decide_eq_true (by omega), inB_ok hlt]
    simp only [cond_true]
    have e1 : IntKind.wrap .i64 ((i : Int) + 1) = ((i + 1 : Nat) : Int) := by rw [wrap64 (by omega) (by omega)]; rfl
    rw [e1]
    exact add_loop hb d q (i + 1) _ (by omega) (by omega) (by omega) (u64_bound _).1 (u64_bound _).2
  | _, 0, _, _ => fun _ _ h => by omega
theorem num_loop {k : Nat} (v : Int) : ∀ (d q : Nat) (x : Int), d ≤ 8 → d < q → 0 ≤ x → x < 18446744073709551616 → ∃ y, digest_Number.l26 k q x v (8 * (d : Int) - 8) = some y ∧ 0 ≤ y ∧ y < 18446744073709551616
  | 0, q + 1, x => fun _ _ h0 h1 => by
    refine ⟨x, ?_, h0, h1⟩
    unfold digest_Number.l26
    rw [decide_eq_false (by omega)]; rfl
  | d + 1, q + 1, x => fun hd hq h0 h1 => by
    unfold digest_Number.l26
    rw [decide_eq_true (by omega), decide_eq_false (by rw [wrapu64]; omega)]
    simp only [cond_true, cond_false]
    have e1 : IntKind.wrap .i64 (8 * ((d + 1 : Nat) : Int) - 8 - 8) = 8 * (d : Int) - 8 := by rw [wrap64 (by omega) (by omega)]; omega
    rw [e1]
    exact num_loop v d q _ (by omega) (by omega) (u64_bound _).1 (u64_bound _).2
  | _, 0, _ => fun _ h => by omega
theorem chain_spec {k : Nat} {b : List Int} (hb : b.length ≤ 1000000) (hk : b.length + 10 < k) (d : Int) : ∃ y, digest_Chain.f k d b = some y ∧ 0 ≤ y ∧ y < 18446744073709551616 := by
  obtain ⟨y, h1, h2, h3⟩ := num_loop (k := k) d 8 k 14695981039346656037 (by omega) (by omega) (by omega) (by omega)
  obtain ⟨z, g1, g2, g3⟩ := add_loop (k := k) hb b.length k 0 y (by omega) (by omega) (by omega) h2 h3
  refine ⟨z, ?_, g2, g3⟩
  have h1' : digest_Number.l26 k k 14695981039346656037 d 56 = some y := h1
  rw [digest_Chain.f, digest_Number.f, h1']
  simp only [Option.bind_some]
  rw [show ((0 : Nat) : Int) = 0 from rfl] at g1
  rw [digest_Add.f, g1]
  rfl
theorem of_spec {k : Nat} (hk : 1 ≤ k) : digest_Of.f k [] = some 14695981039346656037 := by
  obtain ⟨k, rfl⟩ : ∃ q, k = q + 1 := ⟨k - 1, by omega⟩
  kernel_rfl
end Gv

/- Plain laws: the entries of a journal. -/
namespace Gv
open Go
set_option linter.unusedVariables false
set_option linter.unusedSimpArgs false

/-- An entry: the length, the tree, the digest. -/
def ent (p : List Int) (s : Int) : List Int := be4 (p.length : Int) ++ (p ++ be8 s)
theorem ent_len (p : List Int) (s : Int) : (ent p s).length = p.length + 12 := by simp [ent, be4, be8]

theorem take_left' {α : Type} {a b : List α} {n : Nat} (h : a.length = n) : (a ++ b).take n = a := by subst h; simp
theorem drop_left' {α : Type} {a b : List α} {n : Nat} (h : a.length = n) : (a ++ b).drop n = b := by subst h; simp

/-- What is known of an entry's tree. -/
structure Pay (k : Nat) (d : Int) (p : List Int) (s : Int) : Prop where
  len : p.length ≤ 2000
  dec : ∃ t' k' n' s' l', codec_Decode.f k p = some (t', k', n', s', l', (p.length : Int), 0)
  sum : digest_Chain.f k d (be4 (p.length : Int) ++ p) = some s
  s0 : 0 ≤ s
  s1 : s < 18446744073709551616
  byt : IsB p

theorem entry_full {k : Nat} (hk : 10000 ≤ k) {p rest : List Int} {d s : Int} (hp : Pay k d p s) (hl : (ent p s ++ rest).length ≤ 1000000) :
    ∃ t' k' n' s' l', journal_entry.f k (ent p s ++ rest) d = some (.inl (t', k', n', s', l', ((ent p s).length : Int), s)) := by
  obtain ⟨t', k', n', s', l', hdec⟩ := hp.dec
  refine ⟨t', k', n', s', l', ?_⟩
  have hpl := hp.len
  have hel := ent_len p s
  have hb4 : (be4 (p.length : Int)).length = 4 := rfl
  have hb8 : (be8 s).length = 8 := rfl
  simp only [List.length_append] at hl
  unfold journal_entry.f
  have hlen : (ent p s ++ rest).length = p.length + 12 + rest.length := by simp only [List.length_append]; omega
  rw [hlen]
  have w1 : IntKind.wrap .i64 (4 + IntKind.wrap .i64 (p.length : Int)) = ((4 + p.length : Nat) : Int) := by rw [wrap64 (n := (p.length : Int)) (by omega) (by omega), wrap64 (by omega) (by omega)]; omega
  have w2 : IntKind.wrap .i64 (((4 + p.length : Nat) : Int) + 8) = ((12 + p.length : Nat) : Int) := by rw [wrap64 (by omega) (by omega)]; omega
  have w3 : IntKind.wrap .i64 (((4 + p.length : Nat) : Int) - 4) = (p.length : Int) := by rw [wrap64 (by omega) (by omega)]; omega
  have t4 : List.drop (Int.toNat 0) (List.take (Int.toNat 4) (ent p s ++ rest)) = be4 (p.length : Int) := by
    show List.drop 0 (List.take 4 (ent p s ++ rest)) = _
    rw [List.drop_zero]; unfold ent; rw [List.append_assoc]; exact take_left' hb4
  have te : List.drop (Int.toNat 0) (List.take (Int.toNat ((4 + p.length : Nat) : Int)) (ent p s ++ rest)) = be4 (p.length : Int) ++ p := by
    rw [Int.toNat_natCast]
    show List.drop 0 _ = _
    rw [List.drop_zero]; unfold ent
    rw [show be4 (p.length : Int) ++ (p ++ be8 s) ++ rest = (be4 (p.length : Int) ++ p) ++ (be8 s ++ rest) by simp]
    exact take_left' (by simp only [List.length_append]; omega)
  have tp : List.drop (Int.toNat 4) (List.take (Int.toNat ((4 + p.length : Nat) : Int)) (ent p s ++ rest)) = p := by
    rw [show Int.toNat 0 = 0 from rfl, List.drop_zero] at te
    rw [te]
    exact drop_left' hb4
  have t8 : List.drop (Int.toNat ((4 + p.length : Nat) : Int)) (List.take (Int.toNat ((12 + p.length : Nat) : Int)) (ent p s ++ rest)) = be8 s := by
    rw [Int.toNat_natCast, Int.toNat_natCast, take_left' (by omega)]
    unfold ent
    rw [← List.append_assoc]
    exact drop_left' (by simp only [List.length_append]; omega)
  rw [decide_eq_false (show ¬ ((p.length + 12 + rest.length : Nat) : Int) < 4 by omega), decide_eq_true (show (0 : Int) ≤ 0 by omega), decide_eq_true (show (0 : Int) ≤ 4 by omega), decide_eq_true (show (4 : Int) ≤ ((p.length + 12 + rest.length : Nat) : Int) by omega), t4, number4 (by omega) (by omega) (by omega)]
  simp only [cond_false, cond_true, Bool.and_self, Option.bind_some]
  rw [w1, w2, w3]
  rw [decide_eq_false (show ¬ (p.length : Int) > 2000 by omega), decide_eq_false (show ¬ ((p.length + 12 + rest.length : Nat) : Int) < ((12 + p.length : Nat) : Int) by omega), decide_eq_true (show (0 : Int) ≤ ((4 + p.length : Nat) : Int) by omega), decide_eq_true (show ((4 + p.length : Nat) : Int) ≤ ((p.length + 12 + rest.length : Nat) : Int) by omega), te, hp.sum]
  simp only [cond_false, cond_true, Bool.and_self, Option.bind_some]
  rw [decide_eq_true (show ((4 + p.length : Nat) : Int) ≤ ((12 + p.length : Nat) : Int) by omega), decide_eq_true (show ((12 + p.length : Nat) : Int) ≤ ((p.length + 12 + rest.length : Nat) : Int) by omega), t8, number8 (by omega) hp.s0 hp.s1]
  simp only [cond_false, cond_true, Bool.and_self, Option.bind_some, bne_self_eq_false]
  rw [decide_eq_true (show (4 : Int) ≤ ((4 + p.length : Nat) : Int) by omega), tp, hdec]
  simp only [cond_false, cond_true, Bool.and_self, Option.bind_some, bne_self_eq_false]
  rw [hel, show p.length + 12 = 12 + p.length by omega]

theorem entry_part {k : Nat} (hk : 10000 ≤ k) {p rest : List Int} {d s : Int} (hp : Pay k d p s) {c : Nat} (hc : c < (ent p s).length) (dd : Int) :
    ∃ t' k' n' s' l' u v e, journal_entry.f k ((ent p s ++ rest).take c) dd = some (.inr (t', k', n', s', l', u, v, e)) := by
  have hpl := hp.len
  have hel := ent_len p s
  have hb4 : (be4 (p.length : Int)).length = 4 := rfl
  have hlen : ((ent p s ++ rest).take c).length = c := by rw [List.length_take]; simp only [List.length_append]; omega
  unfold journal_entry.f
  rw [hlen]
  by_cases h4 : c < 4
  · rw [decide_eq_true (show (c : Int) < 4 by omega), cond_true]
    exact ⟨_, _, _, _, _, _, _, _, rfl⟩
  · have t4 : List.drop (Int.toNat 0) (List.take (Int.toNat 4) ((ent p s ++ rest).take c)) = be4 (p.length : Int) := by
      show List.drop 0 (List.take 4 _) = _
      rw [List.drop_zero, List.take_take, Nat.min_eq_left (by omega)]; unfold ent; rw [List.append_assoc]; exact take_left' hb4
    have w1 : IntKind.wrap .i64 (4 + IntKind.wrap .i64 (p.length : Int)) = ((4 + p.length : Nat) : Int) := by rw [wrap64 (n := (p.length : Int)) (by omega) (by omega), wrap64 (by omega) (by omega)]; omega
    have w2 : IntKind.wrap .i64 (((4 + p.length : Nat) : Int) + 8) = ((12 + p.length : Nat) : Int) := by rw [wrap64 (by omega) (by omega)]; omega
    rw [decide_eq_false (show ¬ (c : Int) < 4 by omega), decide_eq_true (show (0 : Int) ≤ 0 by omega), decide_eq_true (show (0 : Int) ≤ 4 by omega), decide_eq_true (show (4 : Int) ≤ (c : Int) by omega), t4, number4 (by omega) (by omega) (by omega)]
    simp only [cond_false, cond_true, Bool.and_self, Option.bind_some]
    rw [decide_eq_false (show ¬ (p.length : Int) > 2000 by omega), w1, w2, decide_eq_true (show (c : Int) < ((12 + p.length : Nat) : Int) by omega)]
    exact ⟨_, _, _, _, _, _, _, _, rfl⟩
end Gv

/- Plain laws: a journal, whole or in part, read. -/
namespace Gv
open Go
set_option linter.unusedVariables false
set_option linter.unusedSimpArgs false

/-- A journal: entry behind entry. -/
inductive Js (k : Nat) : Int → List (List Int) → List Int → Int → Prop
  | nil (d : Int) : Js k d [] [] d
  | cons {d : Int} {p : List Int} {s : Int} {ps : List (List Int)} {tail : List Int} {d' : Int} (h : Pay k d p s) (ht : Js k s ps tail d') : Js k d (p :: ps) (ent p s ++ tail) d'

theorem Js.snoc {k : Nat} {d : Int} {ps : List (List Int)} {a : List Int} {d' : Int} (h : Js k d ps a d') {p : List Int} {s : Int} (hp : Pay k d' p s) : Js k d (ps ++ [p]) (a ++ ent p s) s := by
  induction h with
  | nil d =>
    have := Js.cons hp (.nil s)
    simpa using this
  | cons h ht ih =>
    rw [List.append_assoc]
    exact .cons h (ih hp)

theorem Js.len {k : Nat} {d : Int} {ps : List (List Int)} {a : List Int} {d' : Int} (h : Js k d ps a d') : a.length ≤ 2012 * ps.length := by
  induction h with
  | nil d => simp
  | cons h ht ih =>
    have := h.len
    simp only [List.length_append, ent_len, List.length_cons, Nat.mul_add]
    omega
theorem Js.bytes {k : Nat} {d : Int} {ps : List (List Int)} {a : List Int} {d' : Int} (h : Js k d ps a d') : IsB a := by
  induction h with
  | nil d => exact fun c hc => by simp at hc
  | cons h ht ih => exact ((be4_bytes _).append (h.byt.append (be8_bytes _))).append ih

theorem read_stop {k q : Nat} (nodes : List Nd) (b : List Int) (d : Int) {at_ : Int} (h : at_ = (b.length : Int)) : journal_read.l60 k (q + 1) nodes b at_ d = some (.inl (nodes, (b.length : Int), d)) := by
  unfold journal_read.l60
  subst h
  rw [decide_eq_false (by omega)]; rfl

/-- One whole entry is read. -/
theorem read_step {k q : Nat} (hk : 10000 ≤ k) {nodes : List Nd} (hn : nodes.length < 300) {pre p rest : List Int} {d s : Int} (hp : Pay k d p s) (hl : (pre ++ (ent p s ++ rest)).length ≤ 1000000) :
    ∃ n, journal_read.l60 k (q + 1) nodes (pre ++ (ent p s ++ rest)) (pre.length : Int) d = journal_read.l60 k q (nodes ++ [n]) (pre ++ (ent p s ++ rest)) ((pre ++ ent p s).length : Int) s := by
  have hel := ent_len p s
  simp only [List.length_append] at hl
  obtain ⟨t', k', n', s', l', he⟩ := entry_full hk hp (rest := rest) (by simp only [List.length_append]; omega)
  refine ⟨⟨t', k', n', s', l'⟩, ?_⟩
  have hlen : (pre ++ (ent p s ++ rest)).length = pre.length + (p.length + 12 + rest.length) := by simp only [List.length_append]; omega
  have hdr : List.drop (Int.toNat (pre.length : Int)) (List.take (Int.toNat ((pre ++ (ent p s ++ rest)).length : Int)) (pre ++ (ent p s ++ rest))) = ent p s ++ rest := by
    rw [Int.toNat_natCast, Int.toNat_natCast, List.take_length]
    exact drop_left' rfl
  rw [journal_read.l60]
  rw [hdr, he, hlen]
  have n3 : ((nodes.length : Int) == 300) = false := by simp; omega
  rw [decide_eq_true (show (pre.length : Int) < ((pre.length + (p.length + 12 + rest.length) : Nat) : Int) by omega), n3, decide_eq_true (show (0 : Int) ≤ (pre.length : Int) by omega), decide_eq_true (show (pre.length : Int) ≤ ((pre.length + (p.length + 12 + rest.length) : Nat) : Int) by omega), decide_eq_true (show ((pre.length + (p.length + 12 + rest.length) : Nat) : Int) ≤ ((pre.length + (p.length + 12 + rest.length) : Nat) : Int) by omega)]
  simp only [cond_true, cond_false, Bool.and_self, Option.bind_some]
  rw [fits_ok (by omega), cond_true, wrap64 (by omega) (by omega)]
  congr 1
  simp

theorem read_loop {k : Nat} (hk : 10000 ≤ k) {d : Int} {ps : List (List Int)} {a : List Int} {d' : Int} (h : Js k d ps a d') : ∀ (q : Nat) (nodes : List Nd) (pre : List Int), nodes.length + ps.length ≤ 300 → ps.length < q → (pre ++ a).length ≤ 1000000 →
    ∃ nodes', journal_read.l60 k q nodes (pre ++ a) (pre.length : Int) d = some (.inl (nodes', ((pre ++ a).length : Int), d')) ∧ nodes'.length = nodes.length + ps.length := by
  induction h with
  | nil d =>
    intro q nodes pre hn hq hl
    obtain ⟨q, rfl⟩ : ∃ q', q = q' + 1 := ⟨q - 1, by omega⟩
    exact ⟨nodes, read_stop nodes _ d (by simp), by simp⟩
  | @cons d p s ps tail d' h ht ih =>
    intro q nodes pre hn hq hl
    obtain ⟨q, rfl⟩ : ∃ q', q = q' + 1 := ⟨q - 1, by omega⟩
    simp only [List.length_cons] at hn hq
    obtain ⟨n, h1⟩ := read_step (q := q) hk (nodes := nodes) (by omega) (pre := pre) (rest := tail) h hl
    rw [h1]
    obtain ⟨nodes', h2, h3⟩ := ih q (nodes ++ [n]) (pre ++ ent p s) (by simp; omega) (by omega) (by rw [List.append_assoc]; exact hl)
    rw [List.append_assoc] at h2
    exact ⟨nodes', h2, by rw [h3]; simp; omega⟩

def atOf : (List Nd × Int × Int) ⊕ (List Nd × Int × Int × Int) → Int
  | .inl u => u.2.1
  | .inr v => v.2.1

theorem read_part {k : Nat} (hk : 10000 ≤ k) {d : Int} {ps : List (List Int)} {a : List Int} {d' : Int} (h : Js k d ps a d') : ∀ (c q : Nat) (nodes : List Nd) (pre : List Int), nodes.length + ps.length ≤ 300 → ps.length < q → (pre ++ a).length ≤ 1000000 →
    ∃ r m, journal_read.l60 k q nodes (pre ++ a.take c) (pre.length : Int) d = some r ∧ atOf r = ((pre.length + m : Nat) : Int) ∧ m ≤ (a.take c).length := by
  induction h with
  | nil d =>
    intro c q nodes pre hn hq hl
    obtain ⟨q, rfl⟩ : ∃ q', q = q' + 1 := ⟨q - 1, by omega⟩
    exact ⟨_, 0, read_stop nodes _ d (by simp), by simp [atOf], by omega⟩
  | @cons d p s ps tail d' h ht ih =>
    intro c q nodes pre hn hq hl
    obtain ⟨q, rfl⟩ : ∃ q', q = q' + 1 := ⟨q - 1, by omega⟩
    have hel := ent_len p s
    simp only [List.length_cons] at hn hq
    simp only [List.length_append] at hl
    rcases Nat.lt_or_ge c (ent p s).length with hc | hc
    · by_cases h0 : c = 0
      · subst h0
        exact ⟨_, 0, read_stop nodes _ d (by simp), by simp [atOf], by omega⟩
      · obtain ⟨t', k', n', s', l', u, v, e, he⟩ := entry_part (rest := tail) hk h hc d
        have hlen : (pre ++ (ent p s ++ tail).take c).length = pre.length + c := by simp only [List.length_append, List.length_take]; omega
        have hdr : List.drop (Int.toNat (pre.length : Int)) (List.take (Int.toNat ((pre ++ (ent p s ++ tail).take c).length : Int)) (pre ++ (ent p s ++ tail).take c)) = (ent p s ++ tail).take c := by
          rw [Int.toNat_natCast, Int.toNat_natCast, List.take_length]
          exact drop_left' rfl
        refine ⟨.inr (nodes, (pre.length : Int), d, e), 0, ?_, by simp [atOf], by omega⟩
        rw [journal_read.l60]
        rw [hdr, he, hlen]
        have n3 : ((nodes.length : Int) == 300) = false := by simp; omega
        rw [decide_eq_true (show (pre.length : Int) < ((pre.length + c : Nat) : Int) by omega), n3, decide_eq_true (show (0 : Int) ≤ (pre.length : Int) by omega), decide_eq_true (show (pre.length : Int) ≤ ((pre.length + c : Nat) : Int) by omega), decide_eq_true (show ((pre.length + c : Nat) : Int) ≤ ((pre.length + c : Nat) : Int) by omega)]
        rfl
    · obtain ⟨c, rfl⟩ : ∃ c', c = (ent p s).length + c' := ⟨c - (ent p s).length, by omega⟩
      have et : (ent p s ++ tail).take ((ent p s).length + c) = ent p s ++ tail.take c := by
        rw [List.take_append, List.take_of_length_le (by omega)]
        congr 2
        omega
      rw [et]
      obtain ⟨n, h1⟩ := read_step (q := q) hk (nodes := nodes) (by omega) (pre := pre) (rest := tail.take c) h (by simp only [List.length_append, List.length_take]; omega)
      rw [h1]
      obtain ⟨r, m, h2, h3, h4⟩ := ih c q (nodes ++ [n]) (pre ++ ent p s) (by simp; omega) (by omega) (by simp only [List.length_append]; omega)
      rw [List.append_assoc] at h2
      refine ⟨r, (ent p s).length + m, h2, ?_, by simp only [List.length_append]; omega⟩
      rw [h3, List.length_append, Nat.add_assoc]

theorem read_spec {k : Nat} (hk : 10000 ≤ k) {ps : List (List Int)} {a : List Int} {d' : Int} (h : Js k 14695981039346656037 ps a d') (hn : ps.length ≤ 300) : ∃ nodes, journal_read.f k a = some (.inl (nodes, (a.length : Int), d')) ∧ nodes.length = ps.length := by
  have hl := h.len
  obtain ⟨nodes, h1, h2⟩ := read_loop hk h k [] [] (by simpa using hn) (by omega) (by simp; omega)
  refine ⟨nodes, ?_, by simpa using h2⟩
  have h1' : journal_read.l60 k k [] a 0 14695981039346656037 = some (.inl (nodes, (a.length : Int), d')) := h1
  rw [journal_read.f, of_spec (by omega)]
  simp only [Option.bind_some]
  rw [h1']
  rfl

/-- What a cut journal is trimmed to. -/
theorem trim_part {k : Nat} (hk : 10000 ≤ k) {ps : List (List Int)} {a : List Int} {d' : Int} (h : Js k 14695981039346656037 ps a d') (hn : ps.length ≤ 300) (c : Nat) : ∃ m, m ≤ (a.take c).length ∧ journal_Trim.f k (a.take c) = some ((a.take c).take m) := by
  have hl := h.len
  obtain ⟨r, m, h1, h2, h3⟩ := read_part hk h c k [] [] (by simpa using hn) (by omega) (by simp; omega)
  refine ⟨m, h3, ?_⟩
  have h1' : journal_read.l60 k k [] (a.take c) 0 14695981039346656037 = some r := h1
  have hlt : (a.take c).length ≤ 1000000 := by rw [List.length_take]; omega
  rw [journal_Trim.f, journal_read.f, of_spec (by omega)]
  simp only [Option.bind_some]
  rw [h1']
  simp only [Option.bind_some]
  have hm : ∀ at_ : Int, at_ = ((([] : List Int).length + m : Nat) : Int) → cond ((decide ((0 : Int) ≤ 0)) && ((decide ((0 : Int) ≤ at_)) && (decide (at_ ≤ ((a.take c).length : Int)))))
      (cond (fits (0 + (List.drop (Int.toNat 0) (List.take (Int.toNat at_) (a.take c))).length) 1)
        (some (([] : List Int) ++ (List.drop (Int.toNat 0) (List.take (Int.toNat at_) (a.take c)))))
        (none))
      (none) = some ((a.take c).take m) := by
    intro at_ e
    have e' : at_ = (m : Int) := by rw [e]; simp
    subst e'
    have hlt2 : ((a.take c).take m).length ≤ 1000000 := by rw [List.length_take]; omega
    rw [decide_eq_true (show (0 : Int) ≤ 0 by omega), decide_eq_true (show (0 : Int) ≤ (m : Int) by omega), decide_eq_true (show (m : Int) ≤ ((a.take c).length : Int) by omega), Int.toNat_natCast]
    simp only [Bool.and_self, cond_true]
    rw [show Int.toNat 0 = 0 from rfl, List.drop_zero, fits_ok (by omega), cond_true, List.nil_append]
  cases r with
  | inl u => exact hm u.2.1 h2
  | inr v => exact hm v.2.1 h2

theorem trim_full {k : Nat} (hk : 10000 ≤ k) {ps : List (List Int)} {a : List Int} {d' : Int} (h : Js k 14695981039346656037 ps a d') (hn : ps.length ≤ 300) : journal_Trim.f k a = some a := by
  obtain ⟨nodes, h1, _⟩ := read_spec hk h hn
  have hl := h.len
  rw [journal_Trim.f, h1]
  simp only [Option.bind_some]
  rw [decide_eq_true (show (0 : Int) ≤ 0 by omega), decide_eq_true (show (0 : Int) ≤ (a.length : Int) by omega), decide_eq_true (show (a.length : Int) ≤ (a.length : Int) by omega), Int.toNat_natCast]
  simp only [Bool.and_self, cond_true]
  rw [show Int.toNat 0 = 0 from rfl, List.drop_zero, List.take_length, fits_ok (by omega), cond_true, List.nil_append]
end Gv

/- Plain laws: journals joined; written. -/
namespace Gv
open Go
set_option linter.unusedVariables false
set_option linter.unusedSimpArgs false

theorem bytesOf_data (l : List Int) : (bytesOf l).data.toList = l.map fun n => UInt8.ofNat n.toNat := by
  have key : ∀ (l : List Int) (r : ByteArray), (l.foldl (fun r n => r.push (UInt8.ofNat n.toNat)) r).data.toList = r.data.toList ++ l.map fun n => UInt8.ofNat n.toNat := by
    intro l
    induction l with
    | nil => intro r; simp
    | cons a l ih =>
      intro r
      rw [List.foldl_cons, ih]
      simp [ByteArray.push]
  have := key l ByteArray.empty
  rw [show (ByteArray.empty.data.toList : List UInt8) = [] from rfl, List.nil_append] at this
  exact this
theorem u8_inj {a b : Int} (h0 : 0 ≤ a) (h1 : a < 256) (g0 : 0 ≤ b) (g1 : b < 256) (h : UInt8.ofNat a.toNat = UInt8.ofNat b.toNat) : a = b := by
  have := congrArg UInt8.toNat h
  simp only [UInt8.toNat_ofNat'] at this
  rw [Nat.mod_eq_of_lt (by omega), Nat.mod_eq_of_lt (by omega)] at this
  omega
theorem map_u8_inj : ∀ {l l' : List Int}, IsB l → IsB l' → (l.map fun n => UInt8.ofNat n.toNat) = (l'.map fun n => UInt8.ofNat n.toNat) → l = l'
  | [], [], _, _, _ => rfl
  | [], _ :: _, _, _, h => by simp at h
  | _ :: _, [], _, _, h => by simp at h
  | a :: l, b :: l', h, h', e => by
    simp only [List.map_cons, List.cons.injEq] at e
    have ha := h a (by simp)
    have hb := h' b (by simp)
    rw [u8_inj ha.1 ha.2 hb.1 hb.2 e.1, map_u8_inj (fun c hc => h c (by simp [hc])) (fun c hc => h' c (by simp [hc])) e.2]

theorem IsB.take {l : List Int} (h : IsB l) (n : Nat) : IsB (l.take n) := fun c hc => h c (List.mem_of_mem_take hc)

theorem equal_spec (k : Nat) {a b : List Int} (ha : IsB a) (hb : IsB b) : ∃ r, bytes_Equal.f k a b = some r ∧ (r = true ↔ a = b) := by
  refine ⟨_, rfl, ?_⟩
  rw [bytes_toList, bytes_toList, bytesOf_data, bytesOf_data]
  constructor
  · intro h
    exact map_u8_inj ha hb (by simpa using h)
  · intro h
    subst h
    simp

theorem prefix_spec (k : Nat) {a b : List Int} (ha : IsB a) (hb : IsB b) : ∃ r, bytes_HasPrefix.f k a b = some r ∧ (r = true ↔ a.take b.length = b) := by
  unfold bytes_HasPrefix.f
  by_cases h : b.length ≤ a.length
  · obtain ⟨r, h1, h2⟩ := equal_spec k (ha.take b.length) hb
    refine ⟨r, ?_, h2⟩
    rw [decide_eq_true (show (a.length : Int) ≥ (b.length : Int) by omega), decide_eq_true (show (0 : Int) ≤ 0 by omega), decide_eq_true (show (0 : Int) ≤ (b.length : Int) by omega), Int.toNat_natCast]
    simp only [Bool.and_self, cond_true]
    rw [show Int.toNat 0 = 0 from rfl, List.drop_zero, h1]
    rfl
  · refine ⟨false, ?_, ?_⟩
    · rw [decide_eq_false (show ¬ (a.length : Int) ≥ (b.length : Int) by omega)]
      rfl
    · constructor
      · intro h; cases h
      · intro e
        have := congrArg List.length e
        simp only [List.length_take] at this
        omega

/-- The longer one, if the shorter one begins it. -/
def joinR (x y : List Int) (r : Bool) : List Int × Int := if r then (x, 0) else ([], 11)

theorem join_spec {k : Nat} {a b x y : List Int} (hx : journal_Trim.f k a = some x) (hy : journal_Trim.f k b = some y) (bx : IsB x) (by_ : IsB y) :
    ∃ r, resume_Join.f k a b = some (if x.length < y.length then joinR y x r else joinR x y r) ∧ (r = true ↔ if x.length < y.length then y.take x.length = x else x.take y.length = y) := by
  rw [resume_Join.f, hx]
  simp only [Option.bind_some]
  rw [hy]
  simp only [Option.bind_some, journal_Extends.f]
  by_cases h : x.length < y.length
  · obtain ⟨r, h1, h2⟩ := prefix_spec k by_ bx
    refine ⟨r, ?_, by rw [if_pos h]; exact h2⟩
    rw [decide_eq_true (show (x.length : Int) < (y.length : Int) by omega), cond_true, h1, if_pos h]
    cases r <;> rfl
  · obtain ⟨r, h1, h2⟩ := prefix_spec k bx by_
    refine ⟨r, ?_, by rw [if_neg h]; exact h2⟩
    rw [decide_eq_false (show ¬ (x.length : Int) < (y.length : Int) by omega), cond_false, h1, if_neg h]
    cases r <;> rfl

theorem same_bytes {k : Nat} {a : List Int} (hl : a.length ≤ 1000000) : ∀ (d q i : Nat), a.length - i = d → i ≤ a.length → d < q → law52_bytes.l58 k q a a (i : Int) = some (.inl ())
  | 0, q + 1, i => fun hd hi _ => by
    unfold law52_bytes.l58
    rw [decide_eq_false (by omega)]; rfl
  | d + 1, q + 1, i => fun hd hi hq => by
    have hlt : i < a.length := by omega
    unfold law52_bytes.l58
    rw [decide_eq_true (by omega), inB_ok hlt, bne_self_eq_false]
    simp only [cond_true, cond_false]
    have e1 : IntKind.wrap .i64 ((i : Int) + 1) = ((i + 1 : Nat) : Int) := by rw [wrap64 (by omega) (by omega)]; rfl
    rw [e1]
    exact same_bytes hl d q (i + 1) (by omega) (by omega) (by omega)
  | _, 0, _ => fun _ _ h => by omega
theorem lbytes_refl {k : Nat} {a : List Int} (hl : a.length ≤ 1000000) (hk : a.length < k) : law52_bytes.f k a a = some true := by
  have := same_bytes (k := k) hl a.length k 0 (by omega) (by omega) hk
  rw [show ((0 : Nat) : Int) = 0 from rfl] at this
  rw [law52_bytes.f, bne_self_eq_false, cond_false, this]
  rfl
theorem lbytes_ne {k : Nat} {a b : List Int} (h : a.length ≠ b.length) : law52_bytes.f k a b = some false := by
  have : ((a.length : Int) != (b.length : Int)) = true := by simp; omega
  rw [law52_bytes.f, this, cond_true]

/-- What writing an event gives. -/
theorem write_spec {k : Nat} (hk : 10000 ≤ k) {ps : List (List Int)} {a : List Int} {d' : Int} (h : Js k 14695981039346656037 ps a d') (hn : ps.length < 300) (e : Ev) :
    ∃ x c, resume_Write.f k a e.kind e.at_ e.c e.sc e.d e.tx e.b e.t0 e.t1 e.t2 e.t3 = some (x, c) ∧ (c = 0 → ∃ p s, Js k 14695981039346656037 (ps ++ [p]) x s ∧ a.length < x.length) := by
  obtain ⟨v, hv, hok⟩ := valid_spec k e
  have henc := encode_spec (by omega) e hv hok
  rw [resume_Write.f, henc]
  simp only [Option.bind_some]
  unfold encR
  by_cases h0 : v = 0
  · rw [if_pos h0]
    have ok := hok h0
    have hE := Encode_spec (k := k) (by omega) ok
    obtain ⟨nodes, hr, hnl⟩ := read_spec hk h (by omega)
    have hal := h.len
    have hvd := encN_vd ok
    have hel := encN_len ok
    simp only [bne_self_eq_false, cond_false]
    rw [journal_Append.f, hr]
    simp only [Option.bind_some, journal_codeN.f, bne_self_eq_false, cond_false]
    rw [hE]
    simp only [Option.bind_some, bne_self_eq_false, cond_false]
    by_cases h2 : (encN e).enc.length ≤ 2000
    · rw [decide_eq_false (show ¬ ((encN e).enc.length : Int) > 2000 by omega), decide_eq_false (show ¬ (nodes.length : Int) ≥ 300 by omega)]
      simp only [Option.bind_some, cond_false]
      rw [wrapu64 ((encN e).enc.length : Int), Int.emod_eq_of_lt (by omega) (by omega), big4 (by omega)]
      simp only [Option.bind_some]
      have hb4 : (be4 ((encN e).enc.length : Int)).length = 4 := rfl
      obtain ⟨s, hs, s0, s1⟩ := chain_spec (k := k) (b := be4 ((encN e).enc.length : Int) ++ (encN e).enc) (by simp only [List.length_append]; omega) (by simp only [List.length_append]; omega) d'
      have hcl : bytes_Clone.f k a = some a := by
        cases a with
        | nil => rfl
        | cons z l =>
          simp only [bytes_Clone.f, bytes_Clone0.f]
          rw [decide_eq_true (show 0 < (z :: l).length by simp), cond_true, fits_ok (by omega)]
          rfl
      rw [fits_ok (by omega), cond_true, hcl]
      simp only [Option.bind_some]
      rw [fits_ok (by simp only [List.length_append]; omega), cond_true, hs]
      simp only [Option.bind_some]
      rw [big8 (by omega)]
      simp only [Option.bind_some]
      have hb8 : (be8 s).length = 8 := rfl
      rw [fits_ok (by simp only [List.length_append]; omega), cond_true]
      refine ⟨_, 0, rfl, fun _ => ⟨(encN e).enc, s, ?_, by simp only [List.length_append]; omega⟩⟩
      have hpay : Pay k d' (encN e).enc s := ⟨h2, Decode_spec hvd (by omega) (by omega) (by omega), hs, s0, s1, enc_bytes 3 _ hvd⟩
      have hj := h.snoc hpay
      unfold ent at hj
      rw [show a ++ (be4 ((encN e).enc.length : Int) ++ (encN e).enc) ++ be8 s = a ++ (be4 ((encN e).enc.length : Int) ++ ((encN e).enc ++ be8 s)) by simp]
      exact hj
    · rw [decide_eq_true (show ((encN e).enc.length : Int) > 2000 by omega)]
      exact ⟨_, 5, rfl, fun h => by cases h⟩
  · rw [if_neg h0]
    have : (v != 0) = true := by simp [h0]
    simp only [this, cond_true]
    exact ⟨_, v, rfl, fun h => absurd h h0⟩
end Gv
