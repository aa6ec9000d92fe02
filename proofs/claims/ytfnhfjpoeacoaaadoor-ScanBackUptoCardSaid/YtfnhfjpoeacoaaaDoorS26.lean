/- Bytes and runes looked for in texts; whether a text has an end of a line. No conditions. -/
import Derived.Test.YtfnhfjpoeacoaaaDoorS17
import Derived.Test.YtfnhfjpoeacoaaaDoorS24
import Derived.KernelRfl
namespace Go.AM.F
open Go Go.AM
set_option maxRecDepth 100000
set_option linter.unusedSimpArgs false
attribute [local simp] b_strings_IndexByte a_strings_IndexByte
attribute [local simp] b_stringslite_IndexByte a_stringslite_IndexByte
attribute [local simp] j0_strings_IndexRune w0_strings_IndexRune j1_strings_IndexRune j2_strings_IndexRune j3_strings_IndexRune j4_strings_IndexRune w2_strings_IndexRune j5_strings_IndexRune j6_strings_IndexRune j7_strings_IndexRune w1_strings_IndexRune j8_strings_IndexRune j9_strings_IndexRune w4_strings_IndexRune j10_strings_IndexRune j11_strings_IndexRune j12_strings_IndexRune w3_strings_IndexRune j13_strings_IndexRune j14_strings_IndexRune b_strings_IndexRune a_strings_IndexRune
attribute [local simp] j0_utf8_ValidRune b_utf8_ValidRune a_utf8_ValidRune
attribute [local simp] j0_strings_IndexAny j1_strings_IndexAny j2_strings_IndexAny w0_strings_IndexAny j3_strings_IndexAny j4_strings_IndexAny w1_strings_IndexAny j5_strings_IndexAny j6_strings_IndexAny j7_strings_IndexAny j8_strings_IndexAny b_strings_IndexAny a_strings_IndexAny
attribute [local simp] b_strings_ContainsAny a_strings_ContainsAny
attribute [local simp] b_strings_asciiSet_contains a_strings_asciiSet_contains
attribute [local simp] b_strings_shouldUseASCIISet a_strings_shouldUseASCIISet
theorem get_bang (s : ByteArray) (i : Nat) (h : i < s.size) : (s[i]!).toNat = ch s i := by
  have h2 : i < s.data.toList.length := by simpa using h
  have e : s[i]! = s.data[i]'(by simpa using h2) := by
    rw [getElem!_pos s i h]
    rfl
  rw [e]
  simp only [ch, List.getD_eq_getElem?_getD, List.getElem?_eq_getElem h2, Option.getD_some]
  simp
theorem firstIdx_has (s : ByteArray) (c : UInt8) : decide (0 ≤ firstIdx s c) = (bs s).contains c.toNat := by
  unfold firstIdx
  have key : (bs s).contains c.toNat = ((List.range s.size).any fun i => s[i]! == c) := by
    rw [Bool.eq_iff_iff]
    simp only [List.contains_iff_mem, List.any_eq_true, List.mem_range, beq_iff_eq]
    constructor
    · intro h
      obtain ⟨i, hi, e⟩ := List.getElem_of_mem h
      rw [bs_get s i hi] at e
      rw [bs_length] at hi
      exact ⟨i, hi, by rw [← UInt8.toNat_inj, get_bang s i hi, e]⟩
    · rintro ⟨i, hi, e⟩
      have h2 : i < (bs s).length := by simpa using hi
      have : (bs s)[i] = c.toNat := by rw [bs_get s i h2, ← e, get_bang s i hi]
      rw [← this]
      exact List.getElem_mem h2
  rw [key]
  cases h : (List.range s.size).find? fun i => s[i]! == c with
  | none =>
    rw [List.find?_eq_none] at h
    have : ((List.range s.size).any fun i => s[i]! == c) = false := by
      rw [List.any_eq_false]
      exact h
    rw [this]
    rfl
  | some i =>
    have := List.find?_some h
    have hm := List.mem_of_find?_eq_some h
    have : ((List.range s.size).any fun i => s[i]! == c) = true := List.any_eq_true.2 ⟨i, hm, this⟩
    rw [this]
    simp only []
    exact decide_eq_true (by omega)
theorem c_sIndexByte (s : ByteArray) (c : Int) : Cinf T n_stringslite_IndexByte [.v (.string s), .v (.int .u8 c)] = some (.v (.int .i64 (firstIdx s c.toNat.toUInt8)), [.dead, .dead]) := by
  rw [run_stringslite_IndexByte]
  simp [Run]
theorem c_IndexByte (s : ByteArray) (c : Int) : Cinf T n_strings_IndexByte [.v (.string s), .v (.int .u8 c)] = some (.v (.int .i64 (firstIdx s c.toNat.toUInt8)), [.dead, .dead]) := by
  rw [run_strings_IndexByte]
  simp [Run, c_sIndexByte]
def Ascii (s : ByteArray) : Prop := ∀ i, i < s.size → ch s i < 128
theorem decode_ascii {s : ByteArray} {i : Nat} (h : ch s i < 128) : Utf8.decode s i = (ch s i, 1) := by
  unfold Utf8.decode
  simp only [Nat.add_zero, get_ch]
  rw [if_pos h]
theorem rune_loop (s : ByteArray) (ha : Ascii s) : ∀ (n p : Nat) (e : Env), s.size - p = n → p ≤ s.size → e.get 175 = .iter s p → Exec T l0_strings_IndexRune e = some (.exit 9, [(175, .iter s s.size), (176, .tup [.v (.bool false)])]) := by
  intro n
  induction n with
  | zero =>
    intro p e hn hp he
    obtain rfl : p = s.size := by omega
    rw [ex0_strings_IndexRune]
    simp [nextPV, he]
  | succ n ih =>
    intro p e hn hp he
    have hlt : p < s.size := by omega
    have hc := ha p hlt
    have hd := decode_ascii hc
    have h1 : ¬ (ch s p : Int) = 65533 := by omega
    have h2 : ¬ ch s p = 65533 := by omega
    rw [ex0_strings_IndexRune]
    simp [nextPV, he, hlt, hd, h1, h2]
    exact ih (p + 1) _ (by omega) (by omega) (by simp)
theorem c_ValidRune (r : Int) : Cinf T n_utf8_ValidRune [.v (.int .i32 r)] = some (.v (.bool (Utf8.valid r)), [.dead]) := by
  rw [run_utf8_ValidRune]
  unfold Utf8.valid
  by_cases h1 : 0 ≤ r
  · by_cases h2 : r < 55296
    · have h3 : ¬ 57343 < r := by omega
      simp [Run, h1, h2]
    · by_cases h3 : 57343 < r
      · have h4 : (57344 : Int) ≤ r := by omega
        simp [Run, h1, h2, h3, h4]
        by_cases h5 : r ≤ 1114111
        · simp [h5]
        · simp [h5]
      · have h4 : ¬ (57344 : Int) ≤ r := by omega
        simp [Run, h1, h2, h3, h4]
  · have h3 : ¬ 57343 < r := by omega
    have h4 : ¬ (57344 : Int) ≤ r := by omega
    have h2 : r < 55296 := by omega
    simp [Run, h1, h2, h3, h4]
theorem encode_high {r : Int} (hv : Utf8.valid r = true) (h : 128 ≤ r) : ∃ (t : ByteArray) (n : Nat), Utf8.encode r = t ∧ t.size = n + 1 ∧ 1 ≤ n ∧ n ≤ 3 ∧ 128 ≤ ch t n := by
  unfold Utf8.encode
  simp only [hv, if_true]
  rw [if_neg (by omega)]
  have hb : ∀ x, 128 ≤ (UInt8.ofNat (128 + x % 64)).toNat := by
    intro x
    have : x % 64 < 64 := Nat.mod_lt _ (by decide)
    rw [UInt8.toNat_ofNat', Nat.mod_eq_of_lt (by omega)]
    omega
  split
  · exact ⟨_, 1, rfl, rfl, by decide, by decide, hb _⟩
  · split
    · exact ⟨_, 2, rfl, rfl, by decide, by decide, hb _⟩
    · exact ⟨_, 3, rfl, rfl, by decide, by decide, hb _⟩
theorem contains_ascii {s : ByteArray} (ha : Ascii s) {c : UInt8} (h : 128 ≤ c.toNat) : ¬ 0 ≤ firstIdx s c := by
  have := firstIdx_has s c
  have hn : (bs s).contains c.toNat = false := by
    rw [Bool.eq_false_iff]
    intro hc
    rw [List.contains_iff_mem] at hc
    obtain ⟨i, hi, e⟩ := List.getElem_of_mem hc
    rw [bs_get s i hi] at e
    have := ha i (by simpa using hi)
    omega
  rw [hn] at this
  exact of_decide_eq_false this
theorem Ascii.cut {s : ByteArray} (ha : Ascii s) {a b : Nat} (hb : b ≤ s.size) (hab : a ≤ b) : Ascii (s.extract a b) := by
  intro i hi
  rw [extract_size s a b hab hb] at hi
  rw [ch_extract s a b i (by omega) hb]
  exact ha _ (by omega)
def idxRune (s : ByteArray) (r : Int) : Int := if 0 ≤ r ∧ r < 128 then firstIdx s r.toNat.toUInt8 else -1
theorem c_IndexRune (s : ByteArray) (ha : Ascii s) (hs : s.size ≤ 67108864) (r : Int) : Cinf T n_strings_IndexRune [.v (.string s), .v (.int .i32 r)] = some (.v (.int .i64 (idxRune s r)), [.dead, .dead]) := by
  rw [run_strings_IndexRune]
  unfold idxRune
  by_cases h0 : 0 ≤ r ∧ r < 128
  · obtain ⟨n, rfl⟩ : ∃ n : Nat, r = n := ⟨r.toNat, by omega⟩
    have hw := u8_nat (n := n) (by omega)
    have := c_IndexByte s n
    have h1 : n < 128 := by omega
    simp at this
    simp [Run, h1, hw, this]
  rw [if_neg h0]
  have hd : (decide (0 ≤ r) && decide (r < 128)) = false := by
    rw [← Bool.decide_and]
    exact decide_eq_false h0
  by_cases h1 : r = 65533
  · subst h1
    have := rune_loop s ha s.size 0 [(175, .iter s 0)] rfl (Nat.zero_le _) rfl
    simp [Run, rangePV, this]
  have hv := c_ValidRune r
  cases h2 : Utf8.valid r with
  | false =>
    rw [h2] at hv
    by_cases h3 : 0 ≤ r
    · have h4 : ¬ r < 128 := fun h => h0 ⟨h3, h⟩
      simp [Run, h3, h4, eq_false h1, hv]
    · simp [Run, h3, eq_false h1, hv]
  | true =>
    rw [h2] at hv
    have h3 : 0 ≤ r := by
      unfold Utf8.valid at h2
      simp at h2
      omega
    have h4 : ¬ r < 128 := fun h => h0 ⟨h3, h⟩
    obtain ⟨t, n, e1, e2, e3, e4, e5⟩ := encode_high h2 (by omega)
    have hw : IntKind.i64.wrap (n : Int) = n := wrap_nat (by omega)
    by_cases hn : n < s.size
    · have hc := ha n hn
      have hne : ¬ ch s n = ch t n := by omega
      have hne2 : ¬ (ch s n : Int) = ch t n := by omega
      have hw2 : IntKind.i64.wrap ((n : Int) + 1) = (n : Int) + 1 := wrap_succ hn (by omega)
      have hx := contains_ascii (ha.cut (a := n + 1) (b := s.size) (Nat.le_refl _) hn) (c := (((ch t n : Nat) : Int)).toNat.toUInt8) (by simp; rw [Nat.mod_eq_of_lt (ch_small _ _)]; exact e5)
      have hi := c_IndexByte (s.extract (n + 1) s.size) (ch t n)
      have hlt := Int.not_le.1 hx
      have hlx : Exec T l1_strings_IndexRune [(0, .v (.string s)), (7, .v (.string t)), (8, .v (.int .i64 n)), (9, .v (.int .i64 n))] = some (.ret, [(4, .v (.int .i64 (-1)))]) := by
        rw [ex1_strings_IndexRune]
        have g1 : n < t.size := by omega
        have g2 : n + 1 ≤ s.size := by omega
        have g3 : (n : Int) + 1 ≤ s.size := by omega
        simp at hi hlt
        simp [hn, g1, g2, g3, ch_eq, hne, hne2, hw2, hi, hlt, boundOr, bound]
      simp [Run, h3, h4, eq_false h1, hv, e1, e2, hw, hlx]
    · have hlx : Exec T l1_strings_IndexRune [(0, .v (.string s)), (7, .v (.string t)), (8, .v (.int .i64 n)), (9, .v (.int .i64 n))] = some (.exit 1, [(0, .v (.string s)), (7, .v (.string t)), (8, .v (.int .i64 n)), (9, .v (.int .i64 n))]) := by
        rw [ex1_strings_IndexRune]
        simp [hn]
      simp [Run, h3, h4, eq_false h1, hv, e1, e2, hw, hlx]
def crlfT : ByteArray := ⟨#[13, 10]⟩
theorem crlf_ascii : Ascii ⟨#[13, 10]⟩ := by
  intro i hi
  have : i < 2 := hi
  match i, this with
  | 0, _ => decide
  | 1, _ => decide
theorem crlf_has (c : UInt8) : decide (0 ≤ firstIdx ⟨#[13, 10]⟩ c) = (decide (c.toNat = 13) || decide (c.toNat = 10)) := by
  rw [firstIdx_has, show bs ⟨#[13, 10]⟩ = [13, 10] from rfl]
  by_cases h1 : c.toNat = 13
  · simp [h1]
  · by_cases h2 : c.toNat = 10
    · simp [h2]
    · simp [h1, h2]
def setL : List PV := (List.range 256).map fun i => .v (.bool (decide (i = 13) || decide (i = 10)))
theorem c_makeASCIISet : Cinf T n_strings_makeASCIISet [.v (.string ⟨#[13, 10]⟩)] = some (.tup [.agg setL, .v (.bool true)], [.dead]) := Cinf_iff.2 ⟨40, by kernel_rfl⟩
theorem setL_len : setL.length = 256 := by decide
theorem setL_get (c : Nat) (h : c < setL.length) : setL[c] = .v (.bool (decide (c = 13) || decide (c = 10))) := by simp [setL]
theorem setL_one : setL.all PV.one = true := by
  simp [setL, PV.one]
theorem c_contains (c : Nat) (h : c < 256) : Cinf T n_strings_asciiSet_contains [.box setL, .v (.int .u8 c)] = some (.v (.bool (decide (c = 13) || decide (c = 10))), [.box setL, .dead]) := by
  have h2 : c < setL.length := by rw [setL_len]; exact h
  have hg := setL_get c h2
  rw [run_strings_asciiSet_contains]
  have h3 : c ≤ 255 := by omega
  simp [Run, home, h, h2, h3, hg, setL_len]
theorem vs_view (f : Nat → Value) (s : Nat) (p : List Nat) : ∀ (l : List Nat) (i : Nat), PV.viewL s p i (l.map fun k => .v (f k)) = l.map fun k => .v (f k)
  | [], _ => rfl
  | k :: l, i => by rw [List.map_cons, PV.viewL, vs_view f s p l]; rfl
theorem vs_obj (f : Nat → Value) : ∀ (l : List Nat), PV.hasObjL (l.map fun k => .v (f k)) = false
  | [] => rfl
  | k :: l => by rw [List.map_cons, PV.hasObjL, vs_obj f l]; rfl
theorem vs_ment (f : Nat → Value) (s : Nat) (t : List Nat → Bool) : ∀ (l : List Nat), PV.mentL s t (l.map fun k => .v (f k)) = false
  | [] => rfl
  | k :: l => by rw [List.map_cons, PV.mentL, vs_ment f s t l]; rfl
theorem vs_settle (f : Nat → Value) (e : Env) : ∀ (l : List Nat), settleL e (l.map fun k => .v (f k)) = some (l.map fun k => .v (f k), e)
  | [] => rfl
  | k :: l => by
    have h := vs_settle f e l
    simp only [List.map_cons, settleL, settle1, Option.bind_eq_bind, Option.bind_some, h]
    rfl
theorem setL_settle (e : Env) : settleL e setL = some (setL, e) := vs_settle _ e _
theorem setL_view (s : Nat) (p : List Nat) (i : Nat) : PV.viewL s p i setL = setL := vs_view _ s p _ i
theorem setL_obj : PV.hasObjL setL = false := vs_obj _ _
theorem setL_ment (s : Nat) (t : List Nat → Bool) : PV.mentL s t setL = false := vs_ment _ s t _
theorem setMany_all : ∀ (ys pre cs : List PV), cs.length = ys.length → setMany (pre ++ cs) pre.length ys = pre ++ ys
  | [], pre, cs, h => by
    have : cs = [] := List.eq_nil_of_length_eq_zero (by simpa using h)
    simp [setMany, this]
  | y :: ys, pre, c :: cs, h => by
    have := setMany_all ys (pre ++ [y]) cs (by simpa using h)
    simp only [List.append_assoc, List.singleton_append, List.length_append, List.length_singleton] at this
    rw [setMany, ← this]
    simp
  | y :: ys, pre, [], h => by simp at h
theorem setMany_setL {cs : List PV} (h : cs.length = 256) : setMany cs 0 setL = setL := by
  have := setMany_all setL [] cs (by rw [h, setL_len])
  simpa using this
def nlB (s : ByteArray) : Nat → Nat → Bool
  | 0, _ => false
  | n + 1, k => decide (ch s k = 13) || decide (ch s k = 10) || nlB s n (k + 1)
theorem any_long (s : ByteArray) (hs : s.size ≤ 67108864) : ∀ (n k : Nat), s.size - k = n → k ≤ s.size → ∃ z : Int, decide (0 ≤ z) = nlB s n k ∧
    andThen (inBlock 0 (Exec T l0_strings_IndexAny [(0, .v (.string s)), (6, .box setL), (8, .v (.int .i64 k))])) (Exec T k3_strings_IndexAny) = some (.ret, [(4, .v (.int .i64 z))]) := by
  intro n
  induction n with
  | zero =>
    intro k hn hk
    obtain rfl : k = s.size := by omega
    refine ⟨-1, rfl, ?_⟩
    rw [ex0_strings_IndexAny]
    simp
  | succ n ih =>
    intro k hn hk
    have hlt : k < s.size := by omega
    have hw := wrap_succ hlt (by omega)
    obtain ⟨z, h1, h0⟩ := ih (k + 1) (by omega) (by omega)
    rw [succ_cast] at h0
    obtain ⟨c, hc⟩ : ∃ c, ch s k = c := ⟨_, rfl⟩
    have hc2 := c_contains (ch s k) (ch_small _ _)
    simp only [nlB, hc]
    rw [hc] at hc2
    rw [ex0_strings_IndexAny]
    cases hb : (decide (c = 13) || decide (c = 10)) with
    | true =>
      rw [hb] at hc2
      refine ⟨k, decide_eq_true (by omega), ?_⟩
      simp [hlt, ch_eq, hc, hc2]
    | false =>
      rw [hb] at hc2
      refine ⟨z, by simpa using h1, ?_⟩
      rw [← h0]
      simp [hlt, ch_eq, hc, hc2, hw]
theorem decode_high {s : ByteArray} {i : Nat} (h : ¬ ch s i < 128) : 128 ≤ (Utf8.decode s i).1 := by
  unfold Utf8.decode
  simp only [Nat.add_zero, get_ch]
  rw [if_neg h]
  split
  · split
    · simp only; omega
    · decide
  · split
    · split
      · rename_i h3
        simp only [Bool.and_eq_true, decide_eq_true_eq] at h3
        simp only
        omega
      · decide
    · split
      · split
        · rename_i h3
          simp only [Bool.and_eq_true, decide_eq_true_eq] at h3
          simp only
          omega
        · decide
      · decide
theorem nl_skip (s : ByteArray) : ∀ (w p : Nat), p + w ≤ s.size → (∀ j, p ≤ j → j < p + w → 128 ≤ ch s j) → nlB s (s.size - p) p = nlB s (s.size - (p + w)) (p + w)
  | 0, p, _, _ => rfl
  | w + 1, p, h1, h2 => by
    have h0 := h2 p (by omega) (by omega)
    obtain ⟨m, hm⟩ : ∃ m, s.size - p = m + 1 := ⟨s.size - p - 1, by omega⟩
    rw [hm, nlB, decide_eq_false (by omega), decide_eq_false (by omega), Bool.false_or, Bool.false_or, show m = s.size - (p + 1) by omega, nl_skip s w (p + 1) (by omega) (fun j a b => h2 j (by omega) (by omega)), show p + 1 + w = p + (w + 1) by omega]
theorem dec_cont {s : ByteArray} {p : Nat} (h : ¬ ch s p < 128) : ∀ j, p ≤ j → j < p + decW s p → 128 ≤ ch s j := by
  have two : ∀ j, c2 s j = true → 128 ≤ ch s j := by
    intro j hj
    simp only [c2, Bool.and_eq_true, beq_iff_eq] at hj
    omega
  intro j h1 h2
  rcases Nat.eq_or_lt_of_le h1 with rfl | h1
  · omega
  unfold decW at h2
  rw [if_neg h] at h2
  split at h2
  · rename_i hc
    simp only [Bool.and_eq_true] at hc
    split at h2
    · exact (show j = p + 1 by omega) ▸ two _ hc.2
    · omega
  · split at h2
    · rename_i hc
      simp only [Bool.and_eq_true] at hc
      split at h2
      · have : j = p + 1 ∨ j = p + 2 := by omega
        rcases this with rfl | rfl
        · exact two _ hc.1.2
        · exact two _ hc.2
      · omega
    · split at h2
      · rename_i hc
        simp only [Bool.and_eq_true] at hc
        split at h2
        · have : j = p + 1 ∨ j = p + 2 ∨ j = p + 3 := by omega
          rcases this with rfl | rfl | rfl
          · exact two _ hc.1.1.2
          · exact two _ hc.1.2
          · exact two _ hc.2
        · omega
      · omega
theorem idxRune_crlf (n : Nat) : decide (0 ≤ idxRune ⟨#[13, 10]⟩ n) = (decide (n = 13) || decide (n = 10)) := by
  unfold idxRune
  by_cases h : n < 128
  · rw [if_pos ⟨by omega, by omega⟩, crlf_has]
    have : ((n : Int)).toNat.toUInt8.toNat = n := by simp; omega
    rw [this]
  · rw [if_neg (by omega), decide_eq_false (by omega), decide_eq_false (by omega : ¬ n = 13), decide_eq_false (by omega : ¬ n = 10)]
    rfl
theorem any_short (s : ByteArray) : ∀ (n p : Nat) (e : Env), s.size ≤ p + n → p ≤ s.size → e.get 1 = .v (.string ⟨#[13, 10]⟩) → e.get 45 = .iter s p → ∃ z : Int, decide (0 ≤ z) = nlB s (s.size - p) p ∧
    andThen (inBlock 2 (Exec T l1_strings_IndexAny e)) (Exec T k5_strings_IndexAny) = some (.ret, [(4, .v (.int .i64 z))]) := by
  have done : ∀ (p : Nat) (e : Env), s.size ≤ p → e.get 1 = .v (.string ⟨#[13, 10]⟩) → e.get 45 = .iter s p → ∃ z : Int, decide (0 ≤ z) = nlB s (s.size - p) p ∧
      andThen (inBlock 2 (Exec T l1_strings_IndexAny e)) (Exec T k5_strings_IndexAny) = some (.ret, [(4, .v (.int .i64 z))]) := by
    intro p e hp h1 h2
    refine ⟨-1, by rw [show s.size - p = 0 by omega]; rfl, ?_⟩
    have hn : ¬ p < s.size := by omega
    rw [ex1_strings_IndexAny]
    simp [nextPV, h1, h2, hn]
  intro n
  induction n with
  | zero =>
    intro p e hn hp h1 h2
    exact done p e (by omega) h1 h2
  | succ n ih =>
    intro p e hn hp h1 h2
    by_cases hlt : p < s.size
    · have hw := decW_le s p hlt
      have hd := decode_w s p
      obtain ⟨r, hr⟩ : ∃ r, (Utf8.decode s p).1 = r := ⟨_, rfl⟩
      have hi := c_IndexRune ⟨#[13, 10]⟩ crlf_ascii (by decide) r
      have hz := idxRune_crlf r
      have hnl : nlB s (s.size - p) p = ((decide (r = 13) || decide (r = 10)) || nlB s (s.size - (p + decW s p)) (p + decW s p)) := by
        by_cases h128 : ch s p < 128
        · have e1 := decode_ascii h128
          have e2 : decW s p = 1 := by rw [← hd, e1]
          rw [e1] at hr
          simp only at hr
          obtain ⟨m, hm⟩ : ∃ m, s.size - p = m + 1 := ⟨s.size - p - 1, by omega⟩
          rw [e2, hm, nlB, hr, show m = s.size - (p + 1) by omega]
        · have e1 := decode_high h128
          rw [hr] at e1
          rw [nl_skip s (decW s p) p (by omega) (dec_cont h128), decide_eq_false (by omega : ¬ r = 13), decide_eq_false (by omega : ¬ r = 10)]
          rfl
      rw [ex1_strings_IndexAny]
      cases hb : (decide (r = 13) || decide (r = 10)) with
      | true =>
        rw [hb] at hz hnl
        have hge := of_decide_eq_true hz
        refine ⟨p, by rw [hnl]; exact decide_eq_true (by omega), ?_⟩
        generalize idxRune ⟨#[13, 10]⟩ r = z at hi hge
        simp [nextPV, h1, h2, hlt, hr, hi, hge]
      | false =>
        rw [hb, Bool.false_or] at hnl
        rw [hb] at hz
        have hge := of_decide_eq_false hz
        have hlt2 : idxRune ⟨#[13, 10]⟩ r < 0 := by omega
        obtain ⟨z, z1, z2⟩ := ih (p + decW s p) [(1, .v (.string ⟨#[13, 10]⟩)), (9, .v (.int .i64 p)), (45, .iter s (p + decW s p))] (by omega) (by omega) rfl rfl
        refine ⟨z, by rw [hnl]; exact z1, ?_⟩
        rw [← z2]
        simp [nextPV, h1, h2, hlt, hr, hd, hi, hlt2, hge]
    · exact done p e (by omega) h1 h2
theorem c_IndexAny (s : ByteArray) (hs : s.size ≤ 67108864) : ∃ z : Int, decide (0 ≤ z) = nlB s s.size 0 ∧ Cinf T n_strings_IndexAny [.v (.string s), .v (.string ⟨#[13, 10]⟩)] = some (.v (.int .i64 z), [.dead, .dead]) := by
  have hz : ByteArray.size ⟨#[13, 10]⟩ = 2 := rfl
  have hne : ¬ (⟨#[13, 10]⟩ : ByteArray) = ⟨#[]⟩ := fun h => by cases h
  have hsh : Cinf T n_strings_shouldUseASCIISet [.v (.int .i64 s.size)] = some (.v (.bool (decide (8 < s.size))), [.dead]) := by
    rw [run_strings_shouldUseASCIISet]
    simp [Run]
  by_cases h8 : 8 < s.size
  · obtain ⟨z, h1, h2⟩ := any_long s hs s.size 0 rfl (Nat.zero_le _)
    rw [decide_eq_true h8] at hsh
    simp only [Int.natCast_zero] at h2
    refine ⟨z, h1, ?_⟩
    rw [run_strings_IndexAny]
    simp [Run, hz, hsh, c_makeASCIISet, setL_len, setL_one, setL_view, setL_settle, setL_obj, setL_ment, setMany_setL, h2, -tl3_strings_IndexAny]
  · obtain ⟨z, h1, h2⟩ := any_short s s.size 0 [(1, .v (.string ⟨#[13, 10]⟩)), (45, .iter s 0)] (by omega) (Nat.zero_le _) rfl rfl
    rw [decide_eq_false h8] at hsh
    refine ⟨z, h1, ?_⟩
    rw [run_strings_IndexAny]
    simp [Run, hz, hsh, rangePV, h2, -tl5_strings_IndexAny]
theorem c_ContainsAny (s : ByteArray) (hs : s.size ≤ 67108864) : Cinf T n_strings_ContainsAny [.v (.string s), .v (.string ⟨#[13, 10]⟩)] = some (.v (.bool (nlB s s.size 0)), [.dead, .dead]) := by
  obtain ⟨z, h1, h2⟩ := c_IndexAny s hs
  rw [run_strings_ContainsAny, ← h1]
  simp [Run, h2]
end Go.AM.F
