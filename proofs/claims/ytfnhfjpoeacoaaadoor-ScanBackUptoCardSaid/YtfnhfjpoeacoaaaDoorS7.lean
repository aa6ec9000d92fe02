/- One word of a line. No conditions. -/
import Derived.Test.YtfnhfjpoeacoaaaDoorS6
namespace Go.AM.F
open Go Go.AM
set_option maxRecDepth 10000
set_option linter.unusedSimpArgs false
attribute [local simp] j0_scan_one j1_scan_one w0_scan_one j2_scan_one w1_scan_one j3_scan_one j4_scan_one b_scan_one a_scan_one
theorem and11 : ∀ c < 256, IntKind.u8.wrap (BitVec.ofInt IntKind.u8.bits ((cls c : Nat) : Int) &&& BitVec.ofInt IntKind.u8.bits 11).toNat = ((cls c &&& 11 : Nat) : Int) := by decide +kernel
theorem and14 : ∀ c < 256, IntKind.u8.wrap (BitVec.ofInt IntKind.u8.bits ((cls c : Nat) : Int) &&& BitVec.ofInt IntKind.u8.bits 14).toNat = ((cls c &&& 14 : Nat) : Int) := by decide +kernel
theorem and15 : ∀ c < 256, IntKind.u8.wrap (BitVec.ofInt IntKind.u8.bits ((cls c : Nat) : Int) &&& BitVec.ofInt IntKind.u8.bits 15).toNat = ((cls c &&& 15 : Nat) : Int) := by decide +kernel
theorem or15 : IntKind.u8.wrap (BitVec.ofInt IntKind.u8.bits 11 ||| BitVec.ofInt IntKind.u8.bits 4).toNat = 15 := by decide
/-- Where a name's, a number's bytes end. -/
def noName (s : ByteArray) (j : Nat) : Bool := decide (cls (ch s j) &&& 11 = 0) && !decide (ch s j = 45)
def noNum (s : ByteArray) (j : Nat) : Bool := decide (cls (ch s j) &&& 15 = 0)
inductive WR where
  | word (k : Nat) (t : ByteArray) (e : Nat)
  | err (n p : Nat)
def wordEnd (s : ByteArray) (i k e : Nat) : WR := if 65536 < e - i then .err 4 i else .word k (s.extract i e) e
/-- The word at a place and where it ends; or the fault and its place. -/
def wordAt (s : ByteArray) (i : Nat) : WR :=
  if ch s i = 34 then match quoteAt s i with
    | .inl (t, e) => if 65536 < t.size then .err 4 i else .word 3 t e
    | .inr p => .err 31 p
  else if cls (ch s i) = 1 then wordEnd s i 1 (stop (noName s) (s.size - (i + 1)) (i + 1))
  else if cls (ch s i) &&& 14 ≠ 0 then wordEnd s i 2 (stop (noNum s) (s.size - (i + 1)) (i + 1))
  else if cls (ch s i) = 16 ∨ ch s i = 33 then
    if i + 1 < s.size ∧ ch s (i + 1) = 61 ∧ (ch s i = 60 ∨ ch s i = 62 ∨ ch s i = 33) then wordEnd s i 4 (i + 2)
    else if ch s i = 33 then .err 30 i
    else wordEnd s i 4 (i + 1)
  else .err 30 i
theorem name_loop (s : ByteArray) (hs : s.size ≤ 67108864) (x1 x4 x8 : PV) : ∀ (n k : Nat), s.size - k = n → k ≤ s.size →
    Exec T l0_scan_one [(0, .v (.string s)), (1, x1), (4, x4), (8, x8), (9, .v (.int .i64 k)), (10, .v (.int .u8 11))] = some (.exit 1, [(0, .v (.string s)), (1, x1), (4, x4), (8, x8), (9, .v (.int .i64 (stop (noName s) n k : Nat))), (10, .v (.int .u8 11))]) := by
  intro n
  induction n with
  | zero =>
    intro k hn hk
    obtain rfl : k = s.size := by omega
    rw [ex0_scan_one]
    simp [stop]
  | succ n ih =>
    intro k hn hk
    have hlt : k < s.size := by omega
    have hw := wrap_succ hlt (by omega)
    have h0 := ih (k + 1) (by omega) (by omega)
    rw [succ_cast] at h0
    have hc := c_of (ch s k) (ch_small _ _)
    have ha := and11 (ch s k) (ch_small _ _)
    simp at ha
    rw [ex0_scan_one]
    by_cases h1 : cls (ch s k) &&& 11 = 0
    · by_cases h2 : ch s k = 45
      · rw [h2] at hc ha h1
        simp at hc
        simp [stop, noName, hlt, ch_eq, hc, ha, h1, h2, hw, h0]
      · simp [stop, noName, hlt, ch_eq, hc, ha, h1, h2]
    · simp [stop, noName, hlt, ch_eq, hc, ha, h1, hw, h0]
theorem num_loop (s : ByteArray) (hs : s.size ≤ 67108864) (x1 x4 x8 : PV) : ∀ (n k : Nat), s.size - k = n → k ≤ s.size →
    Exec T l1_scan_one [(0, .v (.string s)), (1, x1), (4, x4), (8, x8), (9, .v (.int .i64 k)), (10, .v (.int .u8 11))] = some (.exit 3, [(0, .v (.string s)), (1, x1), (4, x4), (8, x8), (9, .v (.int .i64 (stop (noNum s) n k : Nat))), (10, .v (.int .u8 11))]) := by
  intro n
  induction n with
  | zero =>
    intro k hn hk
    obtain rfl : k = s.size := by omega
    rw [ex1_scan_one]
    simp [stop]
  | succ n ih =>
    intro k hn hk
    have hlt : k < s.size := by omega
    have hw := wrap_succ hlt (by omega)
    have h0 := ih (k + 1) (by omega) (by omega)
    rw [succ_cast] at h0
    have hc := c_of (ch s k) (ch_small _ _)
    have ha := and15 (ch s k) (ch_small _ _)
    have ho := or15
    simp at ha ho
    rw [ex1_scan_one]
    by_cases h1 : cls (ch s k) &&& 15 = 0
    · simp [stop, noNum, hlt, ch_eq, hc, ha, ho, h1]
    · simp [stop, noNum, hlt, ch_eq, hc, ha, ho, h1, hw, h0]
def oneOK (i : Nat) : WR → Option (PV × List PV) → Prop
  | .word k t e, r => r = some (.tup [.agg [.v (.int .u8 (k : Nat)), .v (.string t), .v (.int .i64 i)], .v (.int .i64 (e : Nat)), .v (.int .i64 0), .v (.int .i64 0)], [.dead, .dead])
  | .err n p, r => ∃ (a b e : Int) (t : ByteArray), r = some (.tup [.agg [.v (.int .u8 a), .v (.string t), .v (.int .i64 b)], .v (.int .i64 e), .v (.int .i64 (n : Nat)), .v (.int .i64 (p : Nat))], [.dead, .dead])
theorem endWord {s : ByteArray} {i k e : Nat} {r : Option (PV × List PV)} (h2 : 65536 + i < e → ∃ (a b e : Int) (t : ByteArray), r = some (.tup [.agg [.v (.int .u8 a), .v (.string t), .v (.int .i64 b)], .v (.int .i64 e), .v (.int .i64 4), .v (.int .i64 (i : Nat))], [.dead, .dead]))
    (h3 : e ≤ 65536 + i → r = some (.tup [.agg [.v (.int .u8 (k : Nat)), .v (.string (s.extract i e)), .v (.int .i64 i)], .v (.int .i64 (e : Nat)), .v (.int .i64 0), .v (.int .i64 0)], [.dead, .dead])) : oneOK i (wordEnd s i k e) r := by
  unfold wordEnd
  split
  · exact h2 (by omega)
  · exact h3 (by omega)
set_option maxHeartbeats 4000000 in
theorem c_one (s : ByteArray) (hs : s.size ≤ 67108864) (i : Nat) (hi : i < s.size) : oneOK i (wordAt s i) (Cinf T n_scan_one [.v (.string s), .v (.int .i64 i)]) := by
  have hw := wrap_succ hi (by omega)
  have hc := c_of (ch s i) (ch_small _ _)
  have ha := and14 (ch s i) (ch_small _ _)
  simp at ha
  rw [run_scan_one]
  unfold wordAt
  by_cases h34 : ch s i = 34
  · have ht := c_text s hs i hi
    have hc' := c_of 34 (by decide)
    simp at hc'
    rw [if_pos h34]
    cases hq : quoteAt s i with
    | inr p =>
      simp only [hq, textR] at ht
      refine ⟨3, i, 0, ⟨#[]⟩, ?_⟩
      simp [Run, hi, ch_eq, h34, hw, hc', ht]
    | inl q =>
      obtain ⟨t, e⟩ := q
      simp only [hq, textR] at ht
      simp only []
      by_cases hl : 65536 < t.size
      · rw [if_pos hl]
        refine ⟨3, i, e, t, ?_⟩
        simp [Run, hi, ch_eq, h34, hw, hc', ht, hl]
      · rw [if_neg hl]
        show _ = _
        simp [Run, hi, ch_eq, h34, hw, hc', ht, hl]
  rw [if_neg h34]
  by_cases h1 : cls (ch s i) = 1
  · rw [if_pos h1]
    have h0 := name_loop s hs (.v (.int .i64 i)) (.box [.v (.int .u8 0), .v (.string ⟨#[]⟩), .v (.int .i64 0)]) (.box [.v (.int .u8 1), .v (.string ⟨#[]⟩), .v (.int .i64 i)]) (s.size - (i + 1)) (i + 1) rfl (by omega)
    have hb := stop_le (noName s) (s.size - (i + 1)) (i + 1)
    generalize stop (noName s) (s.size - (i + 1)) (i + 1) = e at h0 hb ⊢
    have hb1 : i ≤ e := by omega
    have hb2 : e ≤ s.size := by omega
    rw [succ_cast] at h0
    have hx := extract_size s i e hb1 hb2
    refine endWord (fun hl => ⟨1, i, 0, s.extract i e, ?_⟩) fun hl => ?_
    · simp [Run, hi, ch_eq, h34, hw, hc, h1, h0, hb1, hb2, hl]
    · simp [Run, hi, ch_eq, h34, hw, hc, h1, h0, hb1, hb2, hl]
  rw [if_neg h1]
  by_cases h2 : cls (ch s i) &&& 14 = 0
  · rw [if_neg (by simpa using h2)]
    by_cases hm : cls (ch s i) = 16 ∨ ch s i = 33
    · rw [if_pos hm]
      obtain ⟨c, hcc⟩ : ∃ c, ch s i = c := ⟨_, rfl⟩
      rw [hcc] at h34 hc ha h1 h2 hm ⊢
      have hw2 := wrap_add (k := i) 2 (by omega)
      have hw3 : IntKind.i64.wrap ((i : Int) + 1 + 1) = (i : Int) + 2 := by rw [wrap_i64] <;> omega
      have e2 : i + 2 ≤ 65536 + i := by omega
      have e1 : i + 1 ≤ 65536 + i := by omega
      have i1 : i + 1 ≤ s.size := by omega
      by_cases ht : i + 1 < s.size ∧ ch s (i + 1) = 61
      · obtain ⟨l1, d⟩ := ht
        have i2 : i + 2 ≤ s.size := by omega
        by_cases a : c = 60 ∨ c = 62 ∨ c = 33
        · rw [if_pos ⟨l1, d, a⟩]
          have hx := extract_size s i (i + 2) (by omega) i2
          refine endWord (fun hl => absurd hl (by omega)) fun _ => ?_
          rcases a with rfl | rfl | rfl <;> simp at hc ha <;> simp [Run, hi, ch_eq, hcc, hw, hc, h1, ha, h2, l1, d, hw3, i2, eq_true (show cls 60 = 16 from rfl), eq_true (show cls 62 = 16 from rfl), show ¬ cls 33 = 16 by decide]
        · rw [if_neg (fun h => a h.2.2)]
          have a1 : ¬ c = 60 := fun h => a (.inl h)
          have a2 : ¬ c = 62 := fun h => a (.inr (.inl h))
          have a3 : ¬ c = 33 := fun h => a (.inr (.inr h))
          rw [if_neg a3]
          have a4 := hm.resolve_right a3
          refine endWord (fun hl => absurd hl (by omega)) fun _ => ?_
          simp [Run, hi, ch_eq, hcc, h34, hw, hc, h1, ha, h2, l1, d, a1, a2, a3, eq_true a4, i1]
      · rw [if_neg (fun h => ht ⟨h.1, h.2.1⟩)]
        by_cases a3 : c = 33
        · rw [if_pos a3]
          subst a3
          simp at hc ha
          refine ⟨4, i, 0, ⟨#[]⟩, ?_⟩
          by_cases l1 : i + 1 < s.size
          · have d : ¬ ch s (i + 1) = 61 := fun h => ht ⟨l1, h⟩
            simp [Run, hi, ch_eq, hcc, hw, hc, h1, ha, h2, l1, d, show ¬ cls 33 = 16 by decide]
          · simp [Run, hi, ch_eq, hcc, hw, hc, h1, ha, h2, l1, show ¬ cls 33 = 16 by decide]
        · rw [if_neg a3]
          have a4 := hm.resolve_right a3
          refine endWord (fun hl => absurd hl (by omega)) fun _ => ?_
          by_cases l1 : i + 1 < s.size
          · have d : ¬ ch s (i + 1) = 61 := fun h => ht ⟨l1, h⟩
            simp [Run, hi, ch_eq, hcc, h34, hw, hc, h1, ha, h2, l1, d, a3, eq_true a4, i1]
          · simp [Run, hi, ch_eq, hcc, h34, hw, hc, h1, ha, h2, l1, a3, eq_true a4, i1]
    · rw [if_neg hm]
      have m1 : ¬ cls (ch s i) = 16 := fun h => hm (.inl h)
      have m2 : ¬ ch s i = 33 := fun h => hm (.inr h)
      refine ⟨0, i, 0, ⟨#[]⟩, ?_⟩
      simp [Run, hi, ch_eq, h34, hw, hc, h1, ha, h2, m1, m2]
  · rw [if_pos h2]
    have h0 := num_loop s hs (.v (.int .i64 i)) (.box [.v (.int .u8 0), .v (.string ⟨#[]⟩), .v (.int .i64 0)]) (.box [.v (.int .u8 2), .v (.string ⟨#[]⟩), .v (.int .i64 i)]) (s.size - (i + 1)) (i + 1) rfl (by omega)
    have hb := stop_le (noNum s) (s.size - (i + 1)) (i + 1)
    generalize stop (noNum s) (s.size - (i + 1)) (i + 1) = e at h0 hb ⊢
    have hb1 : i ≤ e := by omega
    have hb2 : e ≤ s.size := by omega
    rw [succ_cast] at h0
    have hx := extract_size s i e hb1 hb2
    refine endWord (fun hl => ⟨2, i, 0, s.extract i e, ?_⟩) fun hl => ?_
    · simp [Run, hi, ch_eq, h34, hw, hc, h1, ha, h2, h0, hb1, hb2, hl]
    · simp [Run, hi, ch_eq, h34, hw, hc, h1, ha, h2, h0, hb1, hb2, hl]
end Go.AM.F
