/- Quoted texts. No conditions. -/
import Derived.Test.YtfnhfjpoeacoaaaDoorS4
namespace Go.AM.F
open Go Go.AM
set_option maxRecDepth 10000
set_option linter.unusedSimpArgs false

def bytesOf (l : List Nat) : ByteArray := ⟨(l.map UInt8.ofNat).toArray⟩
def bl (l : List Nat) : List PV := l.map fun c => .v (.int .u8 (c : Nat))
@[simp] theorem bl_nil : bl [] = [] := rfl
@[simp] theorem bl_append (a : List Nat) (c : Nat) : bl (a ++ [c]) = bl a ++ [.v (.int .u8 (c : Nat))] := by simp [bl]
@[simp] theorem bl_length (a : List Nat) : (bl a).length = a.length := by simp [bl]
@[simp] theorem bl_bytes (a : List Nat) : bytesOfPV (bl a) = some (a.map UInt8.ofNat) := by
  unfold bl
  induction a with
  | nil => rfl
  | cons c r ih => simp [bytesOfPV, byteOfPV, ih]
theorem wrap_nat {k : Nat} (h : k ≤ 4611686018427387903) : IntKind.i64.wrap (k : Int) = k := by rw [wrap_i64] <;> omega
theorem escAt_le {s : ByteArray} {i d e : Nat} (h : escAt s i = .inl (d, e)) : i < e ∧ e ≤ s.size ∧ d < 256 := by
  unfold escAt at h
  have hc := ch_small s i
  split at h
  · split at h
    · cases h; omega
    · split at h
      · cases h; omega
      · split at h
        · cases h; omega
        · split at h
          · split at h
            · split at h
              · cases h
              · rename_i a ha
                split at h
                · split at h
                  · cases h
                  · rename_i b hb
                    cases h
                    have := hexN_lt ha
                    have := hexN_lt hb
                    omega
                · cases h
            · cases h
          · cases h
  · cases h
inductive QR where
  | ok (l : List Nat) (e : Nat)
  | bad (p : Nat)
  | over (l : List Nat)
def quoteFrom (s : ByteArray) : Nat → Nat → List Nat → QR
  | 0, _, acc => .over acc
  | f + 1, k, acc => if k < s.size then
      if ch s k = 34 then .ok acc (k + 1)
      else if ch s k = 92 then match escAt s (k + 1) with
        | .inl (d, e) => quoteFrom s f e (acc ++ [d])
        | .inr p => .bad p
      else if ch s k < 32 ∨ ch s k = 127 then .bad k
      else quoteFrom s f (k + 1) (acc ++ [ch s k])
    else .over acc
/-- A quoted text: what it says and where it ends, or the place of the fault. -/
def quoteAt (s : ByteArray) (i : Nat) : (ByteArray × Nat) ⊕ Nat := match quoteFrom s s.size (i + 1) [] with
  | .ok l e => .inl (bytesOf l, e)
  | .bad p => .inr p
  | .over _ => .inr s.size
def textOut (s : ByteArray) : QR → Option (Out × Env)
  | .ok l e => some (.ret, [(4, .v (.string (bytesOf l))), (5, .v (.int .i64 (e : Nat))), (6, .v (.int .i64 0)), (7, .v (.int .i64 0))])
  | .bad p => some (.ret, [(4, .v (.string ⟨#[]⟩)), (5, .v (.int .i64 0)), (6, .v (.int .i64 31)), (7, .v (.int .i64 (p : Nat)))])
  | .over l => some (.exit 0, [(0, .v (.string s)), (8, .own 1 (bl l)), (9, .v (.int .i64 s.size)), (28, .dead), (53, .dead)])
theorem text_loop (s : ByteArray) (hs : s.size ≤ 67108864) : ∀ (n k : Nat) (acc : List Nat), s.size ≤ k + n → k ≤ s.size → acc.length ≤ k →
    Exec T l0_scan_text [(0, .v (.string s)), (8, .own 1 (bl acc)), (9, .v (.int .i64 k)), (28, .dead), (53, .dead)] = textOut s (quoteFrom s n k acc) := by
  intro n
  induction n with
  | zero =>
    intro k acc hn hk ha
    obtain rfl : k = s.size := by omega
    rw [ex0_scan_text]
    simp [w0_scan_text, quoteFrom, textOut]
  | succ n ih =>
    intro k acc hn hk ha
    rw [ex0_scan_text]
    by_cases hlt : k < s.size
    · have hw := wrap_succ hlt (by omega)
      have hb1 : acc.length ≤ 140737488355327 := by omega
      have hb2 : acc.length ≤ 4611686018427387903 := by omega
      by_cases h1 : ch s k = 34
      · simp [w0_scan_text, j2_scan_text, quoteFrom, textOut, hlt, ch_eq, h1, hw, bytesOf]
      by_cases h2 : ch s k = 92
      · have hc := c_escape s hs (k + 1) (by omega)
        rw [succ_cast] at hc
        cases he : escAt s (k + 1) with
        | inr p =>
          rw [he] at hc
          simp only [escR] at hc
          simp [w0_scan_text, j2_scan_text, quoteFrom, textOut, hlt, ch_eq, h1, h2, hw, he, hc]
        | inl q =>
          obtain ⟨d, e⟩ := q
          rw [he] at hc
          simp only [escR] at hc
          obtain ⟨g1, g2, g3⟩ := escAt_le he
          obtain ⟨e', rfl⟩ : ∃ e', e = e' + 1 := ⟨e - 1, by omega⟩
          have h0 := ih (e' + 1) (acc ++ [d]) (by omega) g2 (by simp; omega)
          have hw1 := wrap_nat (k := e') (by omega)
          have hw2 := wrap_add (k := e') 1 (by omega)
          simp only [bl_append, succ_cast] at h0
          simp [w0_scan_text, j2_scan_text, j1_scan_text, j0_scan_text, quoteFrom, hlt, ch_eq, h1, h2, hw, he, hc, hw1, hw2, hb1, hb2, h0]
      by_cases h3 : ch s k < 32
      · simp [w0_scan_text, j2_scan_text, quoteFrom, textOut, hlt, ch_eq, h1, h2, h3]
      by_cases h4 : ch s k = 127
      · simp [w0_scan_text, j2_scan_text, quoteFrom, textOut, hlt, ch_eq, h1, h2, h3, h4]
      · have h0 := ih (k + 1) (acc ++ [ch s k]) (by omega) (by omega) (by simp; omega)
        simp only [bl_append, succ_cast] at h0
        simp [w0_scan_text, j2_scan_text, j1_scan_text, quoteFrom, hlt, ch_eq, h1, h2, h3, h4, hw, hb1, hb2, h0]
    · obtain rfl : k = s.size := by omega
      simp [w0_scan_text, quoteFrom, textOut]
def textR : (ByteArray × Nat) ⊕ Nat → PV
  | .inl (t, e) => .tup [.v (.string t), .v (.int .i64 (e : Nat)), .v (.int .i64 0), .v (.int .i64 0)]
  | .inr p => .tup [.v (.string ⟨#[]⟩), .v (.int .i64 0), .v (.int .i64 31), .v (.int .i64 (p : Nat))]
theorem c_text (s : ByteArray) (hs : s.size ≤ 67108864) (i : Nat) (hi : i < s.size) : Cinf T n_scan_text [.v (.string s), .v (.int .i64 i)] = some (textR (quoteAt s i), [.dead, .dead]) := by
  have h0 := text_loop s hs s.size (i + 1) [] (by omega) (by omega) (by simp)
  have hw := wrap_succ hi (by omega)
  rw [succ_cast] at h0
  simp only [bl_nil] at h0
  unfold quoteAt
  cases hq : quoteFrom s s.size (i + 1) [] with
  | ok l e =>
    rw [hq] at h0
    simp only [textOut] at h0
    simp [run_scan_text, Run, a_scan_text, b_scan_text, hw, h0, textR]
  | bad p =>
    rw [hq] at h0
    simp only [textOut] at h0
    simp [run_scan_text, Run, a_scan_text, b_scan_text, hw, h0, textR]
  | over l =>
    rw [hq] at h0
    simp only [textOut] at h0
    simp [run_scan_text, Run, a_scan_text, b_scan_text, j3_scan_text, hw, h0, textR]
end Go.AM.F
