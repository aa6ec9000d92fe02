/- Fields of a line, as the document has them. No conditions. -/
import Derived.Test.YtfnhfjpoeacoaaaDoorS19
namespace Go.AM.F
open Go Go.AM
set_option maxRecDepth 10000
set_option linter.unusedSimpArgs false
attribute [local simp] j0_thicketref03_Fields j1_thicketref03_Fields w1_thicketref03_Fields j2_thicketref03_Fields j3_thicketref03_Fields w2_thicketref03_Fields j4_thicketref03_Fields j5_thicketref03_Fields w0_thicketref03_Fields j6_thicketref03_Fields b_thicketref03_Fields a_thicketref03_Fields
def chs (s : ByteArray) : Nat → Nat → List Nat
  | 0, _ => []
  | n + 1, k => ch s k :: chs s n (k + 1)
theorem chs_get (s : ByteArray) : ∀ (n k i : Nat), i < n → (chs s n k)[i]? = some (ch s (k + i))
  | 0, k, i, h => by omega
  | n + 1, k, 0, h => by simp [chs]
  | n + 1, k, i + 1, h => by
    simp only [chs, List.getElem?_cons_succ]
    rw [chs_get s n (k + 1) i (by omega)]
    congr 2
    omega
theorem chs_len (s : ByteArray) : ∀ (n k : Nat), (chs s n k).length = n
  | 0, k => rfl
  | n + 1, k => by simp [chs, chs_len s n]
theorem bytesOf_chs (s : ByteArray) {k e : Nat} (h1 : k ≤ e) (h2 : e ≤ s.size) : bytesOf (chs s (e - k) k) = s.extract k e := by
  have hsz : (bytesOf (chs s (e - k) k)).size = e - k := by
    unfold bytesOf
    show ((chs s (e - k) k).map UInt8.ofNat).toArray.size = _
    simp [chs_len]
  refine bytes_ext (by rw [hsz, extract_size s k e h1 h2]) fun i hi => ?_
  rw [hsz] at hi
  rw [ch_extract s k e i (by omega) h2]
  unfold bytesOf
  show (((chs s (e - k) k).map UInt8.ofNat).toArray.toList.getD i 0).toNat = _
  have h := chs_get s (e - k) k i hi
  have hc := ch_small s (k + i)
  simp [List.getD_eq_getElem?_getD, h]
  omega
def rfR (s : ByteArray) (by_ : Nat) (x7 : PV) : QR → Option (Out × Env)
  | .ok l e => some (.exit 2, [(0, .v (.string s)), (1, .v (.int .u8 by_)), (7, x7), (8, .v (.int .i64 (e : Int))), (9, .own 1 (bl l)), (59, .dead), (90, .dead), (97, .dead)])
  | .bad p => some (.ret, [(4, .own 1 []), (5, .v (.int .i64 31)), (6, .v (.int .i64 p)), (7, x7), (97, .dead), (102, .dead)])
  | .over _ => some (.ret, [(4, .own 1 []), (5, .v (.int .i64 31)), (6, .v (.int .i64 s.size)), (7, x7), (97, .dead), (102, .dead)])
theorem rfq_loop (s : ByteArray) (hs : s.size ≤ 67108864) (by_ : Nat) (ts : List PV) : ∀ (n k : Nat) (acc : List Nat), s.size ≤ k + n → k ≤ s.size → acc.length ≤ k →
    Exec T l1_thicketref03_Fields [(0, .v (.string s)), (1, .v (.int .u8 by_)), (7, .own 1 ts), (8, .v (.int .i64 k)), (9, .own 1 (bl acc)), (59, .dead), (90, .dead), (97, .dead)] = rfR s by_ (.own 1 ts) (fqFrom s n k acc) := by
  intro n
  induction n with
  | zero =>
    intro k acc hn hk ha
    obtain rfl : k = s.size := by omega
    rw [ex1_thicketref03_Fields]
    simp [fqFrom, rfR]
  | succ n ih =>
    intro k acc hn hk ha
    rw [ex1_thicketref03_Fields]
    by_cases hlt : k < s.size
    · have hw := wrap_succ hlt (by omega)
      have e1 : acc.length ≤ 140737488355327 := by omega
      have e2 : acc.length ≤ 4611686018427387903 := by omega
      have nl : ¬ s.size ≤ k := by omega
      by_cases h34 : ch s k = 34
      · by_cases l1 : k + 1 < s.size
        · have nl1 : ¬ s.size ≤ k + 1 := by omega
          by_cases d : ch s (k + 1) = 34
          · have h0 := ih (k + 1 + 1) (acc ++ [34]) (by omega) (by omega) (by simp; omega)
            have hw2 : IntKind.i64.wrap ((k : Int) + 1 + 1) = (k : Int) + 1 + 1 := by rw [wrap_i64] <;> omega
            simp only [fqFrom, if_pos hlt, if_pos h34, if_pos (And.intro l1 d)]
            rw [succ_cast, succ_cast] at h0
            simp only [bl_append] at h0
            rw [← h0]
            simp [hlt, nl, ch_eq, h34, l1, nl1, d, hw, hw2, e1, e2]
          · simp [fqFrom, rfR, hlt, nl, ch_eq, h34, l1, nl1, d, hw, succ_cast]
        · have l2 : s.size ≤ k + 1 := by omega
          simp [fqFrom, rfR, hlt, nl, ch_eq, h34, l1, l2, hw, succ_cast]
      · have h0 := ih (k + 1) (acc ++ [ch s k]) (by omega) (by omega) (by simp; omega)
        rw [succ_cast] at h0
        simp only [bl_append] at h0
        simp [fqFrom, hlt, nl, ch_eq, h34, hw, e1, e2, h0]
    · obtain rfl : k = s.size := by omega
      simp [fqFrom, rfR]
theorem rby_loop (s : ByteArray) (hs : s.size ≤ 67108864) (by_ : Nat) (x7 : PV) (m7 : ∀ s t, PV.ment s t x7 = false) : ∀ (n k : Nat) (acc : List Nat), s.size - k = n → k ≤ s.size → acc.length ≤ k →
    Exec T l2_thicketref03_Fields [(0, .v (.string s)), (1, .v (.int .u8 by_)), (7, x7), (8, .v (.int .i64 k)), (9, .own 1 (bl acc)), (59, .dead), (90, .dead), (97, .dead)] = some (.exit 4, [(0, .v (.string s)), (1, .v (.int .u8 by_)), (7, x7), (8, .v (.int .i64 (stop (isBy s by_) n k : Nat))), (9, .own 1 (bl (acc ++ chs s (stop (isBy s by_) n k - k) k))), (59, .dead), (90, .dead), (97, .dead)]) := by
  intro n
  induction n with
  | zero =>
    intro k acc hn hk ha
    obtain rfl : k = s.size := by omega
    rw [ex2_thicketref03_Fields]
    simp [stop, chs]
  | succ n ih =>
    intro k acc hn hk ha
    have hlt : k < s.size := by omega
    have hw := wrap_succ hlt (by omega)
    have h0 := ih (k + 1) (acc ++ [ch s k]) (by omega) (by omega) (by simp; omega)
    have hst := stop_le (isBy s by_) n (k + 1)
    have e1 : acc.length ≤ 140737488355327 := by omega
    have e2 : acc.length ≤ 4611686018427387903 := by omega
    rw [ex2_thicketref03_Fields]
    simp only [stop, isBy]
    by_cases h1 : ch s k = by_
    · have h2 : (ch s k : Int) = by_ := by omega
      simp [hlt, ch_eq, eq_true h1, eq_true h2, chs]
    · have h2 : ¬ (ch s k : Int) = by_ := by omega
      rw [succ_cast] at h0
      have hch : chs s (stop (isBy s by_) n (k + 1) - k) k = ch s k :: chs s (stop (isBy s by_) n (k + 1) - (k + 1)) (k + 1) := by
        rw [show stop (isBy s by_) n (k + 1) - k = (stop (isBy s by_) n (k + 1) - (k + 1)) + 1 by omega]
        rfl
      simp only [List.append_assoc, List.singleton_append, ← hch, bl_append] at h0
      have hib : (fun j => decide (ch s j = by_)) = isBy s by_ := rfl
      simp [hlt, ch_eq, eq_false h1, eq_false h2, hw, e1, e2, m7, hib, h0]
end Go.AM.F
