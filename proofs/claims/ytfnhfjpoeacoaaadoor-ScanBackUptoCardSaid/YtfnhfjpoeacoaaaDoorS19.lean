/- Fields of a line: the whole line. No conditions. -/
import Derived.Test.YtfnhfjpoeacoaaaDoorS18
namespace Go.AM.F
open Go Go.AM
set_option maxRecDepth 10000
set_option linter.unusedSimpArgs false
attribute [local simp] j0_scan_Fields j1_scan_Fields j2_scan_Fields j3_scan_Fields j4_scan_Fields w2_scan_Fields j5_scan_Fields j6_scan_Fields j7_scan_Fields w0_scan_Fields j8_scan_Fields b_scan_Fields a_scan_Fields
theorem fq_le {s : ByteArray} : ∀ {n k : Nat} {acc l : List Nat} {e : Nat}, fqFrom s n k acc = .ok l e → k < e ∧ e ≤ s.size ∧ l.length + k < acc.length + e
  | 0, k, acc, l, e, h => by cases h
  | n + 1, k, acc, l, e, h => by
    simp only [fqFrom] at h
    split at h
    · split at h
      · split at h
        · have := fq_le h
          simp at this
          omega
        · cases h; omega
      · have := fq_le h
        simp at this
        omega
    · cases h
def isBy (s : ByteArray) (by_ : Nat) (j : Nat) : Bool := decide (ch s j = by_)
def fieldAt (s : ByteArray) (by_ k : Nat) : (ByteArray × Nat) ⊕ Nat :=
  if k < s.size ∧ ch s k = 34 then match fqFrom s s.size (k + 1) [] with
    | .ok l e => if e < s.size ∧ ch s e ≠ by_ then .inr e else .inl (bytesOf l, e)
    | .bad p => .inr p
    | .over _ => .inr s.size
  else .inl (s.extract k (stop (isBy s by_) (s.size - k) k), stop (isBy s by_) (s.size - k) k)
def fieldsFrom (s : ByteArray) (by_ : Nat) : Nat → Nat → List ByteArray → List ByteArray ⊕ Nat
  | 0, _, _ => .inr 0
  | n + 1, k, acc => match fieldAt s by_ k with
    | .inr p => .inr p
    | .inl (t, e) => if e = s.size then .inl (acc ++ [t]) else fieldsFrom s by_ n (e + 1) (acc ++ [t])
def tl (l : List ByteArray) : List PV := l.map fun t => .v (.string t)
@[simp] theorem tl_nil : tl [] = [] := rfl
@[simp] theorem tl_snoc (l : List ByteArray) (t : ByteArray) : tl (l ++ [t]) = tl l ++ [.v (.string t)] := by simp [tl]
@[simp] theorem tl_length (l : List ByteArray) : (tl l).length = l.length := by simp [tl]
@[simp] theorem byteList_bytes (t : ByteArray) : bytesOfPV (byteList t) = some t.data.toList := by
  unfold byteList
  induction t.data.toList with
  | nil => rfl
  | cons b r ih => simp [bytesOfPV, byteOfPV, ih]
theorem by_loop (s : ByteArray) (hs : s.size ≤ 67108864) (by_ : Nat) (x7 x9 x10 : PV) : ∀ (n k : Nat), s.size - k = n → k ≤ s.size →
    Exec T l2_scan_Fields [(0, .v (.string s)), (1, .v (.int .u8 by_)), (7, x7), (8, .v (.int .i64 k)), (9, x9), (10, x10), (54, .dead), (90, .dead), (95, .dead)] = some (.exit 4, [(0, .v (.string s)), (1, .v (.int .u8 by_)), (7, x7), (8, .v (.int .i64 (stop (isBy s by_) n k : Nat))), (9, x9), (10, x10), (54, .dead), (90, .dead), (95, .dead)]) := by
  intro n
  induction n with
  | zero =>
    intro k hn hk
    obtain rfl : k = s.size := by omega
    rw [ex2_scan_Fields]
    simp [stop]
  | succ n ih =>
    intro k hn hk
    have hlt : k < s.size := by omega
    have hw := wrap_succ hlt (by omega)
    have h0 := ih (k + 1) (by omega) (by omega)
    rw [succ_cast] at h0
    rw [ex2_scan_Fields]
    simp only [stop, isBy]
    obtain ⟨c, hc⟩ : ∃ c, ch s k = c := ⟨_, rfl⟩
    simp only [hc]
    by_cases h1 : c = by_
    · have h2 : (c : Int) = by_ := by omega
      simp [hlt, ch_eq, hc, eq_true h1, eq_true h2]
    · have h2 : ¬ (c : Int) = by_ := by omega
      simp [hlt, ch_eq, hc, eq_false h1, eq_false h2, hw, h0]
def fsR : List ByteArray ⊕ Nat → PV
  | .inl l => .tup [.own 1 (tl l), .v (.int .i64 0), .v (.int .i64 0)]
  | .inr p => .tup [.own 1 [], .v (.int .i64 31), .v (.int .i64 p)]
theorem fields_loop (s : ByteArray) (hs : s.size ≤ 67108864) (by_ : Nat) : ∀ (n k : Nat) (acc : List ByteArray), s.size < k + n → k ≤ s.size → acc.length ≤ k →
    finish a_scan_Fields [.v (.string s), .v (.int .u8 by_)] (inBlock 0 (Exec T l0_scan_Fields [(0, .v (.string s)), (1, .v (.int .u8 by_)), (7, .own 1 (tl acc)), (8, .v (.int .i64 k)), (95, .dead)])) = some (fsR (fieldsFrom s by_ n k acc), [.dead, .dead]) := by
  intro n
  induction n with
  | zero => intro k acc hn hk; omega
  | succ n ih =>
    intro k acc hn hk ha
    have e1 : acc.length + 1 ≤ 8796093022208 := by omega
    have e2 : acc.length ≤ 4611686018427387903 := by omega
    have e3 : (acc.length + 1) * 16 ≤ 140737488355328 := by omega
    -- behind a field that ends at e
    have next : ∀ (t : ByteArray) (e : Nat), k ≤ e → e ≤ s.size → ¬ e = s.size → finish a_scan_Fields [.v (.string s), .v (.int .u8 by_)] (inBlock 0 (Exec T l0_scan_Fields [(0, .v (.string s)), (1, .v (.int .u8 by_)), (7, .own 1 (tl acc ++ [.v (.string t)])), (8, .v (.int .i64 ((e : Int) + 1))), (95, .dead)])) = some (fsR (fieldsFrom s by_ n (e + 1) (acc ++ [t])), [.dead, .dead]) := by
      intro t e h1 h2 h3
      have := ih (e + 1) (acc ++ [t]) (by omega) (by omega) (by simp; omega)
      rwa [succ_cast, tl_snoc] at this
    simp only [fieldsFrom]
    rw [ex0_scan_Fields]
    by_cases hq : k < s.size ∧ ch s k = 34
    · obtain ⟨hlt, h34⟩ := hq
      have hw0 := wrap_succ hlt (by omega)
      have h0 := fq_loop s hs by_ (tl acc) s.size (k + 1) [] (by omega) (by omega) (by simp)
      rw [succ_cast] at h0
      simp only [bl_nil] at h0
      unfold fieldAt
      rw [if_pos ⟨hlt, h34⟩]
      cases hqq : fqFrom s s.size (k + 1) [] with
      | bad p =>
        rw [hqq] at h0
        simp only [fR] at h0
        simp [hlt, ch_eq, h34, hw0, h0, fsR]
      | over l =>
        rw [hqq] at h0
        simp only [fR] at h0
        simp [hlt, ch_eq, h34, hw0, h0, fsR]
      | ok l e =>
        rw [hqq] at h0
        simp only [fR] at h0
        obtain ⟨q1, q2, q3⟩ := fq_le hqq
        have hwe : IntKind.i64.wrap ((e : Int) - 1 + 1) = (e : Int) := by rw [wrap_i64] <;> omega
        have hwe2 : IntKind.i64.wrap (e : Int) = (e : Int) := by rw [wrap_i64] <;> omega
        have hcv : bytesOfPV (bl l) = some (l.map UInt8.ofNat) := bl_bytes l
        simp only []
        by_cases hb : e < s.size ∧ ch s e ≠ by_
        · rw [if_pos hb]
          obtain ⟨hb1, hb2⟩ := hb
          have hb3 : ¬ (ch s e : Int) = by_ := by omega
          simp [hlt, ch_eq, h34, hw0, h0, hwe, hwe2, hb1, eq_false hb2, eq_false hb3, fsR]
        · rw [if_neg hb]
          simp only []
          by_cases he : e = s.size
          · rw [if_pos he]
            have he2 : (e : Int) = s.size := by omega
            have he3 : ¬ e < s.size := by omega
            simp [hlt, ch_eq, h34, hw0, h0, hwe, hwe2, eq_false he3, eq_true he2, e1, e2, e3, fsR, bytesOf]
          · rw [if_neg he, ← next (bytesOf l) e (by omega) q2 he]
            have he2 : ¬ (e : Int) = s.size := by omega
            have he3 : e < s.size := by omega
            have hb2 : ch s e = by_ := by
              by_cases h : ch s e = by_
              · exact h
              · exact absurd ⟨he3, h⟩ hb
            have hb3 : (ch s e : Int) = by_ := by omega
            have hw := wrap_add (k := e) 1 (by omega)
            simp [hlt, ch_eq, h34, hw0, h0, hwe, hwe2, he3, eq_true hb2, eq_true hb3, eq_false he2, e1, e2, e3, hw, bytesOf]
    · have hf : fieldAt s by_ k = .inl (s.extract k (stop (isBy s by_) (s.size - k) k), stop (isBy s by_) (s.size - k) k) := by unfold fieldAt; rw [if_neg hq]
      rw [hf]
      have hb := by_loop s hs by_ (.own 1 (tl acc)) (.own 1 []) (.v (.int .i64 k)) (s.size - k) k rfl hk
      have hst := stop_le (isBy s by_) (s.size - k) k
      generalize stop (isBy s by_) (s.size - k) k = e at hb hst ⊢
      have g1 : k ≤ e := by omega
      have g2 : e ≤ s.size := by omega
      have hx := extract_size s k e g1 g2
      have x1 : e - k ≤ 140737488355328 := by omega
      have x2 : e - k ≤ 4611686018427387904 := by omega
      have hnq : ¬ (k < s.size ∧ ch s k = 34) := hq
      have hlen : (byteList (s.extract k e)).length = e - k := by rw [byteList_length, hx]
      obtain ⟨t, ht⟩ : ∃ t, s.extract k e = t := ⟨_, rfl⟩
      rw [ht] at hlen hx
      have ht2 : (⟨t.data.toList.toArray⟩ : ByteArray) = t := by simp
      simp only [ht]
      by_cases he : e = s.size
      · rw [if_pos he]
        have he2 : (e : Int) = s.size := by omega
        by_cases hlt : k < s.size
        · have h34 : ¬ ch s k = 34 := fun h => hnq ⟨hlt, h⟩
          simp [hlt, ch_eq, h34, hb, g1, g2, ht, hlen, x1, x2, e1, e2, e3, eq_true he2, fsR]
        · simp [hlt, hb, g1, g2, ht, hlen, x1, x2, e1, e2, e3, eq_true he2, fsR]
      · rw [if_neg he, ← next t e g1 g2 he]
        have he2 : ¬ (e : Int) = s.size := by omega
        have hw := wrap_add (k := e) 1 (by omega)
        by_cases hlt : k < s.size
        · have h34 : ¬ ch s k = 34 := fun h => hnq ⟨hlt, h⟩
          simp [hlt, ch_eq, h34, hb, g1, g2, ht, hlen, x1, x2, e1, e2, e3, eq_false he2, hw]
        · simp [hlt, hb, g1, g2, ht, hlen, x1, x2, e1, e2, e3, eq_false he2, hw]
theorem c_Fields (s : ByteArray) (hs : s.size ≤ 67108864) (by_ : Nat) : Cinf T n_scan_Fields [.v (.string s), .v (.int .u8 by_)] = some (if badB by_ = true then .tup [.own 1 [], .v (.int .i64 2), .v (.int .i64 0)] else fsR (fieldsFrom s by_ (s.size + 1) 0 []), [.dead, .dead]) := by
  have h0 := fields_loop s hs by_ (s.size + 1) 0 [] (by omega) (Nat.zero_le _) (Nat.le_refl _)
  simp only [tl_nil, Int.natCast_zero] at h0
  have hb := c_badBy by_
  rw [run_scan_Fields]
  cases h : badB by_ with
  | true =>
    rw [h] at hb
    simp [Run, hb]
  | false =>
    rw [h] at hb
    simp only [Bool.false_eq_true, if_false]
    rw [← h0]
    simp [Run, hb]
end Go.AM.F
