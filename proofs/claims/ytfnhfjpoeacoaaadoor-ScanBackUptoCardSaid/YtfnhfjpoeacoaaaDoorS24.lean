/- Words and lines that are written out are read again. No conditions. -/
import Derived.Test.YtfnhfjpoeacoaaaDoorS2
import Derived.Test.YtfnhfjpoeacoaaaDoorS14
namespace Go.AM.F
open Go Go.AM
set_option maxRecDepth 10000
set_option linter.unusedSimpArgs false

/-! ### Bytes as numbers -/
def bs (s : ByteArray) : List Nat := s.data.toList.map UInt8.toNat
@[simp] theorem bs_length (s : ByteArray) : (bs s).length = s.size := by simp [bs]
@[simp] theorem bs_append (a b : ByteArray) : bs (a ++ b) = bs a ++ bs b := by
  unfold bs
  rw [ByteArray.data_append, Array.toList_append, List.map_append]
theorem bs_lt (s : ByteArray) : ∀ c ∈ bs s, c < 256 := by
  intro c h
  obtain ⟨b, _, rfl⟩ := List.mem_map.1 h
  exact UInt8.toNat_lt _
theorem bs_get (s : ByteArray) (i : Nat) (h : i < (bs s).length) : (bs s)[i] = ch s i := by
  have h2 : i < s.data.toList.length := by simpa [bs] using h
  simp only [bs, ch, List.getElem_map, List.getD_eq_getElem?_getD, List.getElem?_eq_getElem h2, Option.getD_some]
theorem bytesOf_bs (s : ByteArray) : bytesOf (bs s) = s := by
  unfold bytesOf bs
  rw [List.map_map]
  have h : (UInt8.ofNat ∘ UInt8.toNat) = id := by
    funext x
    simp
  rw [h, List.map_id]
theorem bs_bytesOf {l : List Nat} (h : ∀ c ∈ l, c < 256) : bs (bytesOf l) = l := by
  unfold bytesOf bs
  simp only [List.map_map]
  conv => rhs; rw [← List.map_id l]
  refine List.map_congr_left fun c hc => ?_
  have := h c hc
  simp [Nat.mod_eq_of_lt this]
theorem bs_ext {a b : ByteArray} (h : bs a = bs b) : a = b := by rw [← bytesOf_bs a, h, bytesOf_bs]
/-- These bytes lie at that place. -/
def At (t : ByteArray) (p : Nat) (l : List Nat) : Prop := p + l.length ≤ t.size ∧ ∀ (i : Nat) (h : i < l.length), ch t (p + i) = l[i]
theorem At.left {t : ByteArray} {p : Nat} {a b : List Nat} (h : At t p (a ++ b)) : At t p a := by
  obtain ⟨h1, h2⟩ := h
  rw [List.length_append] at h1
  refine ⟨by omega, fun i hi => ?_⟩
  rw [h2 i (by rw [List.length_append]; omega), List.getElem_append_left hi]
theorem At.right {t : ByteArray} {p : Nat} {a b : List Nat} (h : At t p (a ++ b)) : At t (p + a.length) b := by
  obtain ⟨h1, h2⟩ := h
  rw [List.length_append] at h1
  refine ⟨by omega, fun i hi => ?_⟩
  have := h2 (a.length + i) (by rw [List.length_append]; omega)
  rw [List.getElem_append_right (by omega)] at this
  simpa [Nat.add_assoc] using this
theorem At.head {t : ByteArray} {p c : Nat} {l : List Nat} (h : At t p (c :: l)) : p < t.size ∧ ch t p = c ∧ At t (p + 1) l := by
  have h3 := At.right (a := [c]) (b := l) h
  obtain ⟨h1, h2⟩ := h
  rw [List.length_cons] at h1
  exact ⟨by omega, h2 0 (by simp), h3⟩
theorem At.all (s : ByteArray) : At s 0 (bs s) := ⟨by simp, fun i h => by rw [bs_get s i h, Nat.zero_add]⟩
theorem At.bytes {t w : ByteArray} {p : Nat} (h : At t p (bs w)) : ∀ i, i < w.size → ch t (p + i) = ch w i := by
  intro i hi
  have h2 : i < (bs w).length := by simpa using hi
  rw [h.2 i h2, bs_get w i h2]
theorem At.extract {t w : ByteArray} {p : Nat} (h : At t p (bs w)) : t.extract p (p + w.size) = w := by
  have hs := h.1
  rw [bs_length] at hs
  have h1 : (t.extract p (p + w.size)).size = w.size := by rw [extract_size _ _ _ (by omega) hs]; omega
  refine bytes_ext h1 fun i hi => ?_
  rw [h1] at hi
  rw [ch_extract t p (p + w.size) i (by omega) hs, h.bytes i hi]
theorem stop_eq (p : Nat → Bool) {n k m : Nat} (h1 : k ≤ m) (h2 : m ≤ k + n) (h3 : ∀ j, k ≤ j → j < m → p j = false) (h4 : m < k + n → p m = true) : stop p n k = m := by
  have e := stop_add p n k (m - k) (by omega) (fun i hi hj => h3 i hi (by omega))
  rw [show k + (m - k) = m by omega] at e
  rw [e]
  cases hn : n - (m - k) with
  | zero => rfl
  | succ q => rw [stop, if_pos (h4 (by omega))]

/-! ### Quoted texts -/
theorem hexN_hexd : ∀ a < 16, hexN (hexd a) = some a := by decide
theorem qbyte_pos (c : Nat) : 1 ≤ (qbyte c).length := by
  unfold qbyte
  split
  · simp
  · split
    · simp
    · split
      · simp
      · split <;> simp
theorem hexd_lt : ∀ a < 16, hexd a < 256 := by decide
theorem qbyte_lt {c : Nat} (h : c < 256) : ∀ d ∈ qbyte c, d < 256 := by
  have h1 := hexd_lt (c / 16) (by omega)
  have h2 := hexd_lt (c % 16) (by omega)
  unfold qbyte
  split
  · simp [h]
  · split
    · simp
    · split
      · simp
      · split
        · simp [h1, h2]
        · simp [h]
theorem quoteL_eq (s : ByteArray) : ∀ (n k : Nat) (acc : List Nat), k + n = s.size → quoteL s n k acc = acc ++ ((bs s).drop k).flatMap qbyte
  | 0, k, acc, h => by
    rw [quoteL, List.drop_of_length_le (by simp; omega)]
    simp
  | n + 1, k, acc, h => by
    have hk : k < (bs s).length := by simp; omega
    rw [quoteL, quoteL_eq s n (k + 1) _ (by omega), List.drop_eq_getElem_cons hk, bs_get s k hk]
    simp
theorem bs_quoteOf (s : ByteArray) : bs (quoteOf s) = 34 :: ((bs s).flatMap qbyte ++ [34]) := by
  unfold quoteOf
  rw [quoteL_eq s s.size 0 [34] (by omega), bs_bytesOf]
  · simp
  · intro c hc
    simp only [List.drop_zero, List.cons_append, List.nil_append, List.append_assoc, List.mem_cons, List.mem_append, List.mem_flatMap, List.not_mem_nil, or_false] at hc
    rcases hc with rfl | ⟨d, hd, hc⟩ | rfl
    · decide
    · exact qbyte_lt (bs_lt s d hd) c hc
    · decide
theorem quote_step {t : ByteArray} {n p c : Nat} {acc rest : List Nat} (hc : c < 256) (h : At t p (qbyte c ++ rest)) : quoteFrom t (n + 1) p acc = quoteFrom t n (p + (qbyte c).length) (acc ++ [c]) := by
  unfold qbyte at h ⊢
  by_cases h1 : c = 34 ∨ c = 92
  · rw [if_pos h1] at h ⊢
    obtain ⟨a1, a2, h⟩ := At.head h
    obtain ⟨b1, b2, h⟩ := At.head h
    have he : escAt t (p + 1) = .inl (c, p + 1 + 1) := by rw [escAt, if_pos b1, b2, if_pos h1]
    rw [quoteFrom, if_pos a1, a2, if_neg (by decide), if_pos rfl, he]
    rfl
  rw [if_neg h1] at h ⊢
  by_cases h2 : c = 10
  · subst h2
    rw [if_pos rfl] at h ⊢
    obtain ⟨a1, a2, h⟩ := At.head h
    obtain ⟨b1, b2, h⟩ := At.head h
    have he : escAt t (p + 1) = .inl (10, p + 1 + 1) := by rw [escAt, if_pos b1, b2]; rfl
    rw [quoteFrom, if_pos a1, a2, if_neg (by decide), if_pos rfl, he]
    rfl
  rw [if_neg h2] at h ⊢
  by_cases h3 : c = 9
  · subst h3
    rw [if_pos rfl] at h ⊢
    obtain ⟨a1, a2, h⟩ := At.head h
    obtain ⟨b1, b2, h⟩ := At.head h
    have he : escAt t (p + 1) = .inl (9, p + 1 + 1) := by rw [escAt, if_pos b1, b2]; rfl
    rw [quoteFrom, if_pos a1, a2, if_neg (by decide), if_pos rfl, he]
    rfl
  rw [if_neg h3] at h ⊢
  by_cases h4 : c < 32 ∨ c = 127
  · rw [if_pos h4] at h ⊢
    obtain ⟨a1, a2, h⟩ := At.head h
    obtain ⟨b1, b2, h⟩ := At.head h
    obtain ⟨c1, c2, h⟩ := At.head h
    obtain ⟨d1, d2, h⟩ := At.head h
    have he : escAt t (p + 1) = .inl (c, p + 1 + 3) := by
      rw [escAt, if_pos b1, b2, if_neg (by decide), if_neg (by decide), if_neg (by decide), if_pos rfl, if_pos c1, c2, hexN_hexd _ (by omega)]
      simp only []
      rw [if_pos d1, show p + 1 + 2 = p + 1 + 1 + 1 from rfl, d2, hexN_hexd _ (by omega)]
      simp only []
      rw [show 16 * (c / 16) + c % 16 = c by omega]
    rw [quoteFrom, if_pos a1, a2, if_neg (by decide), if_pos rfl, he]
    rfl
  · rw [if_neg h4] at h ⊢
    obtain ⟨a1, a2, h⟩ := At.head h
    rw [quoteFrom, if_pos a1, a2, if_neg (fun e => h1 (.inl e)), if_neg (fun e => h1 (.inr e)), if_neg h4]
    rfl
theorem quote_all {t : ByteArray} {rest : List Nat} : ∀ (l : List Nat) (n p : Nat) (acc : List Nat), (∀ c ∈ l, c < 256) → At t p (l.flatMap qbyte ++ 34 :: rest) → l.length < n → quoteFrom t n p acc = .ok (acc ++ l) (p + (l.flatMap qbyte).length + 1)
  | [], n, p, acc, _, h, hn => by
    obtain ⟨m, rfl⟩ : ∃ m, n = m + 1 := ⟨n - 1, by simp at hn; omega⟩
    obtain ⟨a1, a2, h⟩ := At.head h
    rw [quoteFrom, if_pos a1, if_pos a2]
    simp
  | c :: l, n, p, acc, hl, h, hn => by
    obtain ⟨m, rfl⟩ : ∃ m, n = m + 1 := ⟨n - 1, by simp at hn; omega⟩
    rw [List.flatMap_cons, List.append_assoc] at h
    rw [quote_step (hl c (by simp)) h, quote_all l m _ _ (fun d hd => hl d (by simp [hd])) (At.right h) (by simp at hn; omega)]
    simp [Nat.add_assoc]
theorem flat_len (l : List Nat) : l.length ≤ (l.flatMap qbyte).length ∧ (l.flatMap qbyte).length ≤ 4 * l.length := by
  induction l with
  | nil => simp
  | cons c l ih =>
    have h1 := qbyte_pos c
    have h2 := qbyte_len c
    rw [List.flatMap_cons, List.length_append, List.length_cons]
    omega
theorem quoteOf_size (s : ByteArray) : s.size + 2 ≤ (quoteOf s).size ∧ (quoteOf s).size ≤ 4 * s.size + 2 := by
  have h := flat_len (bs s)
  rw [bs_length] at h
  rw [← bs_length (quoteOf s), bs_quoteOf]
  simp only [List.length_cons, List.length_append, List.length_nil]
  omega
theorem quoteAt_again {t w : ByteArray} {p : Nat} (h : At t p (bs (quoteOf w))) : ch t p = 34 ∧ quoteAt t p = .inl (w, p + (quoteOf w).size) := by
  have hs := h.1
  have hz := quoteOf_size w
  rw [bs_length] at hs
  have hl := congrArg List.length (bs_quoteOf w)
  simp at hl
  rw [bs_quoteOf] at h
  obtain ⟨a1, a2, h⟩ := At.head h
  refine ⟨a2, ?_⟩
  rw [quoteAt, quote_all (bs w) t.size (p + 1) [] (bs_lt w) h (by rw [bs_length]; omega)]
  simp only [List.nil_append, bytesOf_bs]
  rw [hl]
  simp
  omega
theorem quoteFrom_len {s : ByteArray} : ∀ {n k : Nat} {acc l : List Nat} {e : Nat}, quoteFrom s n k acc = .ok l e → l.length + k + 1 ≤ acc.length + e
  | 0, k, acc, l, e, h => by cases h
  | n + 1, k, acc, l, e, h => by
    simp only [quoteFrom] at h
    split at h
    · split at h
      · cases h; omega
      · split at h
        · split at h
          · rename_i d e' he
            have h1 := quoteFrom_len h
            have h2 := escAt_le he
            simp at h1
            omega
          · cases h
        · split at h
          · cases h
          · have h1 := quoteFrom_len h
            simp at h1
            omega
    · cases h

/-! ### Words -/
def piece (w : WordV) : ByteArray := if w.k = 3 then quoteOf w.t else w.t
def Good (w : WordV) : Prop := ∃ (s : ByteArray) (i e : Nat), i < s.size ∧ wordAt s i = .word w.k w.t e
theorem wordEnd_word {s : ByteArray} {i k e k' e' : Nat} {t : ByteArray} (h : wordEnd s i k e = .word k' t e') : k' = k ∧ e' = e ∧ t = s.extract i e ∧ e ≤ 65536 + i := by
  unfold wordEnd at h
  split at h
  · cases h
  · cases h
    exact ⟨rfl, rfl, rfl, by omega⟩
theorem wordEnd_ok {t w : ByteArray} {p k : Nat} (h : At t p (bs w)) (hw : w.size ≤ 65536) : wordEnd t p k (p + w.size) = .word k w (p + w.size) := by
  unfold wordEnd
  rw [if_neg (by omega), h.extract]
theorem word_again {s t w : ByteArray} {i k e p : Nat} (hi : i < s.size) (h : wordAt s i = .word k w e) (ha : At t p (bs (piece ⟨k, w, 0⟩)))
    (hr : p + (piece ⟨k, w, 0⟩).size = t.size ∨ ch t (p + (piece ⟨k, w, 0⟩).size) = 32) : wordAt t p = .word k w (p + (piece ⟨k, w, 0⟩).size) := by
  have hle := wordAt_le hi h
  unfold wordAt at h
  split at h
  · -- a text
    split at h
    · rename_i t' e' hq
      split at h
      · cases h
      · rename_i hz
        cases h
        simp only [piece, if_true] at ha hr ⊢
        obtain ⟨a1, a2⟩ := quoteAt_again ha
        rw [wordAt, if_pos a1, a2]
        simp only []
        rw [if_neg hz]
    · cases h
  · rename_i h34
    -- what a run of bytes is
    have run : ∀ (no : ByteArray → Nat → Bool), (∀ (a b : ByteArray) (x y : Nat), ch a x = ch b y → no a x = no b y) → (∀ (a : ByteArray) (x : Nat), ch a x = 32 → no a x = true) →
        ∀ {w : ByteArray} {E : Nat}, E = stop (no s) (s.size - (i + 1)) (i + 1) → w = s.extract i E → At t p (bs w) → (p + w.size = t.size ∨ ch t (p + w.size) = 32) →
        w.size = E - i ∧ i < E ∧ ch t p = ch s i ∧ stop (no t) (t.size - (p + 1)) (p + 1) = p + w.size := by
      intro no hno h32 w E hE hw ha hr
      have hs := stop_le (no s) (s.size - (i + 1)) (i + 1)
      have hn := stop_not (no s) (s.size - (i + 1)) (i + 1)
      rw [← hE] at hs hn
      have hz : w.size = E - i := by rw [hw, extract_size s i E (by omega) (by omega)]
      have hb := ha.bytes
      have hsz := ha.1
      rw [bs_length] at hsz
      have hcw : ∀ j, j < w.size → ch t (p + j) = ch s (i + j) := by
        intro j hj
        rw [hb j hj, hw, ch_extract s i E j (by omega) (by omega)]
      refine ⟨hz, by omega, hcw 0 (by omega), ?_⟩
      refine stop_eq _ (by omega) (by omega) (fun j h1 h2 => ?_) (fun h1 => ?_)
      · have := hcw (j - p) (by omega)
        rw [show p + (j - p) = j by omega] at this
        rw [hno t s j (i + (j - p)) this]
        exact hn _ (by omega) (by omega)
      · rcases hr with hr | hr
        · omega
        · exact h32 t _ hr
    have nN : ∀ (a b : ByteArray) (x y : Nat), ch a x = ch b y → noName a x = noName b y := fun a b x y h => by rw [noName, noName, h]
    have nN32 : ∀ (a : ByteArray) (x : Nat), ch a x = 32 → noName a x = true := fun a x h => by rw [noName, h]; decide
    have nM : ∀ (a b : ByteArray) (x y : Nat), ch a x = ch b y → noNum a x = noNum b y := fun a b x y h => by rw [noNum, noNum, h]
    have nM32 : ∀ (a : ByteArray) (x : Nat), ch a x = 32 → noNum a x = true := fun a x h => by rw [noNum, h]; decide
    split at h
    · rename_i h1
      obtain ⟨rfl, rfl, rfl, hz⟩ := wordEnd_word h
      simp only [piece, show ¬ (1 : Nat) = 3 by decide, if_false] at ha hr ⊢
      obtain ⟨g1, g2, g3, g4⟩ := run noName nN nN32 rfl rfl ha hr
      rw [wordAt, g3, if_neg h34, if_pos h1, g4, wordEnd_ok ha (by omega)]
    · rename_i h1
      split at h
      · rename_i h2
        obtain ⟨rfl, rfl, rfl, hz⟩ := wordEnd_word h
        simp only [piece, show ¬ (2 : Nat) = 3 by decide, if_false] at ha hr ⊢
        obtain ⟨g1, g2, g3, g4⟩ := run noNum nM nM32 rfl rfl ha hr
        rw [wordAt, g3, if_neg h34, if_neg h1, if_pos h2, g4, wordEnd_ok ha (by omega)]
      · rename_i h2
        split at h
        · rename_i h3
          split at h
          · rename_i h4
            obtain ⟨rfl, rfl, rfl, hz⟩ := wordEnd_word h
            simp only [piece, show ¬ (4 : Nat) = 3 by decide, if_false] at ha hr ⊢
            have hz : (s.extract i (i + 2)).size = 2 := by rw [extract_size s i (i + 2) (by omega) (by omega)]; omega
            have c0 := ha.bytes 0 (by omega)
            have c1 := ha.bytes 1 (by omega)
            rw [ch_extract s i (i + 2) 0 (by omega) (by omega)] at c0
            rw [ch_extract s i (i + 2) 1 (by omega) (by omega)] at c1
            have hsz := ha.1
            rw [bs_length] at hsz
            simp only [Nat.add_zero] at c0
            have e := wordEnd_ok (k := 4) ha (by omega)
            rw [hz] at e hsz ⊢
            rw [wordAt, c0, if_neg h34, if_neg h1, if_neg h2, if_pos h3, if_pos ⟨by omega, by rw [c1]; exact h4.2.1, h4.2.2⟩, e]
          · rename_i h4
            split at h
            · cases h
            · rename_i h5
              obtain ⟨rfl, rfl, rfl, hz⟩ := wordEnd_word h
              simp only [piece, show ¬ (4 : Nat) = 3 by decide, if_false] at ha hr ⊢
              have hz : (s.extract i (i + 1)).size = 1 := by rw [extract_size s i (i + 1) (by omega) (by omega)]; omega
              have c0 := ha.bytes 0 (by omega)
              rw [ch_extract s i (i + 1) 0 (by omega) (by omega)] at c0
              have hsz := ha.1
              rw [bs_length] at hsz
              simp only [Nat.add_zero] at c0
              have e := wordEnd_ok (k := 4) ha (by omega)
              rw [hz] at e hsz hr ⊢
              rw [wordAt, c0, if_neg h34, if_neg h1, if_neg h2, if_pos h3, if_neg, if_neg h5, e]
              rintro ⟨q1, q2, _⟩
              rcases hr with hr | hr
              · omega
              · rw [q2] at hr; cases hr
        · cases h
theorem wordAt_start {t w : ByteArray} {q k e : Nat} (h : wordAt t q = .word k w e) : ch t q ≠ 35 ∧ cls (ch t q) ≠ 32 := by
  refine ⟨fun hc => ?_, fun hc => ?_⟩
  · rw [wordAt, hc, if_neg (by decide), if_neg (by decide), if_neg (by decide), if_neg (by decide)] at h
    cases h
  · have h34 : ¬ ch t q = 34 := fun e => by rw [e] at hc; revert hc; decide
    have h33 : ¬ ch t q = 33 := fun e => by rw [e] at hc; revert hc; decide
    rw [wordAt, if_neg h34, hc, if_neg (by decide), if_neg (by decide), if_neg (by simp [h33])] at h
    cases h
def outs : List WordV → List Nat
  | [] => []
  | w :: r => 32 :: (bs (piece w) ++ outs r)
theorem piece_at (w : WordV) : piece w = piece ⟨w.k, w.t, 0⟩ := rfl
theorem piece_pos {w : WordV} (h : Good w) : 1 ≤ (piece w).size := by
  obtain ⟨s, i, e, hi, h⟩ := h
  have hle := wordAt_le hi h
  unfold piece
  split
  · have := quoteOf_size w.t
    omega
  · rename_i h3
    have fin : ∀ {k E : Nat}, wordEnd s i k E = .word w.k w.t e → 1 ≤ w.t.size := by
      intro k E h
      obtain ⟨_, rfl, h2, _⟩ := wordEnd_word h
      rw [h2, extract_size s i e (by omega) (by omega)]
      omega
    unfold wordAt at h
    split at h
    · split at h
      · split at h
        · cases h
        · simp only [WR.word.injEq] at h
          exact (h3 h.1.symm).elim
      · cases h
    · split at h
      · exact fin h
      · split at h
        · exact fin h
        · split at h
          · split at h
            · exact fin h
            · split at h
              · cases h
              · exact fin h
          · cases h
theorem words_again {t : ByteArray} : ∀ (r : List WordV) (p m : Nat) (acc : List WordV), (∀ w ∈ r, Good w) → At t p (outs r) → p + (outs r).length = t.size → t.size ≤ p + m →
    ∃ r' : List WordV, wordsFrom t m p acc = .ok (acc ++ r') ∧ r'.map (fun w => (w.k, w.t)) = r.map fun w => (w.k, w.t)
  | [], p, m, acc, _, _, hp, _ => by
    refine ⟨[], ?_, rfl⟩
    simp only [outs, List.length_nil, Nat.add_zero] at hp
    cases m with
    | zero => simp [wordsFrom]
    | succ m => rw [wordsFrom, if_neg (by omega), List.append_nil]
  | w :: r, p, m, acc, hg, h, hp, hm => by
    have g := hg w (by simp)
    have hpos := piece_pos g
    rw [outs] at h hp
    obtain ⟨a1, a2, h⟩ := At.head h
    have h1 := At.left h
    have h2 := At.right h
    rw [bs_length] at h2
    simp only [List.length_cons, List.length_append, bs_length] at hp
    have hend : p + 1 + (piece w).size = t.size ∨ ch t (p + 1 + (piece w).size) = 32 := by
      cases r with
      | nil => exact .inl (by simp [outs] at hp; omega)
      | cons w' r' =>
        rw [outs] at h2
        exact .inr (At.head h2).2.1
    obtain ⟨s, i, e, hi, hw⟩ := g
    have ha := word_again hi hw h1 hend
    obtain ⟨q1, q2⟩ := wordAt_start ha
    obtain ⟨n, rfl⟩ : ∃ n, m = n + 1 + 1 := ⟨m - 2, by omega⟩
    obtain ⟨r', e1, e2⟩ := words_again r (p + 1 + (piece w).size) n (acc ++ [⟨w.k, w.t, p + 1⟩]) (fun x hx => hg x (by simp [hx])) h2 (by omega) (by omega)
    refine ⟨⟨w.k, w.t, p + 1⟩ :: r', ?_, by simp [e2]⟩
    rw [wordsFrom, if_pos ⟨a1, by rw [a2]; decide⟩, a2, if_pos (by decide), wordsFrom, if_pos ⟨by omega, q1⟩, if_neg q2, ha]
    simp only []
    rw [← piece_at, e1]
    simp
theorem piece_len {s w : ByteArray} {i k e : Nat} (hi : i < s.size) (h : wordAt s i = .word k w e) : 1 + (piece ⟨k, w, 0⟩).size + 5 * i ≤ 5 * e := by
  have hle := wordAt_le hi h
  have fin : ∀ {k' E : Nat}, k' ≠ 3 → wordEnd s i k' E = .word k w e → 1 + (piece ⟨k, w, 0⟩).size + 5 * i ≤ 5 * e := by
    intro k' E hk h
    obtain ⟨rfl, rfl, rfl, _⟩ := wordEnd_word h
    simp only [piece, if_neg hk]
    rw [extract_size s i e (by omega) (by omega)]
    omega
  unfold wordAt at h
  split at h
  · split at h
    · rename_i t' e' hq
      split at h
      · cases h
      · cases h
        unfold quoteAt at hq
        split at hq
        · rename_i l e'' hl
          have := quoteFrom_len hl
          cases hq
          simp only [piece, if_true]
          have hz := quoteOf_size (bytesOf l)
          have hb : (bytesOf l).size = l.length := by simp [bytesOf, ByteArray.size]
          simp at this
          omega
        · cases hq
        · cases hq
    · cases h
  · split at h
    · exact fin (by decide) h
    · split at h
      · exact fin (by decide) h
      · split at h
        · split at h
          · exact fin (by decide) h
          · split at h
            · cases h
            · exact fin (by decide) h
        · cases h
theorem words_good {s : ByteArray} : ∀ (n i : Nat) (acc l : List WordV), i ≤ s.size → wordsFrom s n i acc = .ok l → ∃ r, l = acc ++ r ∧ (∀ w ∈ r, Good w) ∧ (outs r).length + 5 * i ≤ 5 * s.size
  | 0, i, acc, l, hi, h => by
    simp only [wordsFrom, WsR.ok.injEq] at h
    exact ⟨[], by simp [h], by simp, by simp [outs]; omega⟩
  | n + 1, i, acc, l, hi, h => by
    rw [wordsFrom] at h
    split at h
    · rename_i hc
      split at h
      · obtain ⟨r, h1, h2, h3⟩ := words_good n (i + 1) acc l (by omega) h
        exact ⟨r, h1, h2, by omega⟩
      · split at h
        · cases h
        · rename_i k t e hw
          have hle := wordAt_le hc.1 hw
          have hp := piece_len hc.1 hw
          obtain ⟨r, h1, h2, h3⟩ := words_good n e _ l (by omega) h
          refine ⟨⟨k, t, i⟩ :: r, by simp [h1], fun w hm => ?_, ?_⟩
          · rcases List.mem_cons.1 hm with rfl | hm
            · exact ⟨s, i, e, hc.1, hw⟩
            · exact h2 w hm
          · have he : (piece ⟨k, t, i⟩).size = (piece ⟨k, t, 0⟩).size := rfl
            rw [outs, List.length_cons, List.length_append, bs_length, he]
            omega
    · simp only [WsR.ok.injEq] at h
      exact ⟨[], by simp [h], by simp, by simp [outs]; omega⟩
theorem words_blank {s : ByteArray} : ∀ (n k : Nat) (acc l : List WordV), k + n = s.size → wordsFrom s n k acc = .ok l → blankAll s n k = decide (l.length = acc.length)
  | 0, k, acc, l, hk, h => by
    simp only [wordsFrom, WsR.ok.injEq] at h
    subst h
    simp [blankAll]
  | n + 1, k, acc, l, hk, h => by
    rw [wordsFrom] at h
    rw [blankAll]
    by_cases h35 : ch s k = 35
    · rw [if_neg (fun h => h.2 h35)] at h
      simp only [WsR.ok.injEq] at h
      subst h
      simp [h35]
    · rw [if_pos ⟨by omega, h35⟩] at h
      by_cases h32 : cls (ch s k) = 32
      · rw [if_pos h32] at h
        rw [words_blank n (k + 1) acc l (by omega) h]
        simp [h35, h32]
      · rw [if_neg h32] at h
        split at h
        · cases h
        · rename_i q t e hw
          have hle := wordAt_le (by omega) hw
          obtain ⟨r, h1, _⟩ := words_good n e _ l (by omega) h
          simp [h35, h32, h1]

/-! ### Lines -/
def rowsV (s : ByteArray) : Nat → Nat → Nat → List RowV
  | 0, _, _ => []
  | f + 1, k, c => if k < s.size then ⟨c + 1, k, s.extract k (rowEnd s k)⟩ :: rowsV s f (rowNext s (rowEnd s k)) (c + 1) else []
theorem rowsV_pv (s : ByteArray) : ∀ (f k c : Nat), rowsFrom s f k c = (rowsV s f k c).map RowV.pv
  | 0, k, c => rfl
  | f + 1, k, c => by
    rw [rowsFrom, rowsV]
    split
    · rw [List.map_cons, rowsV_pv s f]
      rfl
    · rfl
def outR : List RowV → List Nat
  | [] => []
  | r :: l => bs r.t ++ 10 :: outR l
structure RowIs (s : ByteArray) (j : Nat) (r : RowV) : Prop where
  n : r.n = j + 1
  fits : r.at_ + r.t.size ≤ s.size
  cut : s.extract r.at_ (r.at_ + r.t.size) = r.t
  line : ∀ i, i < r.t.size → lineEnd r.t i = false
theorem rowsV_is (s : ByteArray) : ∀ (f k c j : Nat) (h : j < (rowsV s f k c).length), RowIs s (c + j) ((rowsV s f k c)[j])
  | 0, k, c, j, h => by simp [rowsV] at h
  | f + 1, k, c, j, h => by
    rw [rowsV] at h
    simp only [rowsV]
    by_cases hk : k < s.size
    · simp only [if_pos hk] at h ⊢
      cases j with
      | zero =>
        have he := rowEnd_le s k (by omega)
        have hz := extract_size s k (rowEnd s k) he.1 he.2
        refine ⟨rfl, ?_, ?_, fun i hi => ?_⟩
        · simp only [List.getElem_cons_zero]
          omega
        · simp only [List.getElem_cons_zero]
          rw [hz, show k + (rowEnd s k - k) = rowEnd s k by omega]
        · simp only [List.getElem_cons_zero] at hi ⊢
          rw [hz] at hi
          have := stop_not (lineEnd s) (s.size - k) k (k + i) (by omega) (by change k + i < rowEnd s k; omega)
          rw [lineEnd, ch_extract s k (rowEnd s k) i (by omega) he.2]
          exact this
      | succ j =>
        simp only [List.getElem_cons_succ]
        have := rowsV_is s f (rowNext s (rowEnd s k)) (c + 1) j (by simpa using h)
        rw [show c + 1 + j = c + (j + 1) by omega] at this
        exact this
    · simp [if_neg hk] at h
theorem rowsV_len (s : ByteArray) : ∀ (f k c : Nat), k ≤ s.size + 1 → (rowsV s f k c).length + k ≤ s.size + 1 ∧ (outR (rowsV s f k c)).length + k ≤ s.size + 1
  | 0, k, c, h => by simp [rowsV, outR]; omega
  | f + 1, k, c, h => by
    simp only [rowsV]
    split
    · rename_i hk
      have he := rowEnd_le s k (by omega)
      have hn := rowNext_le s (rowEnd s k)
      have hk2 : rowNext s (rowEnd s k) ≤ s.size + 1 := by
        by_cases h2 : rowEnd s k < s.size
        · have := hn.2.1 h2
          omega
        · have h3 : rowNext s (rowEnd s k) = rowEnd s k + 1 := by rw [rowNext, if_neg (by omega)]
          omega
      have ih := rowsV_len s f (rowNext s (rowEnd s k)) (c + 1) hk2
      have hz := extract_size s k (rowEnd s k) he.1 he.2
      simp only [List.length_cons, outR, List.length_append, bs_length]
      omega
    · simp [outR]; omega
theorem rows_again {t : ByteArray} : ∀ (l : List RowV) (p f c : Nat), (∀ r ∈ l, ∀ i, i < r.t.size → lineEnd r.t i = false) → At t p (outR l) → p + (outR l).length = t.size → t.size ≤ p + f → (rowsV t f p c).map RowV.t = l.map RowV.t
  | [], p, f, c, _, _, hp, _ => by
    simp only [outR, List.length_nil, Nat.add_zero] at hp
    cases f with
    | zero => rfl
    | succ f => rw [rowsV, if_neg (by omega)]
  | r :: l, p, f, c, hl, h, hp, hf => by
    rw [outR] at h hp
    have h1 := At.left h
    obtain ⟨a1, a2, h2⟩ := At.head (At.right h)
    rw [bs_length] at a1 a2 h2
    simp only [List.length_cons, List.length_append, bs_length] at hp
    obtain ⟨g, rfl⟩ : ∃ g, f = g + 1 := ⟨f - 1, by omega⟩
    have he : rowEnd t p = p + r.t.size := by
      refine rowEnd_eq t (by omega) (by omega) (fun j j1 j2 => ?_) (fun _ => by rw [lineEnd, a2]; rfl)
      have := h1.bytes (j - p) (by omega)
      rw [show p + (j - p) = j by omega] at this
      rw [lineEnd, this]
      exact hl r (by simp) (j - p) (by omega)
    have hn : rowNext t (p + r.t.size) = p + r.t.size + 1 := by rw [rowNext, a2, if_neg (by simp)]
    rw [rowsV, if_pos (by omega), he, hn, h1.extract, List.map_cons, List.map_cons, rows_again l _ g (c + 1) (fun x hx => hl x (by simp [hx])) h2 (by omega) (by omega)]
end Go.AM.F
