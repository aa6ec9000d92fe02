/- Every Fields and Join; what is quoted or joined is read as it was. No conditions. -/
import Derived.Test.YtfnhfjpoeacoaaaDoorS0
import Derived.Test.YtfnhfjpoeacoaaaDoorS21
import Derived.Test.YtfnhfjpoeacoaaaDoorS22
import Derived.Test.YtfnhfjpoeacoaaaDoorS28
namespace Go.AM.F
open Go Go.AM
set_option maxRecDepth 10000
set_option linter.unusedSimpArgs false
attribute [local simp] b_thicketlaw03_ScanFields a_thicketlaw03_ScanFields
attribute [local simp] j0_thicketlaw03_ScanBack j1_thicketlaw03_ScanBack j2_thicketlaw03_ScanBack b_thicketlaw03_ScanBack a_thicketlaw03_ScanBack
theorem fieldsFrom_cnt (s : ByteArray) (y : Nat) : ∀ (n k : Nat) (acc l : List ByteArray), fieldsFrom s y n k acc = .inl l → l.length ≤ acc.length + n := by
  intro n
  induction n with
  | zero =>
    intro k acc l h
    rw [fieldsFrom] at h
    cases h
  | succ n ih =>
    intro k acc l h
    rw [fieldsFrom] at h
    split at h
    · cases h
    · split at h
      · cases h
        simp
      · have := ih _ _ _ h
        simp at this
        omega
theorem fields_some (s : ByteArray) (y : Nat) : ∃ (l : List ByteArray) (e p : Int), (if badB y = true then .tup [.own 1 [], .v (.int .i64 2), .v (.int .i64 0)] else fsR (fieldsFrom s y (s.size + 1) 0 [])) = PV.tup [.own 1 (tl l), .v (.int .i64 e), .v (.int .i64 p)] ∧ l.length ≤ s.size + 1 := by
  split
  · exact ⟨[], _, _, rfl, by simp⟩
  · cases hf : fieldsFrom s y (s.size + 1) 0 [] with
    | inl l => exact ⟨l, _, _, rfl, by have := fieldsFrom_cnt s y _ _ _ _ hf; simpa using this⟩
    | inr p => exact ⟨[], _, _, rfl, by simp⟩
theorem joinR_is (y : Nat) (l : List ByteArray) : ∃ (t : ByteArray) (e : Int), joinR y l = .tup [.v (.string t), .v (.int .i64 e)] := by
  unfold joinR
  split
  · exact ⟨_, _, rfl⟩
  · split
    · exact ⟨_, _, rfl⟩
    · split
      · exact ⟨_, _, rfl⟩
      · exact ⟨_, _, rfl⟩
theorem c_ScanFields (s : ByteArray) (hs : s.size ≤ 1048576) (l : List ByteArray) (hl : lenB l ≤ 67108864) (y : Nat) (hy : y < 256) : ∃ backs, Cinf T n_thicketlaw03_ScanFields [.v (.string s), .ro 1 (tl l), .v (.int .u8 y)] = some (.v (.bool true), backs) := by
  obtain ⟨f, g, q, hf, hfl⟩ := fields_some s y
  have f1 := c_Fields s (by omega) y
  have f2 := c_rFields s (by omega) y
  rw [hf] at f1 f2
  have r3 := c_texts f (by omega)
  obtain ⟨t, e, ht⟩ := joinR_is y l
  have j1 := c_Join l hl y hy
  have j2 := c_rJoin l hl y
  rw [ht] at j1 j2
  rw [run_thicketlaw03_ScanFields]
  exact ⟨_, by simp [Run, c_lives, f1, f2, r3, j1, j2]; rfl⟩

/-! ### What is quoted is read as it was -/
theorem words_quoted (s : ByteArray) : wordsFrom (quoteOf s) (quoteOf s).size 0 [] = if 65536 < s.size then .err 4 0 else .ok [⟨3, s, 0⟩] := by
  have hz := quoteOf_size s
  obtain ⟨a1, a2⟩ := quoteAt_again (At.all (quoteOf s))
  obtain ⟨n, hn⟩ : ∃ n, (quoteOf s).size = n + 1 := ⟨(quoteOf s).size - 1, by omega⟩
  have hw : wordAt (quoteOf s) 0 = if 65536 < s.size then .err 4 0 else .word 3 s (quoteOf s).size := by
    rw [wordAt, if_pos a1, a2]
    simp only [Nat.zero_add]
  rw [hn, wordsFrom, if_pos ⟨by omega, by rw [a1]; decide⟩, a1, if_neg (by decide), hw]
  by_cases h : 65536 < s.size
  · rw [if_pos h, if_pos h]
  · rw [if_neg h, if_neg h]
    simp only []
    cases n with
    | zero => rfl
    | succ n => rw [wordsFrom, if_neg (by omega)]; rfl

/-! ### What is joined is read as it was -/
theorem fq_all {t : ByteArray} {rest : List Nat} (hr : ∀ (c : Nat) (r : List Nat), rest = c :: r → c ≠ 34) : ∀ (l : List Nat) (n p : Nat) (acc : List Nat), At t p (dblN l ++ 34 :: rest) → (rest = [] → p + (dblN l).length + 1 = t.size) → l.length < n → fqFrom t n p acc = .ok (acc ++ l) (p + (dblN l).length + 1)
  | [], n, p, acc, h, he, hn => by
    obtain ⟨m, rfl⟩ : ∃ m, n = m + 1 := ⟨n - 1, by simp at hn; omega⟩
    obtain ⟨a1, a2, h⟩ := At.head h
    rw [fqFrom, if_pos a1, if_pos a2, if_neg, List.append_nil]
    · rfl
    · rintro ⟨b1, b2⟩
      cases rest with
      | nil =>
        have := he rfl
        simp [dblN] at this
        omega
      | cons c r =>
        exact hr c r rfl (by rw [← (At.head h).2.1]; exact b2)
  | c :: l, n, p, acc, h, he, hn => by
    obtain ⟨m, rfl⟩ : ∃ m, n = m + 1 := ⟨n - 1, by simp at hn; omega⟩
    simp only [List.length_cons] at hn
    rw [dblN] at h he ⊢
    by_cases h34 : c = 34
    · subst h34
      rw [if_pos rfl] at h he ⊢
      obtain ⟨a1, a2, h⟩ := At.head h
      obtain ⟨b1, b2, h⟩ := At.head h
      rw [fqFrom, if_pos a1, if_pos a2, if_pos ⟨b1, b2⟩, fq_all hr l m _ _ h (fun e => by have := he e; simp at this; omega) (by omega)]
      simp
      omega
    · rw [if_neg h34] at h he ⊢
      obtain ⟨a1, a2, h⟩ := At.head h
      rw [fqFrom, if_pos a1, a2, if_neg h34, fq_all hr l m _ _ h (fun e => by have := he e; simp at this; omega) (by omega)]
      simp
      omega
def joinOut (y : Nat) : List ByteArray → List Nat
  | [] => []
  | f :: r => y :: (outF y f ++ joinOut y r)
theorem joinA_out (y : Nat) : ∀ (l : List ByteArray) (acc : List Nat), joinA y false acc l = acc ++ joinOut y l
  | [], acc => by simp [joinA, joinOut]
  | f :: r, acc => by
    rw [joinA, joinA_out y r, joinOut]
    simp
theorem dblN_lt {l : List Nat} (h : ∀ c ∈ l, c < 256) : ∀ c ∈ dblN l, c < 256 := by
  induction l with
  | nil => intro c h; simp [dblN] at h
  | cons d r ih =>
    intro c hc
    rw [dblN, List.mem_append] at hc
    rcases hc with hc | hc
    · split at hc
      · simp at hc; omega
      · simp at hc; subst hc; exact h c (by simp)
    · exact ih (fun e he => h e (by simp [he])) c hc
theorem outF_lt (y : Nat) (f : ByteArray) : ∀ c ∈ outF y f, c < 256 := by
  intro c hc
  unfold outF at hc
  split at hc
  · simp only [List.mem_cons, List.mem_append, List.not_mem_nil, or_false] at hc
    rcases hc with rfl | hc | rfl
    · decide
    · exact dblN_lt (bs_lt f) c hc
    · decide
  · exact bs_lt f c hc
theorem joinOut_lt (y : Nat) (hy : y < 256) : ∀ (l : List ByteArray), ∀ c ∈ joinOut y l, c < 256
  | [], c, h => by simp [joinOut] at h
  | f :: r, c, h => by
    rw [joinOut, List.mem_cons, List.mem_append] at h
    rcases h with rfl | h | h
    · exact hy
    · exact outF_lt y f c h
    · exact joinOut_lt y hy r c h
theorem field_again {t f : ByteArray} {y k : Nat} (hy : y ≠ 34) (h : At t k (outF y f)) (he : k + (outF y f).length = t.size ∨ ch t (k + (outF y f).length) = y) (hlt : ¬ k + (outF y f).length = t.size → k + (outF y f).length < t.size) : fieldAt t y k = .inl (f, k + (outF y f).length) := by
  cases hq : inQ y f with
  | true =>
    have ho : outF y f = 34 :: (dblN (bs f) ++ [34]) := by unfold outF; rw [if_pos hq]
    rw [ho] at h he hlt ⊢
    have hlen : (34 :: (dblN (bs f) ++ [34])).length = (dblN (bs f)).length + 2 := by simp
    rw [hlen] at he hlt ⊢
    obtain ⟨a1, a2, h⟩ := At.head h
    have hs := h.1
    simp only [List.length_append, List.length_cons, List.length_nil] at hs
    have hd : (bs f).length ≤ (dblN (bs f)).length := by
      have : ∀ l : List Nat, l.length ≤ (dblN l).length := by
        intro l
        induction l with
        | nil => exact Nat.le_refl _
        | cons c r ih =>
          rw [dblN, List.length_append, List.length_cons]
          split <;> simp <;> omega
      exact this _
    have hf : fqFrom t t.size (k + 1) [] = .ok (bs f) (k + ((dblN (bs f)).length + 2)) := by
      by_cases hend : k + ((dblN (bs f)).length + 2) = t.size
      · rw [fq_all (rest := []) (fun c r e => by cases e) (bs f) t.size (k + 1) [] h (fun _ => by omega) (by omega)]
        rw [List.nil_append, show k + 1 + (dblN (bs f)).length + 1 = k + ((dblN (bs f)).length + 2) by omega]
      · have hc := he.resolve_left hend
        have h2 : At t (k + 1) (dblN (bs f) ++ 34 :: [y]) := by
          have hl := hlt hend
          refine ⟨by simp only [List.length_append, List.length_cons, List.length_nil]; omega, fun i hi => ?_⟩
          simp only [List.length_append, List.length_cons, List.length_nil] at hi
          by_cases hi2 : i < (dblN (bs f)).length + 1
          · have := h.2 i (by simpa using hi2)
            rw [this]
            by_cases hi3 : i < (dblN (bs f)).length
            · rw [List.getElem_append_left hi3, List.getElem_append_left hi3]
            · have e : i = (dblN (bs f)).length := by omega
              subst e
              rw [List.getElem_append_right (Nat.le_refl _), List.getElem_append_right (Nat.le_refl _)]
              simp
          · have e : i = (dblN (bs f)).length + 1 := by omega
            subst e
            rw [show k + 1 + ((dblN (bs f)).length + 1) = k + ((dblN (bs f)).length + 2) by omega, hc]
            rw [List.getElem_append_right (by omega)]
            simp
        rw [fq_all (rest := [y]) (fun c r e => by cases e; exact hy) (bs f) t.size (k + 1) [] h2 (fun e => by cases e) (by omega)]
        rw [List.nil_append, show k + 1 + (dblN (bs f)).length + 1 = k + ((dblN (bs f)).length + 2) by omega]
    rw [fieldAt, if_pos ⟨a1, a2⟩, hf]
    simp only []
    rw [if_neg, bytesOf_bs]
    rintro ⟨c1, c2⟩
    rcases he with he | he
    · omega
    · exact c2 he
  | false =>
    have ho : outF y f = bs f := by unfold outF; rw [if_neg (by rw [hq]; exact Bool.false_ne_true)]
    rw [ho] at h he hlt ⊢
    rw [bs_length] at he hlt ⊢
    have hs := h.1
    rw [bs_length] at hs
    have hb := h.bytes
    unfold inQ at hq
    rw [Bool.or_eq_false_iff, byB_mem f y f.size 0 (by omega), List.drop_zero] at hq
    obtain ⟨q1, q2⟩ := hq
    have hnq : ¬ (k < t.size ∧ ch t k = 34) := by
      rintro ⟨c1, c2⟩
      by_cases hz : 0 < f.size
      · have := hb 0 hz
        rw [Nat.add_zero, c2] at this
        rw [decide_eq_true hz, decide_eq_true this.symm] at q1
        cases q1
      · have hz0 : f.size = 0 := by omega
        rw [hz0, Nat.add_zero] at he
        rcases he with he | he
        · omega
        · rw [c2] at he
          exact hy he.symm
    have hstop : stop (isBy t y) (t.size - k) k = k + f.size := by
      refine stop_eq _ (by omega) (by omega) (fun j j1 j2 => ?_) (fun hj => ?_)
      · have := hb (j - k) (by omega)
        rw [show k + (j - k) = j by omega] at this
        rw [isBy, this]
        refine decide_eq_false fun hc => ?_
        have hm : y ∈ bs f := by
          have hl : j - k < (bs f).length := by rw [bs_length]; omega
          rw [← hc, ← bs_get f (j - k) hl]
          exact List.getElem_mem hl
        rw [← List.contains_iff_mem, q2] at hm
        cases hm
      · rcases he with he | he
        · omega
        · rw [isBy, he]
          exact decide_eq_true rfl
    rw [fieldAt, if_neg hnq, hstop, h.extract]
theorem fields_again {t : ByteArray} {y : Nat} (hy : y ≠ 34) : ∀ (l : List ByteArray) (f : ByteArray) (k n : Nat) (acc : List ByteArray), At t k (outF y f ++ joinOut y l) → k + (outF y f ++ joinOut y l).length = t.size → t.size < k + n → fieldsFrom t y n k acc = .inl (acc ++ f :: l)
  | [], f, k, n, acc, h, he, hn => by
    obtain ⟨m, rfl⟩ : ∃ m, n = m + 1 := ⟨n - 1, by omega⟩
    simp only [joinOut, List.append_nil] at h he
    rw [fieldsFrom, field_again hy h (.inl he) (fun c => absurd he c)]
    simp only []
    rw [if_pos he]
  | g :: l, f, k, n, acc, h, he, hn => by
    obtain ⟨m, rfl⟩ : ∃ m, n = m + 1 := ⟨n - 1, by omega⟩
    have h1 := At.left h
    have h2 := At.right h
    rw [joinOut] at h2 he
    obtain ⟨a1, a2, h2⟩ := At.head h2
    rw [fieldsFrom, field_again hy h1 (.inr a2) (fun _ => a1)]
    simp only []
    rw [if_neg (by omega), fields_again hy l g _ m _ h2 (by rw [List.length_append, List.length_cons] at he; omega) (by omega)]
    simp
theorem fields_joined (y : Nat) (hy : y < 256) (hb : badB y = false) (f : ByteArray) (l : List ByteArray) : fieldsFrom (bytesOf (joinA y true [] (f :: l))) y ((bytesOf (joinA y true [] (f :: l))).size + 1) 0 [] = .inl (f :: l) := by
  have hj : joinA y true [] (f :: l) = outF y f ++ joinOut y l := by
    rw [joinA, joinA_out]
    simp
  have h34 : y ≠ 34 := by
    rintro rfl
    cases hb
  have hbs : bs (bytesOf (outF y f ++ joinOut y l)) = outF y f ++ joinOut y l := bs_bytesOf (by
    intro c hc
    rcases List.mem_append.1 hc with hc | hc
    · exact outF_lt y f c hc
    · exact joinOut_lt y hy l c hc)
  rw [hj]
  have ha := At.all (bytesOf (outF y f ++ joinOut y l))
  have hz := congrArg List.length hbs
  rw [bs_length] at hz
  rw [hbs] at ha
  rw [fields_again h34 l f 0 _ [] ha (by omega) (by omega), List.nil_append]
theorem c_ScanBack (s : ByteArray) (hs : s.size ≤ 1048576) (l : List ByteArray) (hl : lenB l ≤ 33554432) (y : Nat) (hy : y < 256) : ∃ backs, Cinf T n_thicketlaw03_ScanBack [.v (.string s), .ro 1 (tl l), .v (.int .u8 y)] = some (.v (.bool true), backs) := by
  have hq := c_Quote s (by omega)
  have hz := quoteOf_size s
  have w1 := c_Words (quoteOf s) (by omega)
  rw [words_quoted] at w1
  have j1 := c_Join l (by omega) y hy
  have part : ∃ b, Exec T j1_thicketlaw03_ScanBack [(1, .ro 1 (tl l)), (2, .v (.int .u8 y))] = some (.ret, [(6, .v (.bool true))]) ∧ b = true := by
    refine ⟨true, ?_, rfl⟩
    unfold joinR at j1
    cases b1 : badB y with
    | true =>
      rw [b1] at j1
      simp at j1
      simp [j1]
    | false =>
      rw [b1] at j1
      cases b2 : nlAny l with
      | true =>
        rw [b2] at j1
        simp at j1
        simp [j1]
      | false =>
        rw [b2] at j1
        cases l with
        | nil =>
          simp at j1
          simp [j1]
        | cons f r =>
          have hlen := joinA_len y (f :: r) true []
          have hll := lenB_len (f :: r)
          have hz2 : (bytesOf (joinA y true [] (f :: r))).size = (joinA y true [] (f :: r)).length := by simp [bytesOf, ByteArray.size]
          have f1 := c_Fields (bytesOf (joinA y true [] (f :: r))) (by rw [hz2]; simp at hlen; omega) y
          rw [fields_joined y hy b1 f r, b1] at f1
          simp only [Bool.false_eq_true, if_false, fsR] at f1
          have r3 := c_texts (f :: r) (by omega)
          simp at j1
          simp [j1, f1, r3]
  obtain ⟨b, part, _⟩ := part
  rw [run_thicketlaw03_ScanBack]
  by_cases hbig : 65536 < s.size
  · rw [if_pos hbig] at w1
    simp only [wordsOut] at w1
    exact ⟨_, by simp [Run, c_lives, hq, w1, hbig, part, -j1_thicketlaw03_ScanBack]; rfl⟩
  · rw [if_neg hbig] at w1
    simp only [wordsOut] at w1
    exact ⟨_, by simp [Run, c_lives, hq, w1, hbig, wl, WordV.pv, part, -j1_thicketlaw03_ScanBack]; rfl⟩
end Go.AM.F
