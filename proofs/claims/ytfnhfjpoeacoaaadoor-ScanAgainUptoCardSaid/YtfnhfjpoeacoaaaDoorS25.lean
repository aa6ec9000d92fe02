/- Words and lines that are written out are the same words and lines: ScanAgain. No conditions. -/
import Derived.Test.YtfnhfjpoeacoaaaDoorS0
import Derived.Test.YtfnhfjpoeacoaaaDoorS24
namespace Go.AM.F
open Go Go.AM
set_option maxRecDepth 10000
set_option linter.unusedSimpArgs false
attribute [local simp] j0_thicketlaw03_ScanAgain j1_thicketlaw03_ScanAgain w0_thicketlaw03_ScanAgain j2_thicketlaw03_ScanAgain j3_thicketlaw03_ScanAgain w1_thicketlaw03_ScanAgain j4_thicketlaw03_ScanAgain j5_thicketlaw03_ScanAgain j6_thicketlaw03_ScanAgain j7_thicketlaw03_ScanAgain w2_thicketlaw03_ScanAgain j8_thicketlaw03_ScanAgain j9_thicketlaw03_ScanAgain w3_thicketlaw03_ScanAgain j10_thicketlaw03_ScanAgain j11_thicketlaw03_ScanAgain j12_thicketlaw03_ScanAgain j13_thicketlaw03_ScanAgain j14_thicketlaw03_ScanAgain b_thicketlaw03_ScanAgain a_thicketlaw03_ScanAgain
def outT (acc : ByteArray) : List WordV → ByteArray
  | [] => acc
  | w :: r => outT ((acc ++ ⟨#[32]⟩) ++ piece w) r
theorem bs_outT : ∀ (l : List WordV) (acc : ByteArray), bs (outT acc l) = bs acc ++ outs l
  | [], acc => by simp [outT, outs]
  | w :: r, acc => by
    rw [outT, bs_outT r, outs]
    simp
    rfl
theorem bcast1 (a : Nat) (b : ByteArray) : ((a + b.size : Nat) : Int) = (a : Int) + b.size := Int.natCast_add a b.size
theorem sz1 (a : ByteArray) (x : UInt8) : (a ++ ⟨#[x]⟩).size = a.size + 1 := by rw [ByteArray.size_append]; rfl
theorem again0 (s : ByteArray) (l : List WordV) (hl : l.length ≤ 67108864) : ∀ (n k : Nat) (acc : ByteArray), l.length - k = n → k ≤ l.length → acc.size + (outs (l.drop k)).length ≤ 67108864 →
    Exec T l0_thicketlaw03_ScanAgain [(0, .v (.string s)), (3, .own 3 (wl l)), (6, .v (.string acc)), (21, .tup [.ref 23 [0], .v (.int .i64 0), .v (.int .i64 0)]), (23, .tup [.dead, .v (.int .i64 0), .v (.int .i64 0)]), (24, .ref 23 [0]), (29, .ref 3 []), (30, .v (.int .i64 l.length)), (31, .v (.int .i64 k))] =
      some (.exit 0, [(0, .v (.string s)), (3, .own 3 (wl l)), (6, .v (.string (outT acc (l.drop k)))), (21, .tup [.ref 23 [0], .v (.int .i64 0), .v (.int .i64 0)]), (23, .tup [.dead, .v (.int .i64 0), .v (.int .i64 0)]), (24, .ref 23 [0]), (29, .ref 3 []), (30, .v (.int .i64 l.length)), (31, .v (.int .i64 l.length))]) := by
  intro n
  induction n with
  | zero =>
    intro k acc hn hk ha
    obtain rfl : k = l.length := by omega
    rw [ex0_thicketlaw03_ScanAgain]
    simp [outT]
  | succ n ih =>
    intro k acc hn hk ha
    have hlt : k < l.length := by omega
    obtain ⟨w, hv⟩ : ∃ w, l[k] = w := ⟨_, rfl⟩
    have hd : l.drop k = w :: l.drop (k + 1) := by rw [List.drop_eq_getElem_cons hlt, hv]
    have hw := wrap_succ hlt (by omega)
    rw [hd, outs, List.length_cons, List.length_append, bs_length] at ha
    have hg : (wl l)[k]'(by rw [wl_length]; exact hlt) = WordV.pv w := by simp [wl, hv]
    have h0 := ih (k + 1) ((acc ++ ⟨#[32]⟩) ++ piece w) (by omega) (by omega) (by rw [ByteArray.size_append, sz1]; omega)
    rw [succ_cast] at h0
    rw [hd, outT, ← h0, ex0_thicketlaw03_ScanAgain]
    have e1 : acc.size + 1 ≤ 9223372036854775807 := by omega
    have e3 : ByteArray.size ⟨#[32]⟩ = 1 := rfl
    obtain ⟨k', t', a'⟩ := w
    by_cases h3 : k' = 3
    · subst h3
      have hp : piece ⟨3, t', a'⟩ = quoteOf t' := rfl
      have hq := quoteOf_size t'
      rw [hp] at ha ⊢
      have cq := c_Quote t' (by omega)
      have e2 : acc.size + 1 + (quoteOf t').size ≤ 9223372036854775807 := by omega
      simp [hlt, hg, WordV.pv, hw, cq, binStr, e1, e2, e3, sz1]
    · have hp : piece ⟨k', t', a'⟩ = t' := if_neg h3
      rw [hp] at ha ⊢
      have e2 : acc.size + 1 + t'.size ≤ 9223372036854775807 := by omega
      have h3' : ¬ (k' : Int) = 3 := by omega
      simp [hlt, hg, WordV.pv, hw, eq_false h3, eq_false h3', binStr, e1, e2, e3, sz1]
theorem again1 (s : ByteArray) (l v : List WordV) (hl : l.length ≤ 67108864) (hvl : v.length = l.length) (hs : ∀ (k : Nat) (h : k < l.length), (l[k]).k = (v[k]'(by omega)).k ∧ (l[k]).t = (v[k]'(by omega)).t) : ∀ (n k : Nat), l.length - k = n → k ≤ l.length →
    Exec T l1_thicketlaw03_ScanAgain [(0, .v (.string s)), (3, .own 3 (wl l)), (9, .own 3 (wl v)), (21, .tup [.ref 23 [0], .v (.int .i64 0), .v (.int .i64 0)]), (23, .tup [.dead, .v (.int .i64 0), .v (.int .i64 0)]), (24, .ref 23 [0]), (50, .tup [.ref 52 [0], .v (.int .i64 0), .v (.int .i64 0)]), (52, .tup [.dead, .v (.int .i64 0), .v (.int .i64 0)]), (53, .ref 52 [0]), (74, .v (.int .i64 l.length)), (75, .v (.int .i64 k))] =
      some (.exit 2, [(0, .v (.string s)), (3, .own 3 (wl l)), (9, .own 3 (wl v)), (21, .tup [.ref 23 [0], .v (.int .i64 0), .v (.int .i64 0)]), (23, .tup [.dead, .v (.int .i64 0), .v (.int .i64 0)]), (24, .ref 23 [0]), (50, .tup [.ref 52 [0], .v (.int .i64 0), .v (.int .i64 0)]), (52, .tup [.dead, .v (.int .i64 0), .v (.int .i64 0)]), (53, .ref 52 [0]), (74, .v (.int .i64 l.length)), (75, .v (.int .i64 l.length))]) := by
  intro n
  induction n with
  | zero =>
    intro k hn hk
    obtain rfl : k = l.length := by omega
    rw [ex1_thicketlaw03_ScanAgain]
    simp
  | succ n ih =>
    intro k hn hk
    have hlt : k < l.length := by omega
    have hlt2 : k < v.length := by omega
    obtain ⟨q1, q2⟩ := hs k hlt
    obtain ⟨⟨k1, t1, a1⟩, hv⟩ : ∃ w, l[k] = w := ⟨_, rfl⟩
    obtain ⟨⟨k2, t2, a2⟩, hv2⟩ : ∃ w, v[k] = w := ⟨_, rfl⟩
    rw [hv, hv2] at q1 q2
    simp only at q1 q2
    subst q1
    subst q2
    have hw := wrap_succ hlt (by omega)
    have hg : (wl l)[k]'(by rw [wl_length]; exact hlt) = WordV.pv ⟨k1, t1, a1⟩ := by simp [wl, hv]
    have hg2 : (wl v)[k]'(by rw [wl_length]; exact hlt2) = WordV.pv ⟨k1, t1, a2⟩ := by simp [wl, hv2]
    have h0 := ih (k + 1) (by omega) (by omega)
    rw [succ_cast] at h0
    rw [← h0, ex1_thicketlaw03_ScanAgain]
    simp [hlt, hlt2, hg, hg2, WordV.pv, hw]
def outRT (acc : ByteArray) : List RowV → ByteArray
  | [] => acc
  | r :: l => outRT ((acc ++ r.t) ++ ⟨#[10]⟩) l
theorem bs_outRT : ∀ (l : List RowV) (acc : ByteArray), bs (outRT acc l) = bs acc ++ outR l
  | [], acc => by simp [outRT, outR]
  | w :: r, acc => by
    rw [outRT, bs_outRT r, outR]
    simp
    rfl
theorem again2 (s : ByteArray) (l : List RowV) (hl : l.length ≤ 67108864) : ∀ (n k : Nat) (acc : ByteArray), l.length - k = n → k ≤ l.length → acc.size + (outR (l.drop k)).length ≤ 67108864 →
    Exec T l2_thicketlaw03_ScanAgain [(0, .v (.string s)), (13, .own 3 (l.map RowV.pv)), (14, .v (.string acc)), (104, .dead), (105, .ref 13 []), (106, .v (.int .i64 l.length)), (107, .v (.int .i64 k))] =
      some (.exit 4, [(0, .v (.string s)), (13, .own 3 (l.map RowV.pv)), (14, .v (.string (outRT acc (l.drop k)))), (104, .dead), (105, .ref 13 []), (106, .v (.int .i64 l.length)), (107, .v (.int .i64 l.length))]) := by
  intro n
  induction n with
  | zero =>
    intro k acc hn hk ha
    obtain rfl : k = l.length := by omega
    rw [ex2_thicketlaw03_ScanAgain]
    simp [outRT]
  | succ n ih =>
    intro k acc hn hk ha
    have hlt : k < l.length := by omega
    obtain ⟨⟨n', a', t'⟩, hv⟩ : ∃ w, l[k] = w := ⟨_, rfl⟩
    have hd : l.drop k = ⟨n', a', t'⟩ :: l.drop (k + 1) := by rw [List.drop_eq_getElem_cons hlt, hv]
    have hw := wrap_succ hlt (by omega)
    rw [hd, outR, List.length_append, List.length_cons, bs_length] at ha
    simp only at ha
    have h0 := ih (k + 1) ((acc ++ t') ++ ⟨#[10]⟩) (by omega) (by omega) (by rw [sz1, ByteArray.size_append]; omega)
    rw [succ_cast] at h0
    rw [hd, outRT, ← h0, ex2_thicketlaw03_ScanAgain]
    have e1 : acc.size + t'.size ≤ 9223372036854775807 := by omega
    have e2 : acc.size + t'.size + 1 ≤ 9223372036854775807 := by omega
    have e3 : ByteArray.size ⟨#[10]⟩ = 1 := rfl
    simp [hlt, hv, RowV.pv, row, hw, binStr, e1, e2, e3]
theorem again3 (s : ByteArray) (hs : s.size ≤ 67108864) (l m : List RowV) (hl : l.length ≤ 67108865) (hml : m.length = l.length) (hm : ∀ (k : Nat) (h : k < l.length), (l[k]).t = (m[k]'(by omega)).t ∧ (m[k]'(by omega)).n = k + 1 ∧ RowIs s k (l[k])) : ∀ (n k : Nat), l.length - k = n → k ≤ l.length →
    Exec T l3_thicketlaw03_ScanAgain [(0, .v (.string s)), (13, .own 3 (l.map RowV.pv)), (17, .own 3 (m.map RowV.pv)), (104, .dead), (118, .dead), (125, .v (.int .i64 l.length)), (126, .v (.int .i64 k))] =
      some (.exit 6, [(0, .v (.string s)), (13, .own 3 (l.map RowV.pv)), (17, .own 3 (m.map RowV.pv)), (104, .dead), (118, .dead), (125, .v (.int .i64 l.length)), (126, .v (.int .i64 l.length))]) := by
  intro n
  induction n with
  | zero =>
    intro k hn hk
    obtain rfl : k = l.length := by omega
    rw [ex3_thicketlaw03_ScanAgain]
    simp
  | succ n ih =>
    intro k hn hk
    have hlt : k < l.length := by omega
    have hlt2 : k < m.length := by omega
    obtain ⟨q1, q2, q3⟩ := hm k hlt
    obtain ⟨⟨n1, a1, t1⟩, hv⟩ : ∃ w, l[k] = w := ⟨_, rfl⟩
    obtain ⟨⟨n2, a2, t2⟩, hv2⟩ : ∃ w, m[k] = w := ⟨_, rfl⟩
    rw [hv] at q1 q3
    rw [hv2] at q1 q2
    obtain ⟨q4, q5, q6, _⟩ := q3
    simp only at q1 q2 q4 q5 q6
    subst q1
    subst q2
    subst q4
    have hw := wrap_succ hlt (by omega)
    have hw2 : IntKind.i64.wrap ((a1 : Int) + t1.size) = (a1 : Int) + t1.size := by rw [wrap_i64] <;> omega
    have h1 : ¬ ((s.size : Int) < (a1 : Int) + t1.size) := by omega
    have h2 : ¬ ((a1 : Int) < 0) := by omega
    have h3 : (0 : Int) ≤ (a1 : Int) + t1.size := by omega
    have h4 : (a1 : Int) + t1.size ≤ s.size := by omega
    have h5 : ((a1 : Int) + t1.size).toNat = a1 + t1.size := by omega
    have h6 : a1 ≤ a1 + t1.size := by omega
    have h0 := ih (k + 1) (by omega) (by omega)
    rw [succ_cast] at h0
    rw [← h0, ex3_thicketlaw03_ScanAgain]
    simp [hlt, hlt2, hv, hv2, RowV.pv, row, hw, hw2, h1, h2, h3, h4, h5, h6, q5, q6, boundOr, bound]
theorem words_count {s : ByteArray} : ∀ (n i : Nat) (acc l : List WordV), wordsFrom s n i acc = .ok l → i ≤ s.size → acc.length ≤ i → l.length ≤ s.size := by
  intro n i acc l h hi ha
  exact wordsFrom_len hi ha h
theorem lines (s : ByteArray) (hs : s.size ≤ 1048576) : ∃ e, Exec T j13_thicketlaw03_ScanAgain [(0, .v (.string s))] = some (.ret, e) ∧ e.get 2 = .v (.bool true) := by
  obtain ⟨l, hl⟩ : ∃ l, rowsV s s.size 0 0 = l := ⟨_, rfl⟩
  have w1 := c_rows s (by omega)
  rw [rowsV_pv, hl] at w1
  have hn := rowsV_len s s.size 0 0 (by omega)
  have his := rowsV_is s s.size 0 0
  rw [hl] at hn his
  have a2 := again2 s l (by omega) l.length 0 ⟨#[]⟩ (by omega) (by omega) (by have h0 : ByteArray.size ⟨#[]⟩ = 0 := rfl; rw [List.drop_zero, h0]; omega)
  obtain ⟨t, ht⟩ : ∃ t, outRT ⟨#[]⟩ (l.drop 0) = t := ⟨_, rfl⟩
  have hb := bs_outRT (l.drop 0) ⟨#[]⟩
  rw [ht] at a2 hb
  have hb : bs t = outR l := by rw [hb]; rfl
  have hz : t.size = (outR l).length := by rw [← hb, bs_length]
  have w2 := c_rows t (by omega)
  obtain ⟨m, hm⟩ : ∃ m, rowsV t t.size 0 0 = m := ⟨_, rfl⟩
  rw [rowsV_pv, hm] at w2
  have hat := At.all t
  rw [hb] at hat
  have hag := rows_again l 0 t.size 0 (fun r hr i hi => by
    obtain ⟨j, hj, rfl⟩ := List.getElem_of_mem hr
    exact (his j hj).line i hi) hat (by omega) (by omega)
  rw [hm] at hag
  have hlen : m.length = l.length := by simpa using congrArg List.length hag
  have his2 := rowsV_is t t.size 0 0
  rw [hm] at his2
  have a3 := again3 s (by omega) l m (by omega) hlen (fun k h => ⟨by
    have := congrArg (fun q => q[k]?) hag
    simpa [h, show k < m.length by omega] using this.symm, by
    have := (his2 k (by omega)).n
    omega, by
    have := his k h
    rwa [Nat.zero_add] at this⟩) l.length 0 rfl (Nat.zero_le _)
  simp only [Int.natCast_zero] at a2 a3
  exact ⟨_, by simp [w1, a2, w2, a3, hlen]; rfl, rfl⟩
theorem again_part (s : ByteArray) (hs : s.size ≤ 1048576) (l : List WordV) (hl : wordsFrom s s.size 0 [] = .ok l) : ∃ e, Exec T j5_thicketlaw03_ScanAgain [(0, .v (.string s)), (3, .own 3 (wl l)), (6, .v (.string (outT ⟨#[]⟩ l))), (21, .tup [.ref 23 [0], .v (.int .i64 0), .v (.int .i64 0)]), (23, .tup [.dead, .v (.int .i64 0), .v (.int .i64 0)]), (24, .ref 23 [0])] = some (.normal, e) ∧ e.get 0 = .v (.string s) := by
  obtain ⟨r, h1, hg, h3⟩ := words_good s.size 0 [] l (by omega) hl
  rw [List.nil_append] at h1
  subst h1
  obtain ⟨t, ht⟩ : ∃ t, outT ⟨#[]⟩ l = t := ⟨_, rfl⟩
  have hb := bs_outT l ⟨#[]⟩
  rw [ht] at hb ⊢
  have hb : bs t = outs l := by rw [hb]; rfl
  have hz : t.size = (outs l).length := by rw [← hb, bs_length]
  have hat := At.all t
  rw [hb] at hat
  obtain ⟨v, q1, q2⟩ := words_again l 0 t.size [] hg hat (by omega) (by omega)
  rw [List.nil_append] at q1
  have w2 := c_Words t (by omega)
  rw [q1] at w2
  simp only [wordsOut] at w2
  have b1 := c_Blank s (by omega)
  rw [words_blank s.size 0 [] l (by omega) hl] at b1
  have hlen : v.length = l.length := by simpa using congrArg List.length q2
  have hc := words_count _ _ _ _ hl (by omega) (by simp)
  have a1 := again1 s l v (by omega) hlen (fun k h => by
    have := congrArg (fun q => q[k]?) q2
    simp [h, show k < v.length by omega] at this
    exact ⟨this.1.symm, this.2.symm⟩) l.length 0 rfl (Nat.zero_le _)
  simp only [Int.natCast_zero] at a1
  have e0 : ((l.length : Int) = 0) = (l.length = 0) := propext (by omega)
  exact ⟨_, by simp [w2, b1, hlen, a1, e0, stepG, stepO]; rfl, rfl⟩
theorem wordsFrom_err {s : ByteArray} : ∀ {n i : Nat} {acc : List WordV} {e p : Nat}, wordsFrom s n i acc = .err e p → ¬ e = 0
  | 0, i, acc, e, p, h => by cases h
  | n + 1, i, acc, e, p, h => by
    rw [wordsFrom] at h
    split at h
    · split at h
      · exact wordsFrom_err h
      · split at h
        · rename_i hw
          cases h
          exact wordAt_err hw
        · exact wordsFrom_err h
    · cases h
theorem finish2 {e : Env} (h : e.get 2 = .v (.bool true)) {xs : List PV} : ∃ backs, finish a_thicketlaw03_ScanAgain xs (some (.ret, e)) = some (.v (.bool true), backs) := by
  exact ⟨_, by simp [h]; rfl⟩
theorem c_ScanAgain (s : ByteArray) (hs : s.size ≤ 1048576) : ∃ backs, Cinf T n_thicketlaw03_ScanAgain [.v (.string s)] = some (.v (.bool true), backs) := by
  have w1 := c_Words s (by omega)
  obtain ⟨e, h1, h2⟩ := lines s hs
  obtain ⟨backs, h3⟩ := finish2 h2 (xs := [.v (.string s)])
  refine ⟨backs, ?_⟩
  rw [← h3, ← h1, run_thicketlaw03_ScanAgain]
  cases hw : wordsFrom s s.size 0 [] with
  | err n p =>
    have hn := wordsFrom_err hw
    have hn2 : ¬ (n : Int) = 0 := by omega
    rw [hw] at w1
    simp only [wordsOut] at w1
    simp [Run, c_lives, w1, eq_false hn, eq_false hn2, -j13_thicketlaw03_ScanAgain]
  | ok l =>
    rw [hw] at w1
    simp only [wordsOut] at w1
    obtain ⟨e2, p1, p2⟩ := again_part s hs l hw
    have hc := words_count _ _ _ _ hw (by omega) (by simp)
    obtain ⟨r, g1, _, g3⟩ := words_good s.size 0 [] l (by omega) hw
    rw [List.nil_append] at g1
    subst g1
    have a0 := again0 s l (by omega) l.length 0 ⟨#[]⟩ rfl (by omega) (by have h0 : ByteArray.size ⟨#[]⟩ = 0 := rfl; rw [List.drop_zero, h0]; omega)
    rw [List.drop_zero] at a0
    simp only [Int.natCast_zero] at a0
    simp [Run, c_lives, w1, a0, p1, p2, -j13_thicketlaw03_ScanAgain, -j5_thicketlaw03_ScanAgain]
end Go.AM.F
