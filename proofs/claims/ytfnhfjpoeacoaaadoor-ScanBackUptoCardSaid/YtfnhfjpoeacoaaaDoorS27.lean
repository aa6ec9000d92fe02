/- Fields joined, as the document has them. No conditions. -/
import Derived.Test.YtfnhfjpoeacoaaaDoorS19
import Derived.Test.YtfnhfjpoeacoaaaDoorS26
namespace Go.AM.F
open Go Go.AM
set_option maxRecDepth 10000
set_option linter.unusedSimpArgs false
attribute [local simp] j0_thicketref03_Join j1_thicketref03_Join w1_thicketref03_Join j2_thicketref03_Join j3_thicketref03_Join w0_thicketref03_Join j4_thicketref03_Join j5_thicketref03_Join w3_thicketref03_Join j6_thicketref03_Join j7_thicketref03_Join j8_thicketref03_Join w4_thicketref03_Join j9_thicketref03_Join j10_thicketref03_Join j11_thicketref03_Join j12_thicketref03_Join j13_thicketref03_Join j14_thicketref03_Join w2_thicketref03_Join j15_thicketref03_Join j16_thicketref03_Join j17_thicketref03_Join j18_thicketref03_Join b_thicketref03_Join a_thicketref03_Join
theorem bl_cons (c : Nat) (l : List Nat) : bl (c :: l) = .v (.int .u8 (c : Nat)) :: bl l := rfl
def dblN : List Nat → List Nat
  | [] => []
  | c :: r => (if c = 34 then [34, 34] else [c]) ++ dblN r
theorem dblN_len : ∀ l, (dblN l).length ≤ 2 * l.length
  | [] => Nat.le_refl _
  | c :: r => by
    have := dblN_len r
    simp only [dblN, List.length_append, List.length_cons]
    split <;> simp <;> omega
def byB (f : ByteArray) (y : Nat) : Nat → Nat → Bool
  | 0, _ => false
  | n + 1, k => decide (ch f k = y) || byB f y n (k + 1)
def inQ (y : Nat) (f : ByteArray) : Bool := (decide (0 < f.size) && decide (ch f 0 = 34)) || byB f y f.size 0
def outF (y : Nat) (f : ByteArray) : List Nat := if inQ y f = true then 34 :: (dblN (bs f) ++ [34]) else bs f
theorem outF_len (y : Nat) (f : ByteArray) : (outF y f).length ≤ 2 * f.size + 2 := by
  have := dblN_len (bs f)
  rw [bs_length] at this
  unfold outF
  split
  · simp only [List.length_cons, List.length_append, List.length_nil]
    omega
  · rw [bs_length]
    omega
def joinA (y : Nat) : Bool → List Nat → List ByteArray → List Nat
  | _, acc, [] => acc
  | first, acc, f :: r => joinA y false ((if first = true then acc else acc ++ [y]) ++ outF y f) r
def lenB : List ByteArray → Nat
  | [] => 0
  | f :: r => 2 * f.size + 3 + lenB r
theorem lenB_le : ∀ (l : List ByteArray) (k : Nat) (h : k < l.length), 2 * (l[k]).size + 3 + lenB (l.drop (k + 1)) ≤ lenB l
  | f :: r, 0, _ => Nat.le_refl _
  | f :: r, k + 1, h => by
    have := lenB_le r k (by simpa using h)
    simp only [List.getElem_cons_succ, List.drop_succ_cons, lenB]
    omega
theorem lenB_drop (l : List ByteArray) (k : Nat) (h : k < l.length) : lenB (l.drop k) = 2 * (l[k]).size + 3 + lenB (l.drop (k + 1)) := by
  rw [List.drop_eq_getElem_cons h, lenB]
theorem lenB_len : ∀ (l : List ByteArray), 3 * l.length ≤ lenB l
  | [] => Nat.le_refl _
  | f :: r => by
    have := lenB_len r
    rw [lenB, List.length_cons]
    omega
theorem lenB_all : ∀ (l : List ByteArray), ∀ f ∈ l, f.size ≤ lenB l
  | g :: r, f, h => by
    rw [lenB]
    rcases List.mem_cons.1 h with rfl | h
    · omega
    · have := lenB_all r f h
      omega
theorem joinA_len (y : Nat) : ∀ (l : List ByteArray) (b : Bool) (acc : List Nat), (joinA y b acc l).length ≤ acc.length + lenB l
  | [], b, acc => by simp [joinA, lenB]
  | f :: r, b, acc => by
    have h1 := joinA_len y r false ((if b = true then acc else acc ++ [y]) ++ outF y f)
    have h2 := outF_len y f
    have h3 : (if b = true then acc else acc ++ [y]).length ≤ acc.length + 1 := by split <;> simp
    rw [List.length_append] at h1
    rw [joinA, lenB]
    omega
def nlAny (l : List ByteArray) : Bool := l.any fun f => nlB f f.size 0
def joinR (y : Nat) (l : List ByteArray) : PV :=
  if badB y = true then .tup [.v (.string ⟨#[]⟩), .v (.int .i64 2)] else if nlAny l = true then .tup [.v (.string ⟨#[]⟩), .v (.int .i64 30)]
  else if l.length = 0 then .tup [.v (.string ⟨#[]⟩), .v (.int .i64 3)] else .tup [.v (.string (bytesOf (joinA y true [] l))), .v (.int .i64 0)]

/-! ### The document's -/
theorem rj_bytes (f : ByteArray) (hf : f.size ≤ 67108864) (x0 x1 x25 x26 x27 : PV) : ∀ (n k : Nat), f.size - k = n → k ≤ f.size →
    Exec T l1_thicketref03_Join [(0, x0), (1, x1), (7, .v (.string f)), (8, .v (.int .i64 k)), (25, x25), (26, x26), (27, x27)] = if nlB f n k = true then some (.ret, [(4, .v (.string ⟨#[]⟩)), (5, .v (.int .i64 30))]) else some (.exit 2, [(0, x0), (1, x1), (7, .v (.string f)), (8, .v (.int .i64 f.size)), (25, x25), (26, x26), (27, x27)]) := by
  intro n
  induction n with
  | zero =>
    intro k hn hk
    obtain rfl : k = f.size := by omega
    rw [ex1_thicketref03_Join]
    simp [nlB]
  | succ n ih =>
    intro k hn hk
    have hlt : k < f.size := by omega
    have hw := wrap_succ hlt (by omega)
    have h0 := ih (k + 1) (by omega) (by omega)
    rw [succ_cast] at h0
    obtain ⟨c, hc⟩ : ∃ c, ch f k = c := ⟨_, rfl⟩
    simp only [nlB, hc]
    rw [ex1_thicketref03_Join]
    by_cases h10 : c = 10
    · simp [hlt, ch_eq, hc, eq_true h10]
    · by_cases h13 : c = 13
      · simp [hlt, ch_eq, hc, eq_false h10, eq_true h13]
      · simp [hlt, ch_eq, hc, eq_false h10, eq_false h13, hw, h0]
theorem rj_all (l : List ByteArray) (hl : lenB l ≤ 67108864) (y : PV) (hy : ∀ s t, PV.ment s t y = false) : ∀ (n k : Nat), l.length - k = n → k ≤ l.length →
    Exec T l0_thicketref03_Join [(0, .ro 1 (tl l)), (1, y), (25, .ro 1 (tl l)), (26, .v (.int .i64 l.length)), (27, .v (.int .i64 k))] = if nlAny (l.drop k) = true then some (.ret, [(4, .v (.string ⟨#[]⟩)), (5, .v (.int .i64 30))]) else some (.exit 0, [(0, .ro 1 (tl l)), (1, y), (25, .ro 1 (tl l)), (26, .v (.int .i64 l.length)), (27, .v (.int .i64 l.length))]) := by
  intro n
  induction n with
  | zero =>
    intro k hn hk
    obtain rfl : k = l.length := by omega
    rw [ex0_thicketref03_Join]
    simp [nlAny]
  | succ n ih =>
    intro k hn hk
    have hlt : k < l.length := by omega
    have hll := lenB_len l
    have hw := wrap_succ hlt (by omega)
    have h0 := ih (k + 1) (by omega) (by omega)
    rw [succ_cast] at h0
    obtain ⟨f, hv⟩ : ∃ f, l[k] = f := ⟨_, rfl⟩
    have hf : f.size ≤ lenB l := lenB_all l f (by rw [← hv]; exact List.getElem_mem hlt)
    have hd : l.drop k = f :: l.drop (k + 1) := by rw [List.drop_eq_getElem_cons hlt, hv]
    have h1 := rj_bytes f (by omega) (.ro 1 (tl l)) y (.ro 1 (tl l)) (.v (.int .i64 l.length)) (.v (.int .i64 k)) f.size 0 rfl (Nat.zero_le _)
    simp only [Int.natCast_zero] at h1
    have hg : (tl l)[k]'(by rw [tl_length]; exact hlt) = .v (.string f) := by simp [tl, hv]
    rw [ex0_thicketref03_Join, hd, nlAny, List.any_cons]
    change _ = if (nlB f f.size 0 || nlAny (l.drop (k + 1))) = true then _ else _
    cases hb : nlB f f.size 0 with
    | true =>
      rw [hb] at h1
      simp [hlt, hg, h1]
    | false =>
      rw [hb] at h1
      rw [Bool.false_or, ← h0]
      simp [hlt, hg, h1, hw]
def rjE (l : List ByteArray) (y : Nat) (acc : List Nat) (k : Nat) : Env := [(0, .ro 1 (tl l)), (1, .v (.int .u8 y)), (9, .own 1 (bl acc)), (51, .ro 1 (tl l)), (52, .v (.int .i64 l.length)), (53, .v (.int .i64 k)), (63, .dead), (90, .dead), (93, .dead), (106, .dead), (112, .dead), (115, .dead)]
theorem rj_in (l : List ByteArray) (f : ByteArray) (hf : f.size ≤ 67108864) (y : Nat) (acc : List Nat) (i : Nat) : ∀ (n k : Nat) (b : Bool), f.size - k = n → k ≤ f.size →
    Exec T l3_thicketref03_Join [(0, .ro 1 (tl l)), (1, .v (.int .u8 y)), (9, .own 1 (bl acc)), (11, .v (.string f)), (12, .v (.bool b)), (13, .v (.int .i64 k)), (51, .ro 1 (tl l)), (52, .v (.int .i64 l.length)), (53, .v (.int .i64 i)), (63, .dead), (90, .dead), (93, .dead), (106, .dead), (112, .dead), (115, .dead)] =
      some (.exit 6, [(0, .ro 1 (tl l)), (1, .v (.int .u8 y)), (9, .own 1 (bl acc)), (11, .v (.string f)), (12, .v (.bool (b || byB f y n k))), (13, .v (.int .i64 f.size)), (51, .ro 1 (tl l)), (52, .v (.int .i64 l.length)), (53, .v (.int .i64 i)), (63, .dead), (90, .dead), (93, .dead), (106, .dead), (112, .dead), (115, .dead)]) := by
  intro n
  induction n with
  | zero =>
    intro k b hn hk
    obtain rfl : k = f.size := by omega
    rw [ex3_thicketref03_Join]
    simp [byB]
  | succ n ih =>
    intro k b hn hk
    have hlt : k < f.size := by omega
    have hw := wrap_succ hlt (by omega)
    obtain ⟨c, hc⟩ : ∃ c, ch f k = c := ⟨_, rfl⟩
    have h0 := ih (k + 1) (b || decide (c = y)) (by omega) (by omega)
    rw [succ_cast] at h0
    simp only [byB, hc]
    rw [← Bool.or_assoc, ← h0, ex3_thicketref03_Join]
    have hcy : ((c : Int) = y) = (c = y) := propext (by omega)
    cases b with
    | true => simp [hlt, hw]
    | false => simp [hlt, ch_eq, hc, hw, hcy]
theorem rj_dbl (l : List ByteArray) (f : ByteArray) (hf : f.size ≤ 67108864) (y : Nat) (i : Nat) : ∀ (n k : Nat) (acc : List Nat), f.size - k = n → k ≤ f.size → acc.length + 2 * n ≤ 4294967296 →
    Exec T l4_thicketref03_Join [(0, .ro 1 (tl l)), (1, .v (.int .u8 y)), (9, .own 1 (bl acc)), (11, .v (.string f)), (14, .v (.int .i64 k)), (51, .ro 1 (tl l)), (52, .v (.int .i64 l.length)), (53, .v (.int .i64 i)), (63, .dead), (90, .dead), (93, .dead), (106, .dead), (112, .dead), (115, .dead)] =
      some (.exit 8, [(0, .ro 1 (tl l)), (1, .v (.int .u8 y)), (9, .own 1 (bl (acc ++ dblN ((bs f).drop k)))), (11, .v (.string f)), (14, .v (.int .i64 f.size)), (51, .ro 1 (tl l)), (52, .v (.int .i64 l.length)), (53, .v (.int .i64 i)), (63, .dead), (90, .dead), (93, .dead), (106, .dead), (112, .dead), (115, .dead)]) := by
  intro n
  induction n with
  | zero =>
    intro k acc hn hk ha
    obtain rfl : k = f.size := by omega
    rw [ex4_thicketref03_Join]
    have : (bs f).drop f.size = [] := List.drop_of_length_le (by simp)
    simp [this, dblN]
  | succ n ih =>
    intro k acc hn hk ha
    have hlt : k < f.size := by omega
    have hw := wrap_succ hlt (by omega)
    obtain ⟨c, hc⟩ : ∃ c, ch f k = c := ⟨_, rfl⟩
    have hlt2 : k < (bs f).length := by simpa using hlt
    have hd : (bs f).drop k = c :: (bs f).drop (k + 1) := by rw [List.drop_eq_getElem_cons hlt2, bs_get f k hlt2, hc]
    have e1 : acc.length ≤ 140737488355327 := by omega
    have e2 : acc.length ≤ 4611686018427387903 := by omega
    have e3 : acc.length + 1 ≤ 140737488355327 := by omega
    have e4 : acc.length + 1 ≤ 4611686018427387903 := by omega
    rw [hd, dblN, ← List.append_assoc, ex4_thicketref03_Join]
    by_cases h34 : c = 34
    · subst h34
      rw [if_pos rfl]
      have h0 := ih (k + 1) (acc ++ [34, 34]) (by omega) (by omega) (by simp; omega)
      rw [succ_cast] at h0
      rw [← h0]
      simp [hlt, ch_eq, hc, hw, e1, e2, e3, e4, bl]
    · rw [if_neg h34]
      have h0 := ih (k + 1) (acc ++ [c]) (by omega) (by omega) (by simp; omega)
      rw [succ_cast] at h0
      rw [← h0]
      simp [hlt, ch_eq, hc, eq_false h34, hw, e1, e2, bl]
theorem rj_loop (l : List ByteArray) (hl : lenB l ≤ 67108864) (y : Nat) : ∀ (n k : Nat) (acc : List Nat), l.length - k = n → k ≤ l.length → acc.length + lenB (l.drop k) ≤ 67108864 →
    Exec T l2_thicketref03_Join (rjE l y acc k) = some (.exit 4, rjE l y (joinA y (decide (k = 0)) acc (l.drop k)) l.length) := by
  intro n
  induction n with
  | zero =>
    intro k acc hn hk ha
    obtain rfl : k = l.length := by omega
    rw [ex2_thicketref03_Join]
    simp [rjE, joinA]
  | succ n ih =>
    intro k acc hn hk ha
    have hlt : k < l.length := by omega
    have hll := lenB_len l
    have hw := wrap_succ hlt (by omega)
    obtain ⟨f, hv⟩ : ∃ f, l[k] = f := ⟨_, rfl⟩
    have hf : f.size ≤ lenB l := lenB_all l f (by rw [← hv]; exact List.getElem_mem hlt)
    have hd : l.drop k = f :: l.drop (k + 1) := by rw [List.drop_eq_getElem_cons hlt, hv]
    have hg : (tl l)[k]'(by rw [tl_length]; exact hlt) = .v (.string f) := by simp [tl, hv]
    rw [hd, lenB] at ha
    rw [hd, joinA]
    obtain ⟨acc1, ha1⟩ : ∃ a, (if decide (k = 0) = true then acc else acc ++ [y]) = a := ⟨_, rfl⟩
    have hlen : acc1.length ≤ acc.length + 1 := by rw [← ha1]; split <;> simp
    have ho := outF_len y f
    have h0 := ih (k + 1) (acc1 ++ outF y f) (by omega) (by omega) (by rw [List.length_append]; omega)
    rw [show (decide (k + 1 = 0)) = false from rfl] at h0
    rw [ha1]
    rw [← h0, ex2_thicketref03_Join]
    have h1 := rj_in l f (by omega) y acc1 k f.size 0 (decide (0 < f.size) && decide (ch f 0 = 34)) rfl (Nat.zero_le _)
    simp only [Int.natCast_zero] at h1
    rw [show ((decide (0 < f.size) && decide (ch f 0 = 34)) || byB f y f.size 0) = inQ y f from rfl] at h1
    have e1 : acc.length ≤ 140737488355327 := by omega
    have e2 : acc.length ≤ 4611686018427387903 := by omega
    have hinit : ∀ a : List Nat, a = acc1 → Exec T j12_thicketref03_Join [(0, .ro 1 (tl l)), (1, .v (.int .u8 y)), (9, .own 1 (bl a)), (11, .v (.string f)), (51, .ro 1 (tl l)), (52, .v (.int .i64 l.length)), (53, .v (.int .i64 k)), (63, .dead), (90, .dead), (93, .dead), (106, .dead), (112, .dead), (115, .dead)] =
        Exec T j11_thicketref03_Join [(0, .ro 1 (tl l)), (1, .v (.int .u8 y)), (9, .own 1 (bl acc1)), (11, .v (.string f)), (12, .v (.bool (inQ y f))), (51, .ro 1 (tl l)), (52, .v (.int .i64 l.length)), (53, .v (.int .i64 k)), (63, .dead), (90, .dead), (93, .dead), (106, .dead), (112, .dead), (115, .dead)] := by
      rintro a rfl
      by_cases hz : 0 < f.size
      · by_cases h34 : ch f 0 = 34
        · rw [decide_eq_true hz, decide_eq_true h34, Bool.and_true] at h1
          simp [hz, ch_eq, h34, h1, -j11_thicketref03_Join]
        · rw [decide_eq_true hz, decide_eq_false h34, Bool.and_false] at h1
          have h34' : ¬ (ch f 0 : Int) = 34 := by omega
          simp [hz, ch_eq, h34, h34', h1, -j11_thicketref03_Join]
      · rw [decide_eq_false hz] at h1
        have hz0 : f.size = 0 := by omega
        simp [hz0] at h1
        simp [hz0, h1, -j11_thicketref03_Join]
    have f1 : acc1.length ≤ 140737488355327 := by omega
    have f2 : acc1.length ≤ 4611686018427387903 := by omega
    have f3 : acc1.length + f.size ≤ 140737488355328 := by omega
    have f4 : acc1.length + f.size ≤ 4611686018427387904 := by omega
    have hfin : ∀ b, inQ y f = b → andThen (inBlock 5 (Exec T j11_thicketref03_Join [(0, .ro 1 (tl l)), (1, .v (.int .u8 y)), (9, .own 1 (bl acc1)), (11, .v (.string f)), (12, .v (.bool (inQ y f))), (51, .ro 1 (tl l)), (52, .v (.int .i64 l.length)), (53, .v (.int .i64 k)), (63, .dead), (90, .dead), (93, .dead), (106, .dead), (112, .dead), (115, .dead)])) (Exec T k13_thicketref03_Join) =
        some (.normal, [(0, .ro 1 (tl l)), (1, .v (.int .u8 y)), (9, .own 1 (bl (acc1 ++ outF y f))), (51, .ro 1 (tl l)), (52, .v (.int .i64 l.length)), (53, .v (.int .i64 ((k : Int) + 1))), (63, .dead), (90, .dead), (93, .dead), (106, .dead), (112, .dead), (115, .dead)]) := by
      intro b hb
      unfold outF
      cases b with
      | true =>
        have g1 : acc1.length + ((dblN (bs f)).length + 1) ≤ 140737488355327 := by
          have := dblN_len (bs f)
          rw [bs_length] at this
          omega
        have g2 : acc1.length + ((dblN (bs f)).length + 1) ≤ 4611686018427387903 := by omega
        have h2 := rj_dbl l f (by omega) y k f.size 0 (acc1 ++ [34]) rfl (Nat.zero_le _) (by simp; omega)
        rw [List.drop_zero] at h2
        simp [bl_cons] at h2
        simp [hb, h2, f1, f2, g1, g2, hw, bl_cons]
      | false =>
        have hbl : bl (acc1 ++ bs f) = bl acc1 ++ byteList f := by
          rw [bl_app]
          congr 1
          simp [bl, bs, byteList]
        have hbyl : (byteList f).length = f.size := byteList_length f
        simp [hb, f3, f4, hw, hbl, hbyl]
    have hfin := hfin _ rfl
    by_cases hk0 : k = 0
    · subst hk0
      have hinit := hinit acc (by rw [← ha1]; rfl)
      simp only [Int.natCast_zero] at hinit
      simp [rjE, hlt, hg, hinit, -j12_thicketref03_Join, -j11_thicketref03_Join, -tl13_thicketref03_Join] at hfin ⊢
      rw [hfin]
      simp
    · have hinit := hinit (acc ++ [y]) (by rw [← ha1]; simp [hk0])
      have hkp : 0 < k := by omega
      simp only [bl_append] at hinit
      simp [rjE, hlt, hg, hkp, e1, e2, hinit, -j12_thicketref03_Join, -j11_thicketref03_Join, -tl13_thicketref03_Join] at hfin ⊢
      rw [hfin]
      simp
theorem c_rJoin (l : List ByteArray) (hl : lenB l ≤ 67108864) (y : Nat) : Cinf T n_thicketref03_Join [.ro 1 (tl l), .v (.int .u8 y)] = some (joinR y l, [.dead, .dead]) := by
  have hll := lenB_len l
  have h1 := rj_all l hl (.v (.int .u8 y)) (fun _ _ => rfl) l.length 0 rfl (Nat.zero_le _)
  have h2 := rj_loop l hl y l.length 0 [] rfl (Nat.zero_le _) (by rw [List.drop_zero]; simpa using hl)
  simp only [Int.natCast_zero, List.drop_zero, rjE, bl_nil] at h1 h2
  have hbytes := bl_bytes (joinA y true [] l)
  rw [run_thicketref03_Join]
  unfold joinR badB
  by_cases b1 : y = 34
  · simp [Run, eq_true b1]
  by_cases b2 : y = 10
  · simp [Run, eq_false b1, eq_true b2]
  by_cases b3 : y = 13
  · simp [Run, eq_false b1, eq_false b2, eq_true b3]
  cases hn : nlAny l with
  | true =>
    rw [hn] at h1
    simp [Run, eq_false b1, eq_false b2, eq_false b3, h1]
  | false =>
    rw [hn] at h1
    by_cases hz : l.length = 0
    · obtain rfl : l = [] := List.eq_nil_of_length_eq_zero hz
      simp at h1
      simp [Run, eq_false b1, eq_false b2, eq_false b3, h1]
    · simp [hz] at h2
      simp [Run, eq_false b1, eq_false b2, eq_false b3, h1, hz, h2, hbytes, bytesOf]
end Go.AM.F
