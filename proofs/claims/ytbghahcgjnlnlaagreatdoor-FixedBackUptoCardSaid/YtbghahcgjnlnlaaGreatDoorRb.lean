/- Decimals rounded; FixedReads. No conditions. -/
import Derived.Test.YtbghahcgjnlnlaaGreatDoorRa
import Derived.Test.YtbghahcgjnlnlaaGreatDoorL34
import Derived.KernelRfl
/- Powers that are said, digits as naturals, powers of ten. No conditions. -/
namespace Go.AM.F
open Go Go.AM
set_option maxRecDepth 10000
set_option linter.unusedSimpArgs false
attribute [local simp] j0_fixed_clamped j1_fixed_clamped w0_fixed_clamped j2_fixed_clamped j3_fixed_clamped b_fixed_clamped a_fixed_clamped
theorem dV_take_succ {l : List UInt8} {i : Nat} (hlt : i < l.length) : dV (l.take (i + 1)) = 10 * dV (l.take i) + ((l[i]).toNat - 48) := by
  rw [List.take_succ_eq_append_getElem hlt, dV_snoc]
/-- The number of the digits of a power, as it is taken. -/
def pwN (l : List UInt8) : Nat := min (dV l) 100000
theorem clamped_loop (pre l : List UInt8) (ha : AllD l) (hl : pre.length + l.length ≤ 1000000) : ∀ (n i v : Nat), l.length - i = n → i ≤ l.length → min (dV (l.take i)) 100000 = v →
    Exec T l0_fixed_clamped [(0, .v (.string (tx (pre ++ l)))), (3, .v (.int .i64 v)), (6, .v (.int .i64 (pre ++ l).length)), (7, .v (.int .i64 (pre.length + i : Nat)))] = some (.exit 0, [(0, .v (.string (tx (pre ++ l)))), (3, .v (.int .i64 (pwN l))), (6, .v (.int .i64 (pre ++ l).length)), (7, .v (.int .i64 (pre ++ l).length))]) := by
  intro n
  induction n with
  | zero =>
    intro i v hn hi hv
    obtain rfl : i = l.length := by omega
    rw [List.take_of_length_le (Nat.le_refl _)] at hv
    subst hv
    rw [ex0_fixed_clamped, ← List.length_append]
    obtain ⟨L, hL⟩ : ∃ L, pre ++ l = L := ⟨_, rfl⟩
    rw [hL]
    simp [pwN]
  | succ n ih =>
    intro i v hn hi hv
    have hlt : i < l.length := by omega
    have hx := ha _ (List.getElem_mem hlt)
    have hv2 := dV_take_succ hlt
    have hlt2 : pre.length + i < (pre ++ l).length := by simp; omega
    have hg : (pre ++ l)[pre.length + i]'hlt2 = l[i] := by simp
    obtain ⟨c, hc⟩ : ∃ c, (l[i]).toNat = c := ⟨_, rfl⟩
    rw [hc] at hx hv2
    rw [← hg] at hc
    obtain ⟨d, hd⟩ : ∃ d, c - 48 = d := ⟨_, rfl⟩
    rw [hd] at hv2
    have h0 := ih (i + 1) (min (10 * v + d) 100000) (by omega) (by omega) (by omega)
    rw [← Nat.add_assoc] at h0
    have hsz : (pre ++ l).length ≤ 1000000 := by simp; omega
    obtain ⟨k, hk⟩ : ∃ k, pre.length + i = k := ⟨_, rfl⟩
    simp only [hk] at hlt2 hc h0 ⊢
    obtain ⟨L, hL⟩ : ∃ L, pre ++ l = L := ⟨_, rfl⟩
    simp only [hL] at hlt2 hc h0 hsz ⊢
    have hv9 : v ≤ 100000 := by omega
    have hw := wrap_succ hlt2 (by omega)
    have w1 : IntKind.u8.wrap ((c : Int) - 48) = (d : Int) := by rw [wrap_u8] <;> omega
    have w2 : IntKind.i64.wrap (d : Int) = (d : Int) := by rw [wrap_i64] <;> omega
    obtain ⟨f, hf⟩ : ∃ f, 10 * v = f := ⟨_, rfl⟩
    have w5 : IntKind.i64.wrap (10 * (v : Int)) = (f : Int) := by rw [wrap_i64] <;> omega
    obtain ⟨g, hg2⟩ : ∃ g, f + d = g := ⟨_, rfl⟩
    have w6 : IntKind.i64.wrap ((f : Int) + d) = (g : Int) := by rw [wrap_i64] <;> omega
    rw [hf, hg2] at h0
    have e3 : (if (g : Int) < 100000 then (g : Int) else 100000) = ((min g 100000 : Nat) : Int) := by split <;> omega
    have e4 : (if 100000 < g then (100000 : Int) else (g : Int)) = ((min g 100000 : Nat) : Int) := by split <;> omega
    have c45 : ¬ c = 45 := by omega
    rw [succ_cast] at h0
    rw [← h0, ex0_fixed_clamped]
    simp [hlt2, hc, c45, w1, w2, w5, w6, hw, e3, e4]
theorem first_dig {l : List UInt8} (ha : AllD l) : ¬ (1 ≤ (tx l).size ∧ ch (tx l) 0 = 45) := by
  rintro ⟨h1, h2⟩
  cases l with
  | nil => simp at h1
  | cons x l =>
    have h3 := ha x (by simp)
    rw [ch_tx] at h2
    simp at h2
    omega
theorem c_clamped (neg : Bool) (l : List UInt8) (ha : AllD l) (hl : l.length ≤ 900000) : Cinf T n_fixed_clamped [.v (.string (tx ((if neg then [45] else []) ++ l)))] = some (.v (.int .i64 (if neg then -(pwN l : Int) else pwN l)), [.dead]) := by
  rw [run_fixed_clamped]
  have hp : pwN l ≤ 100000 := by unfold pwN; omega
  cases neg with
  | false =>
    have h0 := clamped_loop [] l ha (by simp; omega) l.length 0 0 rfl (Nat.zero_le _) (by simp [dV])
    rw [List.nil_append, List.length_nil, Nat.add_zero, Int.natCast_zero] at h0
    have hn := c_HP (tx l) 45
    rw [show (45 : UInt8).toNat = 45 from rfl, decide_eq_false (first_dig ha)] at hn
    simp [Run, h0, hn]
  | true =>
    have h0 := clamped_loop [45] l ha (by simp; omega) l.length 0 0 rfl (Nat.zero_le _) (by simp [dV])
    rw [Nat.add_zero, Int.natCast_zero] at h0
    have hn := c_HP (tx ([45] ++ l)) 45
    have h1 : 1 ≤ (tx ([45] ++ l)).size ∧ ch (tx ([45] ++ l)) 0 = (45 : UInt8).toNat := ⟨by simp, by rw [ch_tx]; rfl⟩
    rw [decide_eq_true h1] at hn
    rw [if_pos rfl, if_pos rfl]
    have hc : ([45] ++ l)[0]'(by simp) = 45 := rfl
    have hlen : ([45] ++ l).length = l.length + 1 := by simp
    have w1 : IntKind.i64.wrap (-(pwN l : Int)) = -(pwN l : Int) := by rw [wrap_i64] <;> omega
    obtain ⟨L, hL⟩ : ∃ L, [45] ++ l = L := ⟨_, rfl⟩
    simp only [hL] at h0 hn hc hlen ⊢
    have hpos : 0 < L.length := by omega
    have hfirst : Exec T l0_fixed_clamped [(0, .v (.string (tx L))), (3, .v (.int .i64 0)), (6, .v (.int .i64 L.length)), (7, .v (.int .i64 0))] = Exec T l0_fixed_clamped [(0, .v (.string (tx L))), (3, .v (.int .i64 0)), (6, .v (.int .i64 L.length)), (7, .v (.int .i64 ([45] : List UInt8).length))] := by
      rw [ex0_fixed_clamped]
      simp [hpos, hc]
    rw [h0] at hfirst
    simp [Run, hfirst, hn, w1]
/-- The sign that may stand before a power. -/
inductive Sgn where | none | plus | minus
def Sgn.txt : Sgn → List UInt8
  | .none => []
  | .plus => [43]
  | .minus => [45]
def Sgn.neg : Sgn → Bool
  | .minus => true
  | _ => false
/-! ### A natural times a limb -/
theorem fit_dV {l : List UInt8} (ha : AllD l) (hl : l.length ≤ 1000000) : Fit (limbs (dV l)) :=
  fit_small l.length (Nat.lt_of_lt_of_le (dV_lt ha) (Nat.pow_le_pow_left (by decide) _)) (by omega)
end Go.AM.F

/- A decimal taken apart, by the program. No conditions. -/
namespace Go.AM.F
open Go Go.AM
set_option maxRecDepth 10000
set_option linter.unusedSimpArgs false
attribute [local simp] j0_fixed_decimal j1_fixed_decimal j2_fixed_decimal j3_fixed_decimal j4_fixed_decimal j5_fixed_decimal j6_fixed_decimal j7_fixed_decimal b_fixed_decimal a_fixed_decimal
attribute [local simp] j0_stringslite_TrimPrefix b_stringslite_TrimPrefix a_stringslite_TrimPrefix b_strings_TrimPrefix a_strings_TrimPrefix
/-- Where the digits and their point end; the power's parts. -/
def e0 (s : ByteArray) : Nat := if dotT s then pE s else wE s
def eT (s : ByteArray) : Bool := decide (e0 s < s.size ∧ (ch s (e0 s) = 101 ∨ ch s (e0 s) = 69))
def sgAt (s : ByteArray) (k : Nat) : Sgn := if k < s.size ∧ ch s k = 43 then .plus else if k < s.size ∧ ch s k = 45 then .minus else .none
def p1 (s : ByteArray) : Nat := e0 s + 1 + (sgAt s (e0 s + 1)).txt.length
def qE (s : ByteArray) : Nat := dgE s (p1 s)
def sgT (s : ByteArray) : Sgn := if eT s then sgAt s (e0 s + 1) else .none
def pwL (s : ByteArray) : List UInt8 := if eT s then sub s (p1 s) (qE s) else []
/-- The fault from there on. -/
def fT (s : ByteArray) : Option Nat := if eT s then (if qE s = p1 s ∨ qE s < s.size then some (qE s) else none) else if e0 s < s.size then some (e0 s) else none
def fD (s : ByteArray) : Option Nat := if wE s = fr s then some (wE s) else if dotT s = true ∧ pE s = wE s + 1 then some (pE s) else fT s
theorem e0_le (s : ByteArray) : e0 s ≤ s.size := by
  unfold e0
  cases h : dotT s
  · exact (wE_le s).2
  · exact (pE_le h).2
theorem sub_cons (s : ByteArray) {a b : Nat} (h : a < b) (hb : b ≤ s.size) {x : UInt8} (hx : ch s a = x.toNat) : sub s a b = x :: sub s (a + 1) b := by
  have hl := data_len s
  have hlt : a < (s.data.toList.take b).length := by rw [List.length_take]; omega
  unfold sub
  rw [List.drop_eq_getElem_cons hlt]
  congr 1
  rw [List.getElem_take]
  unfold ch at hx
  rw [List.getD_eq_getElem?_getD, List.getElem?_eq_getElem (by omega)] at hx
  exact UInt8.toNat_inj.1 hx
theorem sgAt_sub (s : ByteArray) {k b : Nat} (h : k + (sgAt s k).txt.length ≤ b) (hb : b ≤ s.size) : sub s k b = (sgAt s k).txt ++ sub s (k + (sgAt s k).txt.length) b := by
  unfold sgAt at h ⊢
  by_cases h1 : k < s.size ∧ ch s k = 43
  · rw [if_pos h1] at h ⊢
    exact sub_cons s (show k < b from h) hb (x := 43) h1.2
  · rw [if_neg h1] at h ⊢
    by_cases h2 : k < s.size ∧ ch s k = 45
    · rw [if_pos h2] at h ⊢
      exact sub_cons s (show k < b from h) hb (x := 45) h2.2
    · rw [if_neg h2] at h ⊢
      rfl
theorem c_lTP (t : ByteArray) (h : decide (1 ≤ t.size ∧ ch t 0 = 43) = false) : Cinf T n_strings_TrimPrefix [.v (.string t), .v (.string ⟨#[43]⟩)] = some (.v (.string t), [.dead, .dead]) := by
  have h1 := c_lHP t 43
  rw [show (43 : UInt8).toNat = 43 from rfl, h] at h1
  have h2 : Cinf T n_stringslite_TrimPrefix [.v (.string t), .v (.string ⟨#[43]⟩)] = some (.v (.string t), [.dead, .dead]) := by
    rw [run_stringslite_TrimPrefix]
    simp [Run, h1]
  rw [run_strings_TrimPrefix]
  simp [Run, h2]
theorem c_lTPp (l : List UInt8) : Cinf T n_strings_TrimPrefix [.v (.string (tx (43 :: l))), .v (.string ⟨#[43]⟩)] = some (.v (.string (tx l)), [.dead, .dead]) := by
  have h1 := c_lHP (tx (43 :: l)) 43
  have h : decide (1 ≤ (tx (43 :: l)).size ∧ ch (tx (43 :: l)) 0 = (43 : UInt8).toNat) = true := decide_eq_true ⟨by simp, by rw [ch_tx]; rfl⟩
  rw [h] at h1
  have h3 := tx_drop (43 :: l) 1
  have hlen : (tx (43 :: l)).size = l.length + 1 := by simp
  rw [List.length_cons, ← hlen, show (43 :: l).drop 1 = l from rfl] at h3
  have hsz : (ByteArray.mk #[43]).size = 1 := rfl
  have h2 : Cinf T n_stringslite_TrimPrefix [.v (.string (tx (43 :: l))), .v (.string ⟨#[43]⟩)] = some (.v (.string (tx l)), [.dead, .dead]) := by
    rw [run_stringslite_TrimPrefix]
    obtain ⟨t, ht⟩ : ∃ t, tx (43 :: l) = t := ⟨_, rfl⟩
    rw [ht] at h1 h3 hlen ⊢
    have e1 : 1 ≤ t.size := by omega
    simp [Run, h1, hsz, h3, e1]
  rw [run_strings_TrimPrefix]
  simp [Run, h2]
theorem c_TrimPlus (g : Sgn) (l : List UInt8) (ha : AllD l) : Cinf T n_strings_TrimPrefix [.v (.string (tx (g.txt ++ l))), .v (.string ⟨#[43]⟩)] = some (.v (.string (tx ((if g.neg then [45] else []) ++ l))), [.dead, .dead]) := by
  cases g with
  | plus => exact c_lTPp l
  | minus =>
    refine c_lTP (tx ([45] ++ l)) (decide_eq_false ?_)
    rintro ⟨_, h2⟩
    rw [ch_tx] at h2
    simp at h2
  | none =>
    refine c_lTP (tx l) (decide_eq_false ?_)
    rintro ⟨h1, h2⟩
    cases l with
    | nil => simp at h1
    | cons x l =>
      have h3 := ha x (by simp)
      rw [ch_tx] at h2
      simp at h2
      omega
/-- What is handed back. -/
def retD (f : Option Nat) (A : ByteArray) (b : Int) (p : ByteArray) : Env := match f with
  | some k => [(2, .v (.string ⟨#[]⟩)), (3, .v (.int .i64 0)), (4, .v (.string ⟨#[]⟩)), (5, .v (.int .i64 k))]
  | none => [(2, .v (.string A)), (3, .v (.int .i64 b)), (4, .v (.string p)), (5, .v (.int .i64 (-1)))]
def pwT (s : ByteArray) : ByteArray := tx ((if (sgT s).neg then [45] else []) ++ pwL s)
set_option maxHeartbeats 4000000 in
theorem dec_tailP (s : ByteArray) (hs : s.size ≤ 4096) (A : ByteArray) (b : Int) : Exec T k5_fixed_decimal [(0, .v (.string s)), (2, .v (.string A)), (3, .v (.int .i64 b)), (4, .v (.string ⟨#[]⟩)), (7, .v (.int .i64 (e0 s)))] = some (.ret, retD (fT s) A b (pwT s)) := by
  have hle := e0_le s
  unfold fT pwT
  cases heT : eT s with
  | false =>
    have hpw : pwL s = [] := by unfold pwL; rw [heT]; rfl
    have hsg : sgT s = .none := by unfold sgT; rw [heT]; rfl
    rw [hpw, hsg]
    have hn : ¬ (e0 s < s.size ∧ (ch s (e0 s) = 101 ∨ ch s (e0 s) = 69)) := of_decide_eq_false heT
    obtain ⟨e, he⟩ : ∃ e, e0 s = e := ⟨_, rfl⟩
    rw [he] at hn hle ⊢
    have e00 : (⟨#[]⟩ : ByteArray) = tx [] := rfl
    by_cases h1 : e < s.size
    · have h2 : ¬ ch s e = 101 := fun h => hn ⟨h1, .inl h⟩
      have h3 : ¬ ch s e = 69 := fun h => hn ⟨h1, .inr h⟩
      simp [h1, h2, h3, ch_eq, retD]
    · simp [h1, retD, Sgn.neg, e00]
  | true =>
    have hpw : pwL s = sub s (p1 s) (qE s) := by unfold pwL; rw [heT]; rfl
    have hsg : sgT s = sgAt s (e0 s + 1) := by unfold sgT; rw [heT]; rfl
    have hn : e0 s < s.size ∧ (ch s (e0 s) = 101 ∨ ch s (e0 s) = 69) := of_decide_eq_true heT
    have hp1 : p1 s ≤ s.size := by
      unfold p1 sgAt
      split
      · rename_i h; simp [Sgn.txt]; omega
      · split
        · rename_i h; simp [Sgn.txt]; omega
        · simp [Sgn.txt]; omega
    have hq := dgE_le s hp1
    rw [show dgE s (p1 s) = qE s from rfl] at hq
    have hd := c_digits s (p1 s) hp1 (by omega)
    rw [show dgE s (p1 s) = qE s from rfl] at hd
    have hsub := sgAt_sub s (k := e0 s + 1) (b := qE s) hq.1 hq.2
    have hex : s.extract (e0 s + 1) (qE s) = tx (sub s (e0 s + 1) (qE s)) := extract_sub s _ _
    rw [hsub] at hex
    have hall : AllD (sub s (p1 s) (qE s)) := AllD.sub s hq.2 fun _ h1 h2 => dgE_good s h1 h2
    have htr := c_TrimPlus (sgAt s (e0 s + 1)) (sub s (p1 s) (qE s)) hall
    rw [show e0 s + 1 + (sgAt s (e0 s + 1)).txt.length = p1 s from rfl] at hex
    rw [hpw, hsg, if_pos rfl]
    have hw1 := wrap_succ hn.1 (by omega)
    have hw2 : e0 s + 1 < s.size → IntKind.i64.wrap ((e0 s : Int) + 1 + 1) = (e0 s : Int) + 1 + 1 := fun h => by rw [wrap_i64] <;> omega
    have hp : (p1 s : Int) = (e0 s : Int) + 1 + (sgAt s (e0 s + 1)).txt.length := by unfold p1; omega
    have hle1 : e0 s + 1 ≤ qE s := by unfold p1 at hq; omega
    obtain ⟨e, he⟩ : ∃ e, e0 s = e := ⟨_, rfl⟩
    obtain ⟨q, hqe⟩ : ∃ e, qE s = e := ⟨_, rfl⟩
    obtain ⟨p, hpe⟩ : ∃ e, p1 s = e := ⟨_, rfl⟩
    rw [hpe, hqe] at hd
    simp only [he, hqe, hpe] at hn hle hp1 hq hex htr hw1 hw2 hp hle1 ⊢
    obtain ⟨D, hD⟩ : ∃ D, sub s p q = D := ⟨_, rfl⟩
    rw [hD] at hex htr ⊢
    obtain ⟨h1, h2⟩ := hn
    have hq1 : q = p ∨ p < q := by omega
    by_cases g1 : e + 1 < s.size ∧ ch s (e + 1) = 43
    · have hg : sgAt s (e + 1) = .plus := by unfold sgAt; rw [if_pos g1]
      rw [hg] at hp hex htr ⊢
      have hpi : (p : Int) = (e : Int) + 1 + 1 := hp
      rw [hpi] at hd
      have hw2 := hw2 g1.1
      rcases hq1 with hq1 | hq1
      · rw [if_pos (.inl hq1)]
        rw [decide_eq_false (by omega)] at hd
        rcases h2 with h2 | h2 <;> simp [h1, h2, ch_eq, hw1, g1, hw2, hd, retD]
      · rw [decide_eq_true hq1] at hd
        by_cases h5 : q < s.size
        · rw [if_pos (.inr h5)]
          rcases h2 with h2 | h2 <;> simp [h1, h2, ch_eq, hw1, g1, hw2, hd, hle1, hq.2, hex, htr, h5, retD]
        · rw [if_neg (by omega)]
          rcases h2 with h2 | h2 <;> simp [h1, h2, ch_eq, hw1, g1, hw2, hd, hle1, hq.2, hex, htr, h5, retD]
    · by_cases g2 : e + 1 < s.size ∧ ch s (e + 1) = 45
      · have hg : sgAt s (e + 1) = .minus := by unfold sgAt; rw [if_neg g1, if_pos g2]
        rw [hg] at hp hex htr ⊢
        have hpi : (p : Int) = (e : Int) + 1 + 1 := hp
        rw [hpi] at hd
        have hw2 := hw2 g2.1
        rcases hq1 with hq1 | hq1
        · rw [if_pos (.inl hq1)]
          rw [decide_eq_false (by omega)] at hd
          rcases h2 with h2 | h2 <;> simp [h1, h2, ch_eq, hw1, g2, hw2, hd, retD]
        · rw [decide_eq_true hq1] at hd
          by_cases h5 : q < s.size
          · rw [if_pos (.inr h5)]
            rcases h2 with h2 | h2 <;> simp [h1, h2, ch_eq, hw1, g2, hw2, hd, hle1, hq.2, hex, htr, h5, retD]
          · rw [if_neg (by omega)]
            rcases h2 with h2 | h2 <;> simp [h1, h2, ch_eq, hw1, g2, hw2, hd, hle1, hq.2, hex, htr, h5, retD]
      · have hg : sgAt s (e + 1) = .none := by unfold sgAt; rw [if_neg g1, if_neg g2]
        rw [hg] at hp hex htr ⊢
        have hpi : (p : Int) = (e : Int) + 1 := by simpa [Sgn.txt] using hp
        rw [hpi] at hd
        have g3 : e + 1 < s.size → ¬ ch s (e + 1) = 43 := fun h k => g1 ⟨h, k⟩
        have g4 : e + 1 < s.size → ¬ ch s (e + 1) = 45 := fun h k => g2 ⟨h, k⟩
        by_cases g5 : e + 1 < s.size
        · have g3 := g3 g5
          have g4 := g4 g5
          rcases hq1 with hq1 | hq1
          · rw [if_pos (.inl hq1)]
            rw [decide_eq_false (by omega)] at hd
            rcases h2 with h2 | h2 <;> simp [h1, h2, ch_eq, hw1, g3, g4, g5, hd, retD]
          · rw [decide_eq_true hq1] at hd
            by_cases h5 : q < s.size
            · rw [if_pos (.inr h5)]
              rcases h2 with h2 | h2 <;> simp [h1, h2, ch_eq, hw1, g3, g4, g5, hd, hle1, hq.2, hex, htr, h5, retD]
            · rw [if_neg (by omega)]
              rcases h2 with h2 | h2 <;> simp [h1, h2, ch_eq, hw1, g3, g4, g5, hd, hle1, hq.2, hex, htr, h5, retD]
        · have hq2 : q = p := by omega
          rw [if_pos (.inl hq2)]
          rw [decide_eq_false (by omega)] at hd
          rcases h2 with h2 | h2 <;> simp [h1, h2, ch_eq, hw1, g5, hd, retD]
end Go.AM.F

/- A decimal taken apart, by the program and by the document. No conditions. -/
namespace Go.AM.F
open Go Go.AM
set_option maxRecDepth 10000
set_option linter.unusedSimpArgs false
attribute [local simp] j0_fixed_decimal j1_fixed_decimal j2_fixed_decimal j3_fixed_decimal j4_fixed_decimal j5_fixed_decimal j6_fixed_decimal j7_fixed_decimal b_fixed_decimal a_fixed_decimal
def decR (s : ByteArray) : PV := match fD s with
  | some k => .tup [.v (.string ⟨#[]⟩), .v (.int .i64 0), .v (.string ⟨#[]⟩), .v (.int .i64 k)]
  | none => .tup [.v (.string (tx (wL s ++ pL s))), .v (.int .i64 (pL s).length), .v (.string (pwT s)), .v (.int .i64 (-1))]
set_option maxHeartbeats 4000000 in
theorem dec_key (s : ByteArray) (hs : s.size ≤ 4096) : Exec T k7_fixed_decimal [(0, .v (.string s)), (3, .v (.int .i64 0)), (4, .v (.string ⟨#[]⟩)), (6, .v (.int .i64 (fr s)))] = some (.ret, retD (fD s) (tx (wL s ++ pL s)) (pL s).length (pwT s)) := by
  have hd := c_digits s (fr s) (fr_le s).1 (by omega)
  have ha := wE_le s
  have hx1 : s.extract (fr s) (wE s) = tx (wL s) := extract_sub s _ _
  have hwl := wL_len s
  rw [show dgE s (fr s) = wE s from rfl] at hd
  unfold fD
  by_cases c1 : wE s = fr s
  · rw [if_pos c1]
    rw [c1, decide_eq_false (by omega)] at hd
    simp [hd, retD, c1]
  rw [if_neg c1]
  rw [decide_eq_true (by omega)] at hd
  by_cases c2 : dotT s = true
  · have hdl := dotT_lt c2
    have hp := pE_le c2
    have hd2 := c_digits s (wE s + 1) (by omega) (by omega)
    rw [show dgE s (wE s + 1) = pE s from rfl, succ_cast] at hd2
    have hw1 := wrap_succ hdl.1 (by omega)
    have hpl : pL s = sub s (wE s + 1) (pE s) := by rw [pL, if_pos c2]
    have hpn : (pL s).length = pE s - (wE s + 1) := by rw [hpl, sub_len s hp.2]
    have hx2 : s.extract (wE s + 1) (pE s) = tx (pL s) := by rw [hpl]; exact extract_sub s _ _
    have he0 : e0 s = pE s := by unfold e0; rw [if_pos c2]
    have htl := dec_tailP s hs (tx (wL s ++ pL s)) (pL s).length
    rw [he0] at htl
    obtain ⟨R, hR⟩ : ∃ R, retD (fT s) (tx (wL s ++ pL s)) (pL s).length (pwT s) = R := ⟨_, rfl⟩
    by_cases c3 : pE s = wE s + 1
    · rw [if_pos ⟨c2, c3⟩]
      rw [c3, decide_eq_false (by omega)] at hd2
      simp [hd, ha, hx1, hdl, ch_eq, hw1, hd2, retD, c3]
    · rw [if_neg (fun h => c3 h.2), hR]
      rw [hR] at htl
      rw [decide_eq_true (by omega)] at hd2
      have wt : IntKind.i64.wrap ((pE s : Int) - wE s) = ((pE s - wE s : Nat) : Int) := by rw [wrap_i64] <;> omega
      obtain ⟨q, hq⟩ : ∃ q, pE s - wE s = q := ⟨_, rfl⟩
      rw [hq] at wt
      have wb : IntKind.i64.wrap ((q : Int) - 1) = ((pL s).length : Int) := by rw [wrap_i64] <;> omega
      have e1 : (wL s).length + (pL s).length ≤ 9223372036854775807 := by omega
      simp [-tl5_fixed_decimal, hd, ha, hx1, hx2, hp, hdl, ch_eq, hw1, hd2, wt, wb, e1, tx_append, htl]
  · have hdn : ¬ (wE s < s.size ∧ ch s (wE s) = 46) := fun h => c2 (by simpa [dotT] using h)
    have hpl : pL s = [] := by rw [pL, if_neg c2]
    have he0 : e0 s = wE s := by unfold e0; rw [if_neg c2]
    have htl := dec_tailP s hs (tx (wL s)) 0
    rw [he0] at htl
    rw [if_neg (fun h => c2 h.1), hpl, List.append_nil, List.length_nil, Int.natCast_zero]
    obtain ⟨R, hR⟩ : ∃ R, retD (fT s) (tx (wL s)) 0 (pwT s) = R := ⟨_, rfl⟩
    rw [hR] at htl ⊢
    by_cases c5 : wE s < s.size
    · have c6 : ¬ ch s (wE s) = 46 := fun h => hdn ⟨c5, h⟩
      simp [-tl5_fixed_decimal, hd, ha, hx1, c5, c6, ch_eq, htl]
    · simp [-tl5_fixed_decimal, hd, ha, hx1, c5, ch_eq, htl]
theorem c_decimal (s : ByteArray) (hs : s.size ≤ 4096) : Cinf T n_fixed_decimal [.v (.string s)] = some (decR s, [.dead]) := by
  have key := dec_key s hs
  have hn := c_neg s
  have hfe : (if negT s = true then (1 : Int) else 0) = (fr s : Int) := by unfold fr; cases negT s <;> rfl
  rw [run_fixed_decimal]
  unfold decR
  cases hf : fD s with
  | some k =>
    rw [hf] at key
    simp only [retD] at key
    cases hN : negT s
    · rw [hN] at hn hfe
      simp at hfe
      rw [← hfe] at key
      simp [-tl7_fixed_decimal, Run, hn, key]
    · rw [hN] at hn hfe
      simp at hfe
      rw [← hfe] at key
      simp [-tl7_fixed_decimal, Run, hn, key]
  | none =>
    rw [hf] at key
    simp only [retD] at key
    cases hN : negT s
    · rw [hN] at hn hfe
      simp at hfe
      rw [← hfe] at key
      simp [-tl7_fixed_decimal, Run, hn, key]
    · rw [hN] at hn hfe
      simp at hfe
      rw [← hfe] at key
      simp [-tl7_fixed_decimal, Run, hn, key]
/-! ### The document's -/
def txtC (n : Bool) (W P Q : ByteArray) : List PV := [.v (.bool false), .v (.bool false), .v (.bool false), .v (.int .u64 0), .v (.int .i64 0), .v (.bool false), .v (.bool n), .v (.bool false), .v (.string W), .v (.string P), .v (.string Q)]
def atI : Option Nat → Int
  | some k => k
  | none => -1
end Go.AM.F

/- The document's Split of a decimal. No conditions. -/
namespace Go.AM.F
open Go Go.AM
set_option maxRecDepth 10000
set_option linter.unusedSimpArgs false
end Go.AM.F

/- Decimals rounded: what is answered, in plain numbers. No conditions. -/
namespace Go.AM.F
open Go Go.AM
set_option maxRecDepth 10000
set_option linter.unusedSimpArgs false

def pwI (s : ByteArray) : Int := if (sgT s).neg then -(pwN (pwL s) : Int) else pwN (pwL s)
def pD (s : ByteArray) : Int := pwI s - (pL s).length + 6
def nD (s : ByteArray) : Nat := dV (wL s ++ pL s)
def rdec (n : Nat) (p : Int) : Nat := if 0 ≤ p then n * 10 ^ p.toNat else rnd n (10 ^ (-p).toNat)
/-- What Rounded answers. -/
def dcmI (s : ByteArray) : PV := match fD s with
  | some k => badF k
  | none => valF (negT s) (rdec (nD s) (pD s))
def dcm (s : ByteArray) : PV := if 4096 < s.size then .tup [.v (.int .i64 0), .v (.int .i64 4), .v (.int .i64 0)] else dcmI s
theorem rdec_zero (p : Int) : rdec 0 p = 0 := by
  unfold rdec
  split
  · rw [Nat.zero_mul]
  · have hB : 0 < 10 ^ (-p).toNat := Nat.pow_pos (by decide)
    obtain ⟨B, hBe⟩ : ∃ B, 10 ^ (-p).toNat = B := ⟨_, rfl⟩
    rw [hBe] at hB ⊢
    unfold rnd
    rw [Nat.zero_div, Nat.zero_mod, if_neg (by omega)]
theorem valF_zero (neg : Bool) : valF neg 0 = .tup [.v (.int .i64 0), .v (.int .i64 0), .v (.int .i64 0)] := by
  cases neg <;> rfl
theorem valF_big {neg : Bool} {m : Nat} (h : 9223372036854775808 < m) : valF neg m = .tup [.v (.int .i64 0), .v (.int .i64 41), .v (.int .i64 0)] := by
  unfold valF
  rw [if_pos (.inl h)]
theorem rdec_small {n k : Nat} {p : Int} (h : n < 10 ^ k) (hp : p < 0) (hk : k + 1 ≤ (-p).toNat) : rdec n p = 0 := by
  unfold rdec
  rw [if_neg (by omega)]
  have h1 : 10 ^ (k + 1) ≤ 10 ^ (-p).toNat := Nat.pow_le_pow_right (by decide) hk
  rw [Nat.pow_succ] at h1
  obtain ⟨B, hB⟩ : ∃ B, 10 ^ (-p).toNat = B := ⟨_, rfl⟩
  obtain ⟨K, hK⟩ : ∃ K, 10 ^ k = K := ⟨_, rfl⟩
  rw [hB, hK] at h1
  rw [hK] at h
  rw [hB]
  unfold rnd
  rw [Nat.div_eq_of_lt (by omega), Nat.mod_eq_of_lt (by omega), if_neg (by omega)]
theorem ten_big {k : Nat} (h : 19 ≤ k) : 9223372036854775808 < 10 ^ k := Nat.lt_of_lt_of_le (show 9223372036854775808 < 10 ^ 19 by decide) (Nat.pow_le_pow_right (by decide) h)
theorem rdec_big {n : Nat} {p : Int} (h0 : n ≠ 0) (hp : 30 < p) : 9223372036854775808 < rdec n p := by
  unfold rdec
  rw [if_pos (by omega)]
  exact Nat.lt_of_lt_of_le (ten_big (k := p.toNat) (by omega)) (Nat.le_mul_of_pos_left _ (by omega))
theorem digs_bounds : ∀ n, n ≠ 0 → 10 ^ ((digs n).length - 1) ≤ n ∧ n < 10 ^ (digs n).length ∧ 0 < (digs n).length := by
  intro n
  induction n using Nat.strongRecOn with
  | _ n ih =>
    intro h0
    by_cases h : n < 10
    · rw [digs_small h]
      simp
      omega
    · rw [digs_big h, List.length_append, List.length_singleton]
      obtain ⟨h1, h2, h3⟩ := ih (n / 10) (by omega) (by omega)
      obtain ⟨k, hk⟩ : ∃ k, (digs (n / 10)).length = k + 1 := ⟨(digs (n / 10)).length - 1, by omega⟩
      rw [hk] at h1 h2 ⊢
      rw [Nat.add_sub_cancel] at h1 ⊢
      refine ⟨?_, ?_, by omega⟩
      · rw [Nat.pow_succ]; omega
      · rw [Nat.pow_succ]; omega
theorem rdec_top {n : Nat} {p : Int} (h0 : n ≠ 0) (hp : 100 < ((digs n).length : Int) + p) : 9223372036854775808 < rdec n p := by
  obtain ⟨h1, _, h3⟩ := digs_bounds n h0
  obtain ⟨k, hk⟩ : ∃ k, (digs n).length = k + 1 := ⟨(digs n).length - 1, by omega⟩
  rw [hk] at h1 hp
  rw [Nat.add_sub_cancel] at h1
  unfold rdec
  split
  · rename_i h
    refine Nat.lt_of_lt_of_le (ten_big (k := k + p.toNat) (by omega)) ?_
    rw [Nat.pow_add]
    exact Nat.mul_le_mul_right _ h1
  · rename_i h
    refine Nat.lt_of_lt_of_le (ten_big (k := k - (-p).toNat) (by omega)) ?_
    refine Nat.le_trans ?_ (rnd_ge _ _)
    rw [Nat.le_div_iff_mul_le (Nat.pow_pos (by decide)), ← Nat.pow_add, show k - (-p).toNat + (-p).toNat = k by omega]
    exact h1
theorem rdec_low {n : Nat} {p : Int} (h0 : n ≠ 0) (hp : ((digs n).length : Int) + p < -10) : rdec n p = 0 := by
  obtain ⟨_, h2, _⟩ := digs_bounds n h0
  exact rdec_small h2 (by omega) (by omega)
theorem printT_digs (n : Nat) : printT n = tx (digs n) := by
  unfold printT digs
  split <;> rfl
theorem fit_ten {m : Nat} (h : m ≤ 1000000) : Fit (limbs (10 ^ m)) := by
  refine fit_small (m + 1) ?_ (by omega)
  refine Nat.lt_of_le_of_lt (Nat.pow_le_pow_left (show 10 ≤ 4294967296 by decide) m) ?_
  exact Nat.pow_lt_pow_right (by decide) (by omega)
theorem limbs_len0 {n : Nat} : (limbs n).length = 0 ↔ n = 0 := by
  constructor
  · intro h
    have h1 := List.eq_nil_of_length_eq_zero h
    have h2 := val_limbs n
    rw [h1] at h2
    exact h2.symm
  · rintro rfl
    rw [limbs_zero]
    rfl
theorem fD_none {s : ByteArray} (h : fD s = none) : wE s ≠ fr s := by
  intro k
  unfold fD at h
  rw [if_pos k] at h
  cases h
theorem pwL_all (s : ByteArray) : AllD (pwL s) := by
  unfold pwL
  cases heT : eT s
  · intro x hx; simp at hx
  · have hn : e0 s < s.size ∧ (ch s (e0 s) = 101 ∨ ch s (e0 s) = 69) := of_decide_eq_true heT
    have hp1 : p1 s ≤ s.size := by
      unfold p1 sgAt
      split
      · rename_i h; simp [Sgn.txt]; omega
      · split
        · rename_i h; simp [Sgn.txt]; omega
        · simp [Sgn.txt]; omega
    rw [if_pos rfl]
    exact AllD.sub s (dgE_le s hp1).2 fun _ h1 h2 => dgE_good s h1 h2
theorem pwL_len (s : ByteArray) : (pwL s).length ≤ s.size := by
  unfold pwL
  split
  · unfold sub
    rw [List.length_drop, List.length_take]
    have := data_len s
    omega
  · simp
theorem pL_len (s : ByteArray) : (pL s).length ≤ s.size := by
  unfold pL
  split
  · unfold sub
    rw [List.length_drop, List.length_take]
    have := data_len s
    omega
  · simp
theorem wL_len' (s : ByteArray) : (wL s).length ≤ s.size := by
  rw [wL_len]
  have := wE_le s
  omega
theorem pwI_range (s : ByteArray) : -100000 ≤ pwI s ∧ pwI s ≤ 100000 := by
  have : pwN (pwL s) ≤ 100000 := by unfold pwN; omega
  unfold pwI
  split <;> omega
/-- Where the document looks for other words first. -/
theorem fD_letter {s : ByteArray} (h : fr s < s.size) (hc : ch s (fr s) = 105 ∨ ch s (fr s) = 110) : fD s = some (fr s) := by
  have hb : badDig s (fr s) = true := by unfold badDig; rcases hc with hc | hc <;> simp [hc]
  have hw : wE s = fr s := dgE_here s h hb
  unfold fD
  rw [if_pos hw, hw]
theorem fD_hex {s : ByteArray} (h : fr s + 1 < s.size) (h0 : ch s (fr s) = 48) (hx : ch s (fr s + 1) = 120) : fD s = some (fr s + 1) := by
  have hb0 : badDig s (fr s) = false := by unfold badDig; simp [h0]
  have hb : badDig s (fr s + 1) = true := by unfold badDig; simp [hx]
  have hw : wE s = fr s + 1 := by
    unfold wE
    rw [dgE_next s (by omega) hb0, dgE_here s h hb]
  have hd : dotT s = false := by
    unfold dotT
    refine decide_eq_false ?_
    rw [hw, hx]
    omega
  have he : e0 s = fr s + 1 := by
    unfold e0
    rw [hd, hw]
    rfl
  have het : eT s = false := by
    unfold eT
    refine decide_eq_false ?_
    rw [he, hx]
    omega
  unfold fD fT
  rw [if_neg (by omega), hd, if_neg (by simp), het, he, if_pos h]
  rfl
end Go.AM.F

/- Rounded, by the program. No conditions. -/
namespace Go.AM.F
open Go Go.AM
set_option maxRecDepth 10000
set_option exponentiation.threshold 110000
set_option linter.unusedSimpArgs false
attribute [local simp] j0_fixed_Rounded j1_fixed_Rounded j2_fixed_Rounded j3_fixed_Rounded b_fixed_Rounded a_fixed_Rounded
/-- Of no more than so many digits. -/
def Sml (n : Nat) : Prop := n < 10 ^ 5000
theorem fit_lt {n m : Nat} (h : n < 10 ^ m) (hm : m ≤ 1000000) : Fit (limbs n) := fit_mono (fit_ten hm) (Nat.le_of_lt h)
theorem Sml.fit {n : Nat} (h : Sml n) : Fit (limbs n) := fit_lt h (by decide)
theorem Sml.digs {n : Nat} (h : Sml n) : (digs n).length ≤ 5000 := digs_len 5000 n (by decide) h
theorem Sml.mul {n m : Nat} (h : Sml n) (hm : m ≤ 100) : Fit (limbs (n * 10 ^ m)) := by
  refine fit_lt (m := 5000 + m) ?_ (by omega)
  rw [Nat.pow_add]
  exact Nat.mul_lt_mul_of_pos_right h (Nat.pow_pos (by decide))
theorem Sml.rnd {n : Nat} (h : Sml n) (B : Nat) : Fit (limbs (rnd n B)) := by
  have h1 := rnd_le n B
  have hdv : n / B ≤ n := Nat.div_le_self _ _
  have h2 : F.rnd n B ≤ n + 1 := by omega
  refine fit_lt (m := 5000 + 1) ?_ (by decide)
  rw [Nat.pow_succ]
  unfold Sml at h
  generalize 10 ^ 5000 = K at h ⊢
  omega
theorem sml_of {n k : Nat} (h : n < 10 ^ k) (hk : k ≤ 5000) : Sml n := Nat.lt_of_lt_of_le h (Nat.pow_le_pow_right (by decide) hk)
theorem nbits10 : nbits 10 = 4 := by
  rw [nbits_pos (by decide), show 10 / 2 = 5 from rfl, nbits_pos (by decide), show 5 / 2 = 2 from rfl, nbits_pos (by decide), show 2 / 2 = 1 from rfl, nbits_pos (by decide), show 1 / 2 = 0 from rfl, nbits_zero]
/-- The last part: a natural with its sign. -/
theorem rnd_end (s : ByteArray) (m : Nat) (hm : Fit (limbs m)) :
    ∃ v e : Int, Exec T k1_fixed_Rounded [(0, .v (.string s)), (9, .own 1 (ul (limbs m))), (33, .tup [.ref 35 [0], .v (.int .i64 0), .v (.int .i64 0)]), (35, .tup [.dead, .v (.int .i64 0), .v (.int .i64 0)]), (36, .ref 35 [0]), (58, .dead), (81, .dead)] = some (.ret, [(2, .v (.int .i64 v)), (3, .v (.int .i64 e)), (4, .v (.int .i64 0))]) ∧ valF (negT s) m = .tup [.v (.int .i64 v), .v (.int .i64 e), .v (.int .i64 0)] := by
  have hn := c_neg s
  have s1 := c_signed (negT s) m hm
  unfold sgnR at s1
  unfold valF
  by_cases hc : 9223372036854775808 < m ∨ (m = 9223372036854775808 ∧ negT s = false)
  · rw [if_pos hc] at s1 ⊢
    exact ⟨_, _, by simp [hn, s1], rfl⟩
  · rw [if_neg hc] at s1 ⊢
    exact ⟨_, _, by simp [hn, s1], rfl⟩
set_option maxHeartbeats 4000000 in
theorem rnd_key (s : ByteArray) (all pw : ByteArray) (n b : Nat) (P : Int) (hb : b ≤ 4096) (hP : -100000 ≤ P ∧ P ≤ 100000) (hlen : Sml n)
    (r1 : Cinf T n_limbs_Read [.v (.string all)] = some (.tup [.own 1 (ul (limbs n)), .v (.int .i64 0), .v (.int .i64 0)], [.dead]))
    (c1 : Cinf T n_fixed_clamped [.v (.string pw)] = some (.v (.int .i64 P), [.dead])) :
    ∃ v e : Int, Exec T k2_fixed_Rounded [(0, .v (.string s)), (5, .v (.string all)), (6, .v (.int .i64 b)), (7, .v (.string pw))] = some (.ret, [(2, .v (.int .i64 v)), (3, .v (.int .i64 e)), (4, .v (.int .i64 0))]) ∧ valF (negT s) (rdec n (P - b + 6)) = .tup [.v (.int .i64 v), .v (.int .i64 e), .v (.int .i64 0)] := by
  have hfit := hlen.fit
  have p1 := c_Print (limbs n) hfit
  rw [val_limbs, printT_digs] at p1
  have l1 := c_Len (limbs n) hfit
  rw [val_limbs] at l1
  obtain ⟨p0, hp0⟩ : ∃ p0, P - (b : Int) = p0 := ⟨_, rfl⟩
  have w1 : IntKind.i64.wrap (P - (b : Int)) = p0 := by rw [wrap_i64] <;> omega
  obtain ⟨p, hp⟩ : ∃ p, p0 + 6 = p := ⟨_, rfl⟩
  have w2 : IntKind.i64.wrap (p0 + 6) = p := by rw [wrap_i64] <;> omega
  rw [hp0, hp]
  have hdl := hlen.digs
  obtain ⟨t, ht⟩ : ∃ t, ((digs n).length : Int) + p = t := ⟨_, rfl⟩
  have hsz : (tx (digs n)).size = (digs n).length := tx_size _
  obtain ⟨S, hS⟩ : ∃ S, tx (digs n) = S := ⟨_, rfl⟩
  rw [hS] at p1 hsz
  have w3' : IntKind.i64.wrap ((S.size : Int) + p) = t := by rw [hsz, wrap_i64] <;> omega
  by_cases hn0 : n = 0
  · subst hn0
    rw [rdec_zero, valF_zero]
    rw [nbits_zero] at l1
    exact ⟨_, _, by simp [r1, c1, w1, w2, p1, w3', l1], rfl⟩
  · have hnb : ¬ nbits n = 0 := fun h => hn0 (nbits_eq_zero.1 h)
    by_cases h1 : t < -10
    · rw [rdec_low hn0 (by omega), valF_zero]
      exact ⟨_, _, by simp [r1, c1, w1, w2, p1, w3', l1, hnb, h1], rfl⟩
    · by_cases h2 : 100 < t
      · rw [valF_big (rdec_top hn0 (by omega))]
        exact ⟨_, _, by simp [r1, c1, w1, w2, p1, w3', l1, hnb, h1, h2], rfl⟩
      · have hd0 := (digs_bounds n hn0).2.2
        have e10 : ul [10] = [.v (.int .u32 10)] := by simp [ul]
        by_cases h3 : 0 ≤ p
        · obtain ⟨m, hm⟩ : ∃ m, p.toNat = m := ⟨_, rfl⟩
          have hm2 : m ≤ 100 := by omega
          have hrd : rdec n p = n * 10 ^ m := by unfold rdec; rw [if_pos h3, hm]
          have pw1 := c_Pow [10] ⟨Lim.one (by decide), by decide⟩ (by decide) p
          have hpr : powR (val [10]) p = .tup [.own 1 (ul (limbs (10 ^ m))), .v (.int .i64 0)] := by
            unfold powR
            have h4 : nbits (val [10]) = 4 := by rw [show val [10] = 10 by simp [val]]; exact nbits10
            rw [if_neg (by omega), h4, hm, if_neg (by omega), show val [10] = 10 by simp [val]]
          rw [hpr, e10] at pw1
          have hft := fit_ten (m := m) (by omega)
          have m1 := c_Mul (limbs n) (limbs (10 ^ m)) hfit hft
          rw [val_limbs, val_limbs] at m1
          have hfm := hlen.mul hm2
          obtain ⟨v, e, k0, k1⟩ := rnd_end s (n * 10 ^ m) hfm
          rw [hrd]
          obtain ⟨B, hB⟩ : ∃ B, 10 ^ m = B := ⟨_, rfl⟩
          rw [hB] at pw1 m1 k0 k1 ⊢
          obtain ⟨C, hC⟩ : ∃ C, n * B = C := ⟨_, rfl⟩
          rw [hC] at m1 k0 k1 ⊢
          refine ⟨v, e, ?_, k1⟩
          rw [← k0]
          simp [-tl1_fixed_Rounded, r1, c1, w1, w2, p1, w3', l1, hnb, h1, h2, h3, pw1, m1]
        · obtain ⟨m, hm⟩ : ∃ m, (-p).toNat = m := ⟨_, rfl⟩
          have hm2 : m ≤ 5010 := by omega
          have hrd : rdec n p = rnd n (10 ^ m) := by unfold rdec; rw [if_neg h3, hm]
          have wn : IntKind.i64.wrap (-p) = -p := by rw [wrap_i64] <;> omega
          have pw1 := c_Pow [10] ⟨Lim.one (by decide), by decide⟩ (by decide) (-p)
          have hpr : powR (val [10]) (-p) = .tup [.own 1 (ul (limbs (10 ^ m))), .v (.int .i64 0)] := by
            unfold powR
            have h4 : nbits (val [10]) = 4 := by rw [show val [10] = 10 by simp [val]]; exact nbits10
            rw [if_neg (by omega), h4, hm, if_neg (by omega), show val [10] = 10 by simp [val]]
          rw [hpr, e10] at pw1
          have hft := fit_ten (m := m) (by omega)
          have hft1 := fit_ten (m := m + 1) (by omega)
          have hB0 : 0 < 10 ^ m := Nat.pow_pos (by decide)
          have hmod : n % 10 ^ m < 10 ^ m := Nat.mod_lt _ hB0
          rw [Nat.pow_succ] at hft1
          obtain ⟨B, hB⟩ : ∃ B, 10 ^ m = B := ⟨_, rfl⟩
          rw [hB] at pw1 hft hft1 hB0 hmod hrd
          have m1 := c_rounded n B hfit hft (by omega) (fit_mono hft1 (by omega))
          have hfm := hlen.rnd B
          obtain ⟨v, e, k0, k1⟩ := rnd_end s (rnd n B) hfm
          rw [hrd]
          obtain ⟨C, hC⟩ : ∃ C, rnd n B = C := ⟨_, rfl⟩
          rw [hC] at m1 k0 k1 ⊢
          refine ⟨v, e, ?_, k1⟩
          rw [← k0]
          simp [-tl1_fixed_Rounded, r1, c1, w1, w2, p1, w3', l1, hnb, h1, h2, h3, wn, pw1, m1]
theorem nD_sml {s : ByteArray} (hs : s.size ≤ 4096) : Sml (nD s) ∧ (wL s ++ pL s).length ≤ s.size + s.size := by
  have h1 := dV_lt ((wL_all s).append (pL_all s))
  have h2 := wL_len' s
  have h3 : (pL s).length + (wL s).length ≤ 5000 := by
    have hw := wL_len s
    have ha := wE_le s
    cases hd : dotT s with
    | true =>
      have hp := pE_le hd
      have h4 : (pL s).length = pE s - (wE s + 1) := by unfold pL; rw [hd, if_pos rfl, sub_len s hp.2]
      omega
    | false =>
      have h4 : (pL s).length = 0 := by unfold pL; rw [hd]; rfl
      omega
  have h4 := pL_len s
  refine ⟨sml_of h1 (by rw [List.length_append]; omega), by rw [List.length_append]; omega⟩
theorem c_fRounded (s : ByteArray) : Cinf T n_fixed_Rounded [.v (.string s)] = some (dcm s, [.dead]) := by
  rw [run_fixed_Rounded]
  unfold dcm dcmI
  by_cases c0 : 4096 < s.size
  · rw [if_pos c0]
    simp [Run, c0]
  rw [if_neg c0]
  have hs : s.size ≤ 4096 := by omega
  have d1 := c_decimal s hs
  unfold decR at d1
  cases hf : fD s with
  | some k =>
    rw [hf] at d1
    simp only at d1 ⊢
    simp [Run, c0, d1, badF]
  | none =>
    rw [hf] at d1
    simp only at d1 ⊢
    have hall := (wL_all s).append (pL_all s)
    have hne : wL s ++ pL s ≠ [] := by
      intro h
      have h1 := wL_len s
      rw [(List.append_eq_nil_iff.1 h).1] at h1
      have := wE_le s
      have := fD_none hf
      simp at h1
      omega
    obtain ⟨hsm, hll⟩ := nD_sml hs
    have r1 := c_Read (tx (wL s ++ pL s)) (by rw [tx_size]; omega)
    rw [readR_good hall hne] at r1
    have hpl := pwL_len s
    have c1 := c_clamped (sgT s).neg (pwL s) (pwL_all s) (by omega)
    obtain ⟨v, e, k0, k1⟩ := rnd_key s (tx (wL s ++ pL s)) (pwT s) (nD s) (pL s).length (pwI s) (by have := pL_len s; omega) (pwI_range s) hsm r1 c1
    rw [show pwI s - ((pL s).length : Int) + 6 = pD s from rfl] at k1
    rw [k1]
    have k2 : Exec T k2_fixed_Rounded [(0, .v (.string s)), (5, .v (.string (tx (wL s ++ pL s)))), (6, .v (.int .i64 (pL s).length)), (7, .v (.string (pwT s))), (8, .v (.int .i64 (-1)))] = _ := (tl2_fixed_Rounded _).trans ((tl2_fixed_Rounded _).symm.trans k0)
    simp [-tl2_fixed_Rounded, Run, c0, d1, k2]
end Go.AM.F

/- Rounded, by the document. No conditions. -/
namespace Go.AM.F
open Go Go.AM
set_option maxRecDepth 10000
set_option linter.unusedSimpArgs false
set_option exponentiation.threshold 110000
end Go.AM.F

/- Powers of ten lie well below the next power of two: by reckoning. No conditions. -/
namespace Go.AM.F
open Go Go.AM
set_option maxRecDepth 100000

/-- So many bits has a power of ten. -/
def tenK (m : Nat) : Nat := m * 3321928094887362 / 1000000000000000
/-- Is the next power of two further from a power of ten than that number's part in 2^64? -/
def tenOK (m : Nat) : Bool := Nat.ble (2 ^ tenK m) (10 ^ m) && Nat.ble (10 ^ m * 18446744073709551617 + 1) (2 ^ (tenK m + 65))
def allTo (f : Nat → Bool) : Nat → Bool
  | 0 => true
  | n + 1 => f n && allTo f n
theorem allTo_iff {f : Nat → Bool} : ∀ {n : Nat}, allTo f n = true → ∀ k, k < n → f k = true
  | 0, _, _, h => by omega
  | n + 1, h, k, hk => by
    simp only [allTo, Bool.and_eq_true] at h
    by_cases e : k = n
    · rw [e]; exact h.1
    · exact allTo_iff h.2 k (by omega)
theorem ten_check : allTo (fun a => allTo (fun b => tenOK (64 * a + b)) 64) 65 = true := by kernel_rfl
theorem ten_ok (m : Nat) (h : m < 4160) : tenOK m = true := by
  have h1 := allTo_iff (allTo_iff ten_check (m / 64) (by omega)) (m % 64) (Nat.mod_lt _ (by decide))
  rwa [Nat.div_add_mod] at h1
/-- What the document holds for too great is. -/
theorem ten_size {A m : Nat} (hm : m < 4160) (h : nbits (10 ^ m) + 64 ≤ nbits A) : 9223372036854775808 < rnd A (10 ^ m) := by
  have h0 : 10 ^ m ≠ 0 := Nat.pos_iff_ne_zero.1 (Nat.pow_pos (by decide))
  have h1 := ten_ok m hm
  unfold tenOK at h1
  rw [Bool.and_eq_true, Nat.ble_eq, Nat.ble_eq] at h1
  obtain ⟨k, hk⟩ : ∃ k, tenK m = k := ⟨_, rfl⟩
  obtain ⟨B, hB⟩ : ∃ B, 10 ^ m = B := ⟨_, rfl⟩
  rw [hk, hB] at h1
  rw [hB] at h h0 ⊢
  have hA0 : A ≠ 0 := by
    rintro rfl
    rw [nbits_zero] at h
    omega
  have h2 := nbits_low' hA0
  have h7 : k < nbits B := by
    refine Nat.lt_of_not_le fun hle => ?_
    have := nbits_iff.1 hle
    omega
  have h3 : 2 ^ (k + 64) ≤ A := Nat.le_trans (Nat.pow_le_pow_right (by decide) (by omega)) h2
  have h4 : 2 ^ (k + 65) = 2 ^ (k + 64) * 2 := by rw [← Nat.pow_succ]
  rw [h4] at h1
  obtain ⟨P, hP⟩ : ∃ P, 2 ^ (k + 64) = P := ⟨_, rfl⟩
  rw [hP] at h1 h3
  have h5 := rnd_near A B (by omega)
  refine Nat.lt_of_not_le fun hle => ?_
  have h6 : rnd A B * B ≤ 9223372036854775808 * B := Nat.mul_le_mul_right _ hle
  obtain ⟨R, hR⟩ : ∃ R, rnd A B * B = R := ⟨_, rfl⟩
  rw [hR] at h5 h6
  omega
end Go.AM.F

/- Rounded, by the document. No conditions. -/
namespace Go.AM.F
open Go Go.AM
set_option maxRecDepth 10000
set_option linter.unusedSimpArgs false
set_option exponentiation.threshold 110000
theorem fit_two {m k : Nat} (hm : m ≤ 5000) (hk : k ≤ 64) : Fit (limbs (10 ^ m * 2 ^ k)) := by
  refine fit_mono (fit_ten (m := m + k) (by omega)) ?_
  rw [Nat.pow_add]
  exact Nat.mul_le_mul_left _ (Nat.pow_le_pow_left (by decide) k)
theorem nbits_one : nbits 1 = 1 := by
  rw [nbits_pos (by decide), show 1 / 2 = 0 from rfl, nbits_zero]
theorem one_big {A : Nat} (h : nbits 1 + 64 ≤ nbits A) : 9223372036854775808 < rnd A 1 := by
  rw [nbits_one] at h
  rw [rnd_one]
  have hA0 : A ≠ 0 := by
    rintro rfl
    rw [nbits_zero] at h
    omega
  have h1 := nbits_low' hA0
  exact Nat.lt_of_lt_of_le (Nat.lt_of_lt_of_le (show 9223372036854775808 < 2 ^ 64 by decide) (Nat.pow_le_pow_right (by decide) (by omega))) h1
end Go.AM.F

/- FixedReads: it answers true at every input. No conditions. -/
namespace Go.AM.F
open Go Go.AM
set_option maxRecDepth 10000
set_option linter.unusedSimpArgs false
theorem valF_tup (neg : Bool) (m : Nat) : ∃ v e k : Int, valF neg m = .tup [.v (.int .i64 v), .v (.int .i64 e), .v (.int .i64 k)] := by
  unfold valF
  by_cases h : 9223372036854775808 < m ∨ (m = 9223372036854775808 ∧ neg = false)
  · rw [if_pos h]; exact ⟨_, _, _, rfl⟩
  · rw [if_neg h]; exact ⟨_, _, _, rfl⟩
theorem badF_tup (k : Nat) : ∃ v e k' : Int, badF k = .tup [.v (.int .i64 v), .v (.int .i64 e), .v (.int .i64 k')] := ⟨_, _, _, rfl⟩
theorem rd4_tup (s : ByteArray) : ∃ v e k : Int, rd4 s = .tup [.v (.int .i64 v), .v (.int .i64 e), .v (.int .i64 k)] := by
  unfold rd4
  by_cases h0 : 4096 < s.size
  · rw [if_pos h0]; exact ⟨_, _, _, rfl⟩
  rw [if_neg h0]
  by_cases h1 : wE s = fr s
  · rw [if_pos h1]; exact badF_tup _
  rw [if_neg h1]
  by_cases h2 : dotT s = true
  · rw [if_pos h2]
    by_cases h3 : pE s = wE s + 1
    · rw [if_pos h3]; exact badF_tup _
    rw [if_neg h3]
    by_cases h4 : wE s + 7 < pE s
    · rw [if_pos h4]; exact badF_tup _
    rw [if_neg h4]
    by_cases h5 : pE s < s.size
    · rw [if_pos h5]; exact badF_tup _
    rw [if_neg h5]
    exact valF_tup _ _
  · rw [if_neg h2]
    by_cases h5 : wE s < s.size
    · rw [if_pos h5]; exact badF_tup _
    rw [if_neg h5]
    exact valF_tup _ _
theorem dcm_tup (s : ByteArray) : ∃ v e k : Int, dcm s = .tup [.v (.int .i64 v), .v (.int .i64 e), .v (.int .i64 k)] := by
  unfold dcm dcmI
  by_cases h0 : 4096 < s.size
  · rw [if_pos h0]; exact ⟨_, _, _, rfl⟩
  rw [if_neg h0]
  cases fD s with
  | some k => exact badF_tup _
  | none => exact valF_tup _ _
end Go.AM.F
