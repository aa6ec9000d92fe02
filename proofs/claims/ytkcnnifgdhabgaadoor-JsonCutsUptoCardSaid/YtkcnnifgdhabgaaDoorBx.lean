/- JSON: what is written is read again: texts that lie within others, numbers. JSON: texts that are written are read again. JSON: what is written of a value is read as the value. JSON: what is read is right: texts. JSON: numbers that are cut off; what is read is right. JSON: what is read is right, and is written as no longer a text. JSON: JsonBack. JSON: JsonBack: the law. No conditions. -/
import Derived.Test.YtkcnnifgdhabgaaDoorKx
import Derived.Test.YtkcnnifgdhabgaaDoorPx
import Derived.Test.YtkcnnifgdhabgaaDoorMx
import Derived.Test.YtkcnnifgdhabgaaDoorD0
/- JSON: what is written is read again: texts that lie within others, numbers. No conditions. -/
namespace Go.AM.F
open Go Go.AM
set_option maxRecDepth 10000
set_option linter.unusedSimpArgs false

/-- A text lies within another one, from i on. -/
def Has (L : List UInt8) (i : Nat) (A : List UInt8) : Prop := i + A.length ≤ L.length ∧ ∀ k, k < A.length → lt L (i + k) = lt A k
theorem lt_append_l {A B : List UInt8} {k : Nat} (h : k < A.length) : lt (A ++ B) k = lt A k := by
  unfold lt
  rw [List.getElem?_append_left h]
theorem lt_append_r (A B : List UInt8) (k : Nat) : lt (A ++ B) (A.length + k) = lt B k := by
  unfold lt
  rw [List.getElem?_append_right (by omega), Nat.add_sub_cancel_left]
theorem Has.left {L A B : List UInt8} {i : Nat} (h : Has L i (A ++ B)) : Has L i A := by
  obtain ⟨h1, h2⟩ := h
  rw [List.length_append] at h1 h2
  exact ⟨by omega, fun k hk => by rw [h2 k (by omega), lt_append_l hk]⟩
theorem Has.right {L A B : List UInt8} {i : Nat} (h : Has L i (A ++ B)) : Has L (i + A.length) B := by
  obtain ⟨h1, h2⟩ := h
  rw [List.length_append] at h1 h2
  exact ⟨by omega, fun k hk => by rw [Nat.add_assoc, h2 _ (by omega), lt_append_r]⟩
theorem Has.one {L A : List UInt8} {i : Nat} {c : UInt8} (h : Has L i (c :: A)) : i < L.length ∧ lt L i = c.toNat ∧ Has L (i + 1) A := by
  have h1 : Has L i ([c] ++ A) := h
  have h2 := h1.left.2 0 (by simp)
  refine ⟨?_, ?_, h1.right⟩
  · have := h1.left.1
    simp only [List.length_cons, List.length_nil] at this
    omega
  · rw [Nat.add_zero] at h2
    rw [h2]
    rfl
theorem Has.take {L A : List UInt8} {i : Nat} (h : Has L i A) : (L.drop i).take A.length = A := by
  obtain ⟨h1, h2⟩ := h
  apply List.ext_getElem
  · rw [List.length_take, List.length_drop]
    omega
  · intro k hk1 hk2
    have := h2 k hk2
    unfold lt at this
    rw [List.getElem?_eq_getElem (by omega), List.getElem?_eq_getElem hk2, Option.getD_some, Option.getD_some] at this
    rw [List.getElem_take, List.getElem_drop]
    exact UInt8.toNat_inj.1 this
theorem Has.self (A : List UInt8) : Has A 0 A := ⟨by omega, fun k _ => by rw [Nat.zero_add]⟩
/-- The letters of numbers. -/
def numc (c : Nat) : Bool := digit c || c == 43 || c == 45 || c == 46 || c == 69 || c == 101
theorem numc_zero : numc 0 = false := rfl
/-- A text within another one, that ends there as far as numbers go. -/
structure Sh (L : List UInt8) (i : Nat) (t : List UInt8) : Prop where
  has : Has L i t
  ends : numc (lt L (i + t.length)) = false
def PR.sh {α : Type} (i : Nat) : PR α → PR α
  | .ok j a => .ok (i + j) a
  | .bad w a => .bad w (i + a)
theorem Sh.test {L t : List UInt8} {i k : Nat} (h : Sh L i t) (hk : k ≤ t.length) {p : Nat → Bool} (hp : ∀ c, p c = true → numc c = true) : p (lt L (i + k)) = p (lt t k) := by
  by_cases hlt : k < t.length
  · rw [h.has.2 k hlt]
  · obtain rfl : k = t.length := by omega
    rw [lt_end (show ¬ t.length < t.length by omega)]
    have h1 : p 0 = false := by
      cases hq : p 0 with
      | false => rfl
      | true => exact absurd (hp 0 hq) (by rw [numc_zero]; decide)
    rw [h1]
    cases hq : p (lt L (i + t.length)) with
    | false => rfl
    | true =>
      have := hp _ hq
      rw [h.ends] at this
      cases this
theorem Sh.minus {L t : List UInt8} {i k : Nat} (h : Sh L i t) (hk : k ≤ t.length) : tk sMinus L (i + k) = tk sMinus t k := by
  rw [tk_minus, tk_minus]
  exact h.test hk (p := fun c => c == 45) (fun c hc => by simp [numc] at hc ⊢; omega)
theorem Sh.zero {L t : List UInt8} {i k : Nat} (h : Sh L i t) (hk : k ≤ t.length) : tk sZero L (i + k) = tk sZero t k := by
  rw [tk_zero, tk_zero]
  exact h.test hk (p := fun c => c == 48) (fun c hc => by simp [numc, digit] at hc ⊢; omega)
theorem Sh.point {L t : List UInt8} {i k : Nat} (h : Sh L i t) (hk : k ≤ t.length) : tk sPoint L (i + k) = tk sPoint t k := by
  rw [tk_point, tk_point]
  exact h.test hk (p := fun c => c == 46) (fun c hc => by simp [numc] at hc ⊢; omega)
theorem Sh.exp {L t : List UInt8} {i k : Nat} (h : Sh L i t) (hk : k ≤ t.length) : tk sExp L (i + k) = tk sExp t k := by
  rw [tk_exp, tk_exp]
  exact h.test hk (p := fun c => c == 101 || c == 69) (fun c hc => by simp [numc] at hc ⊢; omega)
theorem Sh.sign {L t : List UInt8} {i k : Nat} (h : Sh L i t) (hk : k ≤ t.length) : tk sSign L (i + k) = tk sSign t k := by
  rw [tk_sign, tk_sign]
  exact h.test hk (p := fun c => c == 43 || c == 45) (fun c hc => by simp [numc] at hc ⊢; omega)
theorem digit_zero : digit 0 = false := rfl
theorem dig_lt (L : List UInt8) (i : Nat) : (decide (i < L.length) && digit (lt L i)) = digit (lt L i) := by
  by_cases h : i < L.length
  · simp [h]
  · simp [h, lt_end h, digit_zero]
theorem Sh.dig {L t : List UInt8} {i k : Nat} (h : Sh L i t) (hk : k ≤ t.length) : digit (lt L (i + k)) = digit (lt t k) :=
  h.test hk (p := digit) (fun c hc => by simp [numc, hc])
theorem Sh.skp {L t : List UInt8} {i : Nat} (h : Sh L i t) : ∀ (n k : Nat), t.length - k = n → k ≤ t.length → skip digit L (i + k) = i + skip digit t k := by
  intro n
  induction n with
  | zero =>
    intro k hn hk
    obtain rfl : k = t.length := by omega
    rw [skip_end digit t (Nat.le_refl _)]
    by_cases hl : i + t.length < L.length
    · rw [skip_step digit L hl, h.dig (Nat.le_refl _), lt_end (show ¬ t.length < t.length by omega), digit_zero]
      simp
    · rw [skip_end digit L (by omega)]
  | succ n ih =>
    intro k hn hk
    have hlt : k < t.length := by omega
    have hL : i + k < L.length := by
      have := h.has.1
      omega
    have h1 := ih (k + 1) (by omega) (by omega)
    rw [skip_step digit L hL, skip_step digit t hlt, h.dig hk, Nat.add_assoc, h1]
    split <;> rfl
theorem Sh.digits {L t : List UInt8} {i k : Nat} (h : Sh L i t) (hk : k ≤ t.length) : pDigits L (i + k) = (pDigits t k).sh i := by
  unfold pDigits
  rw [dig_lt, dig_lt, h.dig hk, h.skp _ k rfl hk]
  split <;> rfl
theorem Sh.int {L t : List UInt8} {i k : Nat} (h : Sh L i t) (hk : k ≤ t.length) : pInt L (i + k) = (pInt t k).sh i := by
  unfold pInt
  rw [h.zero hk, h.digits hk]
  split
  · rw [Nat.add_assoc]
    rfl
  · rfl
theorem tk_lt' {s : ByteArray} {t : List UInt8} {k : Nat} (h : tk s t k = true) : k + 1 ≤ t.length := tk_lt h
theorem Sh.frac {L t : List UInt8} {i k : Nat} (h : Sh L i t) (hk : k ≤ t.length) : pFrac L (i + k) = (pFrac t k).sh i := by
  unfold pFrac
  rw [h.point hk]
  split
  · rename_i ht
    rw [Nat.add_assoc, h.digits (tk_lt' ht)]
  · rfl
theorem sh_past {L t : List UInt8} {i k : Nat} {s : ByteArray} (ht : tk s L (i + k) = tk s t k) : past s L (i + k) = i + past s t k := by
  unfold past
  rw [ht]
  split
  · rw [Nat.add_assoc]
  · rfl
theorem Sh.exps {L t : List UInt8} {i k : Nat} (h : Sh L i t) (hk : k ≤ t.length) : pExp L (i + k) = (pExp t k).sh i := by
  unfold pExp
  rw [h.exp hk]
  split
  · rename_i ht
    have h1 := tk_lt' ht
    have h2 := past_le sSign t h1
    rw [Nat.add_assoc, sh_past (h.sign h1), h.digits h2.2]
  · rfl
theorem Sh.number {L t : List UInt8} {i : Nat} (h : Sh L i t) : pNumber L i = (pNumber t 0).sh i := by
  unfold pNumber
  have h0 := h.minus (Nat.zero_le _)
  have h1 := past_le sMinus t (Nat.zero_le t.length)
  have h2 := sh_past h0
  rw [Nat.add_zero] at h2
  rw [h2, h.int h1.2]
  cases hi : pInt t (past sMinus t 0) with
  | bad w a => rfl
  | ok k u =>
    have h3 := pInt_le hi
    simp only [PR.sh, PR.bind_ok]
    rw [h.frac h3.2]
    cases hf : pFrac t k with
    | bad w a => rfl
    | ok m u =>
      have h4 := pFrac_le h3.2 hf
      simp only [PR.sh, PR.bind_ok]
      rw [h.exps h4.2]
      rfl
theorem isNum_iff (s : ByteArray) : isNum s = true ↔ ∃ u, pNumber s.data.toList 0 = .ok s.size u := by
  unfold isNum
  cases h : pNumber s.data.toList 0 with
  | bad w a => simp
  | ok j u =>
    simp only [decide_eq_true_eq]
    constructor
    · rintro rfl
      exact ⟨u, rfl⟩
    · rintro ⟨u', h'⟩
      cases h'
      rfl
/-- A number within a text is read there. -/
theorem number_in {L : List UInt8} {i : Nat} {t : ByteArray} (h : Sh L i t.data.toList) (hn : isNum t = true) : pNumber L i = .ok (i + t.size) () := by
  obtain ⟨u, hu⟩ := (isNum_iff t).1 hn
  rw [h.number, hu]
  rfl
end Go.AM.F

/- JSON: texts that are written are read again. No conditions. -/
namespace Go.AM.F
open Go Go.AM
set_option maxRecDepth 10000
set_option linter.unusedSimpArgs false

/-! ### Right texts -/
inductive Vd : List UInt8 → Prop where
  | nil : Vd []
  | step {M : List UInt8} (h : uc M ≠ 0) (r : Vd (M.drop (uc M))) : Vd M
theorem uc_nil : uc [] = 0 := rfl
theorem vd_of : ∀ (n : Nat) (M : List UInt8), M.length ≤ n → Lib.validGoD n M = true → Vd M := by
  intro n
  induction n with
  | zero =>
    intro M hn _
    obtain rfl : M = [] := List.length_eq_zero_iff.1 (by omega)
    exact .nil
  | succ n ih =>
    intro M hn hv
    by_cases h0 : M = []
    · subst h0
      exact .nil
    simp only [Lib.validGoD, if_neg h0] at hv
    have hp : 0 < M.length := List.length_pos_iff.2 h0
    rcases dec_uc M hp with ⟨u1, u2⟩ | ⟨u1, u2, u3, _⟩
    · rw [u2, if_pos ⟨rfl, rfl⟩] at hv
      cases hv
    · rw [if_neg (fun h => u3 (Prod.ext h.1 h.2)), u2] at hv
      exact .step u1 (ih _ (by rw [List.length_drop]; omega) hv)
theorem of_vd : ∀ (n : Nat) (M : List UInt8), Vd M → Lib.validGoD n M = true := by
  intro n
  induction n with
  | zero => intro M _; rfl
  | succ n ih =>
    intro M h
    by_cases h0 : M = []
    · simp [Lib.validGoD, h0]
    simp only [Lib.validGoD, if_neg h0]
    have hp : 0 < M.length := List.length_pos_iff.2 h0
    cases h with
    | nil => exact (h0 rfl).elim
    | step hu r =>
      rcases dec_uc M hp with ⟨u1, _⟩ | ⟨u1, u2, u3, _⟩
      · exact (hu u1).elim
      · rw [if_neg (fun h => u3 (Prod.ext h.1 h.2)), u2]
        exact ih _ r
theorem okU_iff (s : ByteArray) : okU s = true ↔ Vd s.data.toList := by
  unfold okU Lib.validD
  exact ⟨vd_of _ _ (Nat.le_refl _), of_vd _ _⟩
/-- A right character is told by its own bytes. -/
theorem uc_same {M X : List UInt8} (h : uc M ≠ 0) (hl : uc M ≤ X.length) (hx : ∀ k, k < uc M → lt X k = lt M k) : uc X = uc M := by
  have hle := uc_le M
  have h0 := hx 0 (by omega)
  obtain ⟨w, hw⟩ : ∃ w, uc M = w := ⟨_, rfl⟩
  rw [hw] at h hl hx hle ⊢
  have hw' := hw
  unfold uc at hw
  unfold uc
  rw [if_neg (by omega)] at hw
  rw [if_neg (by omega), h0]
  split at hw
  · rename_i c
    rw [if_pos c]
    exact hw
  rename_i c1
  rw [if_neg c1]
  split at hw
  · omega
  rename_i c2
  rw [if_neg c2]
  split at hw
  · rename_i c3
    rw [if_pos c3]
    split at hw
    · rename_i d
      have h1 := hx 1 (by omega)
      rw [h1, if_pos ⟨by omega, d.2⟩]
      exact hw
    · omega
  rename_i c3
  rw [if_neg c3]
  split at hw
  · rename_i c4
    rw [if_pos c4]
    split at hw
    · rename_i d
      have h1 := hx 1 (by omega)
      have h2 := hx 2 (by omega)
      rw [h1, h2, if_pos ⟨by omega, d.2⟩]
      exact hw
    · omega
  rename_i c4
  rw [if_neg c4]
  split at hw
  · rename_i c5
    rw [if_pos c5]
    split at hw
    · rename_i d
      have h1 := hx 1 (by omega)
      have h2 := hx 2 (by omega)
      have h3 := hx 3 (by omega)
      rw [h1, h2, h3, if_pos ⟨by omega, d.2⟩]
      exact hw
    · omega
  · omega
theorem lt_drop (L : List UInt8) (i k : Nat) : lt (L.drop i) k = lt L (i + k) := by
  unfold lt
  rw [List.getElem?_drop]
/-- Letters that are written with a stroke are read again. -/
def backTest (c : Nat) : Bool := match esc2 c with
  | some e => decide (esc e = some c) && decide (e < 128)
  | none => decide (c < 32) || (decide (c ≠ 34) && decide (c ≠ 92))
theorem back_all : (List.range 256).all backTest = true := by kernel_rfl
theorem back_some {c e : Nat} (hc : c < 256) (h : esc2 c = some e) : esc e = some c ∧ e < 128 := by
  have := List.all_eq_true.1 back_all c (by simpa using hc)
  simpa only [backTest, h, Bool.and_eq_true, decide_eq_true_eq] using this
theorem back_none {c : Nat} (hc : c < 256) (h : esc2 c = none) : c < 32 ∨ (c ≠ 34 ∧ c ≠ 92) := by
  have := List.all_eq_true.1 back_all c (by simpa using hc)
  simpa only [backTest, h, Bool.or_eq_true, Bool.and_eq_true, decide_eq_true_eq] using this
theorem hexv_hx {d : Nat} (h : d < 16) : hexv (hx d) = some d := by
  unfold hexv hx
  by_cases h10 : d < 10
  · rw [if_pos h10, if_pos (by omega)]
    congr 1
    omega
  · rw [if_neg h10, if_neg (by omega), if_pos (by omega)]
    congr 1
    omega
theorem hexv_48 : hexv 48 = some 0 := rfl
theorem enc_ok {v : Nat} (h : v < 55296 ∨ (57344 ≤ v ∧ v ≤ 1114111)) : Utf8.valid (v : Int) = true := by
  unfold Utf8.valid
  simp only [Bool.or_eq_true, Bool.and_eq_true, decide_eq_true_eq]
  omega
theorem enc_low {c : Nat} (h : c < 128) : (Utf8.encode (c : Int)).data.toList = [UInt8.ofNat c] := by
  have hv : Utf8.valid (c : Int) = true := enc_ok (.inl (by omega))
  simp [Utf8.encode, hv, h]
theorem toNat_of {c : Nat} (h : c < 256) : (UInt8.ofNat c).toNat = c := by
  rw [UInt8.toNat_ofNat']
  omega
theorem esc_117 : esc 117 = none := rfl
/-- One letter that is written with a stroke. -/
theorem escape_back {L : List UInt8} {i c : Nat} (hc : c < 128) (h : Has L i (qb c)) (_hq : lt L i = 92) : pEscape L i = .ok (i + (qb c).length) ⟨#[UInt8.ofNat c]⟩ ∨ (esc2 c = none ∧ 32 ≤ c) := by
  unfold qb at h ⊢
  cases he : esc2 c with
  | some e =>
    obtain ⟨h1, h2⟩ := back_some (by omega) he
    rw [he] at h
    simp only at h
    obtain ⟨_, _, h3⟩ := h.one
    obtain ⟨h4, h5, _⟩ := h3.one
    rw [toNat_of (by omega)] at h5
    left
    unfold pEscape
    rw [if_pos h4, h5, h1]
    rfl
  | none =>
    rw [he] at h
    simp only at h ⊢
    by_cases h32 : c < 32
    · rw [if_pos h32] at h ⊢
      left
      obtain ⟨_, _, h1⟩ := h.one
      obtain ⟨a1, b1, h2⟩ := h1.one
      obtain ⟨a2, b2, h3⟩ := h2.one
      obtain ⟨a3, b3, h4⟩ := h3.one
      obtain ⟨a4, b4, h5⟩ := h4.one
      obtain ⟨a5, b5, _⟩ := h5.one
      rw [toNat_of (hx_lt (by omega))] at b4 b5
      have f1 : ((117 : UInt8)).toNat = 117 := rfl
      have f2 : ((48 : UInt8)).toNat = 48 := rfl
      rw [f1] at b1
      rw [f2] at b2 b3
      unfold pEscape
      rw [if_pos a1, b1, esc_117]
      simp only [if_true]
      have hf : pFour L 4 0 (i + 2) = .ok (i + 6) c := by
        simp only [pFour]
        rw [if_pos a2, b2, hexv_48]
        simp only
        rw [if_pos a3, b3, hexv_48]
        simp only
        rw [if_pos a4, b4, hexv_hx (show c / 16 < 16 by omega)]
        simp only
        rw [if_pos a5, b5, hexv_hx (show c % 16 < 16 by omega)]
        dsimp only
        rw [PR.ok.injEq]
        omega
      rw [hf, PR.bind_ok]
      have n1 : ¬ (56320 ≤ c ∧ c ≤ 57343) := by omega
      have n2 : c < 55296 ∨ 56319 < c := by omega
      rw [if_neg n1, if_pos n2, PR.ok.injEq]
      refine ⟨rfl, ba_eq ?_⟩
      rw [← Array.toList_inj, enc_low hc]
    · right
      exact ⟨trivial, by omega⟩
/-! ### A text that is written is read again -/
theorem lt_of {M : List UInt8} {k : Nat} (h : k < M.length) : lt M k = (M[k]).toNat := by
  unfold lt
  rw [List.getElem?_eq_getElem h, Option.getD_some]
/-- A text's part, step by step: one character. -/
theorem tx_step {L M : List UInt8} {i w : Nat} (hM : 0 < M.length) (hw : uc M = w) (hw0 : w ≠ 0) (h : Has L i (qL (M.take w))) (m : Nat) (acc : List UInt8) :
    pTx L (m + 1) acc i = pTx L m (acc ++ M.take w) (i + (qL (M.take w)).length) := by
  have hle := uc_le M
  by_cases hlow : lt M 0 < 128
  · have hu1 : w = 1 := by
      rw [← hw]
      unfold uc
      rw [if_neg (by omega), if_pos hlow]
    subst hu1
    obtain ⟨c, hc⟩ : ∃ c, lt M 0 = c := ⟨_, rfl⟩
    have ht : M.take 1 = [UInt8.ofNat c] := by
      rw [Lib.takeA _ hM, ← hc, ← lt_getD]
      simp
    rw [hc] at hlow
    have hq : qL (M.take 1) = qb c := by
      rw [ht]
      unfold qL
      simp only [List.flatMap_cons, List.flatMap_nil, List.append_nil]
      rw [toNat_of (by omega)]
    rw [hq] at h ⊢
    rw [ht]
    have hne : 0 < (qb c).length := by
      unfold qb
      split
      · simp
      · split <;> simp
    have hlt : i < L.length := by
      have := h.1
      omega
    by_cases h92 : lt L i = 92
    · have hn34 : ¬ lt L i = 34 := by omega
      rcases escape_back hlow h h92 with he | ⟨he1, he2⟩
      · simp only [pTx]
        rw [if_pos hlt, if_neg hn34, if_pos h92, he, PR.bind_ok]
      · rw [qb_plain he2 he1] at h
        obtain ⟨_, hb, _⟩ := h.one
        rw [toNat_of (by omega)] at hb
        rcases back_none (by omega) he1 with h1 | ⟨h1, h2⟩
        · omega
        · omega
    · have hno : esc2 c = none ∧ 32 ≤ c := by
        have h' := h
        unfold qb at h'
        cases he : esc2 c with
        | some e =>
          rw [he] at h'
          obtain ⟨_, hb, _⟩ := h'.one
          exact (h92 hb).elim
        | none =>
          rw [he] at h'
          simp only at h'
          by_cases h32 : c < 32
          · rw [if_pos h32] at h'
            obtain ⟨_, hb, _⟩ := h'.one
            exact (h92 hb).elim
          · exact ⟨rfl, by omega⟩
      obtain ⟨he1, he2⟩ := hno
      rw [qb_plain he2 he1] at h ⊢
      obtain ⟨_, hb, _⟩ := h.one
      rw [toNat_of (by omega)] at hb
      have h34 : ¬ lt L i = 34 := by
        rcases back_none (by omega) he1 with h1 | ⟨h1, h2⟩ <;> omega
      have hu : uc (L.drop i) = 1 := by
        unfold uc
        rw [lt_drop, Nat.add_zero, List.length_drop, if_neg (by omega), if_pos (by omega)]
      have htk : (L.drop i).take 1 = [UInt8.ofNat c] := by
        have := h.take
        exact this
      have h32 : ¬ lt L i < 32 := by omega
      simp only [pTx]
      rw [if_pos hlt, if_neg h34, if_neg h92, if_neg h32, hu, htk]
      rfl
  · have hh := high_bytes M hM (by omega) (by omega)
    rw [hw] at hh
    have hq := qL_high hh
    rw [hq] at h ⊢
    have hl : (M.take w).length = w := by
      rw [List.length_take]
      omega
    have hL : i + w ≤ L.length := by
      have := h.1
      omega
    have hsame : ∀ k, k < uc M → lt (L.drop i) k = lt M k := by
      intro k hk
      rw [lt_drop, h.2 k (by omega)]
      unfold lt
      rw [List.getElem?_take_of_lt (by omega)]
    have hu := uc_same (X := L.drop i) (by omega) (by rw [List.length_drop]; omega) hsame
    have h0 := hsame 0 (by omega)
    rw [lt_drop, Nat.add_zero] at h0
    have htk : (L.drop i).take w = M.take w := by
      have := h.take
      rw [hl] at this
      exact this
    have a1 : i < L.length := by omega
    have a2 : ¬ lt L i = 34 := by omega
    have a3 : ¬ lt L i = 92 := by omega
    have a4 : ¬ lt L i < 32 := by omega
    have a5 : ¬ uc (L.drop i) = 0 := by omega
    simp only [pTx]
    rw [if_pos a1, if_neg a2, if_neg a3, if_neg a4, if_neg a5, hu, hw, htk, hl]
theorem qL_append (A B : List UInt8) : qL (A ++ B) = qL A ++ qL B := by
  unfold qL
  rw [List.flatMap_append]
/-- What is written of a right text is read as the text. -/
theorem tx_back {L M : List UInt8} (hv : Vd M) : ∀ (m i : Nat) (acc : List UInt8), M.length < m → Has L i (qL M ++ [34]) → pTx L m acc i = .ok (i + (qL M).length + 1) (tx (acc ++ M)) := by
  induction hv with
  | nil =>
    intro m i acc hm h
    obtain ⟨n, rfl⟩ : ∃ n, m = n + 1 := ⟨m - 1, by omega⟩
    have h' : Has L i ([34] : List UInt8) := h
    obtain ⟨h1, h2, _⟩ := h'.one
    have h3 : lt L i = 34 := h2
    simp only [pTx]
    rw [if_pos h1, if_pos h3, List.append_nil]
    rfl
  | @step M hu r ih =>
    intro m i acc hm h
    obtain ⟨n, rfl⟩ : ∃ n, m = n + 1 := ⟨m - 1, by omega⟩
    have hle := uc_le M
    have hsplit : qL M = qL (M.take (uc M)) ++ qL (M.drop (uc M)) := by
      rw [← qL_append, List.take_append_drop]
    rw [hsplit, List.append_assoc] at h
    have hs := tx_step (by omega) rfl hu h.left n acc
    have hr := h.right
    rw [hs, ih n _ _ (by rw [List.length_drop]; omega) hr, hsplit, List.length_append, List.append_assoc, List.take_append_drop]
    congr 1
    omega
theorem text_back {L : List UInt8} {i : Nat} {s : ByteArray} (hv : okU s = true) (h : Has L i (quote s.data.toList)) : i < L.length ∧ lt L i = 34 ∧ pText L i = .ok (i + (quote s.data.toList).length) s := by
  have h' : Has L i ((34 : UInt8) :: (qL s.data.toList ++ [34])) := by
    simpa [quote] using h
  obtain ⟨h1, h2, h3⟩ := h'.one
  refine ⟨h1, h2, ?_⟩
  have hv2 := (okU_iff s).1 hv
  have hlen := h.1
  have hz : s.data.toList.length < L.length - i := by
    have hq : ∀ M : List UInt8, M.length ≤ (qL M).length := by
      intro M
      induction M with
      | nil => simp
      | cons b r ih =>
        unfold qL at ih ⊢
        rw [List.flatMap_cons, List.length_append, List.length_cons]
        have : 1 ≤ (qb b.toNat).length := by
          unfold qb
          split
          · simp
          · split <;> simp
        omega
    have := hq s.data.toList
    simp only [quote, List.length_append, List.length_cons, List.length_nil] at hlen
    omega
  unfold pText
  rw [tx_back hv2 _ _ _ hz h3, List.nil_append, tx_data2]
  simp only [quote, List.length_append, List.length_cons, List.length_nil]
  congr 1
  omega
end Go.AM.F

/- JSON: what is written of a value is read as the value. No conditions. -/
namespace Go.AM.F
open Go Go.AM
set_option maxRecDepth 10000
set_option linter.unusedSimpArgs false

theorem word_has (s : ByteArray) (L : List UInt8) : ∀ (m k i : Nat), k + m = s.size → Has L i (s.data.toList.drop k) → pWord s L m k i = .ok (i + m) () := by
  have hsz := size_list s
  intro m
  induction m with
  | zero => intro k i _ _; rfl
  | succ m ih =>
    intro k i hk h
    have hlt : k < s.data.toList.length := by omega
    rw [List.drop_eq_getElem_cons hlt] at h
    obtain ⟨h1, h2, h3⟩ := h.one
    simp only [pWord]
    have hc : ch s k = (s.data.toList[k]).toNat := by
      unfold ch
      rw [List.getD_eq_getElem?_getD, List.getElem?_eq_getElem hlt, Option.getD_some]
    rw [if_pos ⟨h1, by rw [h2, hc]⟩, ih (k + 1) (i + 1) (by omega) h3]
    congr 1
    omega
theorem want_has {s : ByteArray} {L : List UInt8} {i : Nat} (h : Has L i s.data.toList) : pWant s L i = .ok (i + s.size) () := by
  unfold pWant
  exact word_has s L s.size 0 i (by omega) (by rw [List.drop_zero]; exact h)
theorem skip_none {L : List UInt8} {i : Nat} (h : blank (lt L i) = false) : skip blank L i = i := by
  by_cases hl : i < L.length
  · rw [skip_step blank L hl, h]
    simp
  · exact skip_end blank L (by omega)
/-- The first letter that is written of a value. -/
theorem out_first {j : J} (h : j.right = true) : ∃ (c : UInt8) (r : List UInt8), j.out = c :: r ∧ blank c.toNat = false := by
  obtain ⟨k, t, ns, is⟩ := j
  simp only [J.right] at h
  simp only [J.out]
  by_cases c1 : k = 1
  · rw [if_pos c1]; exact ⟨_, _, rfl, rfl⟩
  rw [if_neg c1]
  by_cases c2 : k = 2
  · rw [if_pos c2]; exact ⟨_, _, rfl, rfl⟩
  rw [if_neg c2]
  by_cases c3 : k = 3
  · rw [if_pos c3]; exact ⟨_, _, rfl, rfl⟩
  rw [if_neg c3]
  rw [if_neg (by omega)] at h
  by_cases c4 : k = 4
  · rw [if_pos c4] at h ⊢
    simp only [Bool.and_eq_true] at h
    obtain ⟨u, hu⟩ := (isNum_iff t).1 h.1.1
    have hle := pNumber_le (Nat.zero_le _) hu
    cases ht : t.data.toList with
    | nil =>
      have h0 : t.data.toList.length = 0 := by rw [ht]; rfl
      omega
    | cons c r =>
      refine ⟨c, r, rfl, ?_⟩
      rw [ht] at hu
      have h0 : lt (c :: r) 0 = c.toNat := rfl
      cases hb : blank c.toNat with
      | false => rfl
      | true =>
        have hc : c.toNat = 32 ∨ c.toNat = 9 ∨ c.toNat = 10 ∨ c.toNat = 13 := by
          simp [blank] at hb
          omega
        have hd : digit c.toNat = false := by
          simp [digit]
          omega
        unfold pNumber past pInt pDigits at hu
        rw [tk_minus, h0] at hu
        have n1 : (c.toNat == 45) = false := by
          simp
          omega
        rw [n1] at hu
        simp only [Bool.false_eq_true, if_false] at hu
        rw [tk_zero, h0] at hu
        have n2 : (c.toNat == 48) = false := by
          simp
          omega
        have n3 : (decide (0 < (c :: r).length) && digit c.toNat) = false := by rw [hd, Bool.and_false]
        rw [n2, n3] at hu
        simp only [Bool.false_eq_true, if_false, PR.bind_bad] at hu
        cases hu
  rw [if_neg c4] at h ⊢
  by_cases c5 : k = 5
  · rw [if_pos c5]
    exact ⟨34, qL t.data.toList ++ [34], by simp [quote], rfl⟩
  rw [if_neg c5] at h ⊢
  by_cases c7 : k = 7
  · rw [if_pos c7]; exact ⟨_, _, rfl, rfl⟩
  · rw [if_neg c7]; exact ⟨_, _, rfl, rfl⟩
/-- How a number begins. -/
theorem num_first {t : ByteArray} (h : isNum t = true) : lt t.data.toList 0 = 45 ∨ digit (lt t.data.toList 0) = true := by
  obtain ⟨u, hu⟩ := (isNum_iff t).1 h
  by_cases h1 : lt t.data.toList 0 = 45
  · exact .inl h1
  · right
    unfold pNumber past at hu
    rw [tk_minus] at hu
    have n1 : (lt t.data.toList 0 == 45) = false := by simpa using h1
    rw [n1] at hu
    simp only [Bool.false_eq_true, if_false] at hu
    unfold pInt at hu
    rw [tk_zero] at hu
    by_cases h2 : lt t.data.toList 0 = 48
    · rw [h2]; rfl
    · have n2 : (lt t.data.toList 0 == 48) = false := by simpa using h2
      rw [n2] at hu
      simp only [Bool.false_eq_true, if_false] at hu
      unfold pDigits at hu
      rw [dig_lt] at hu
      cases hd : digit (lt t.data.toList 0) with
      | true => rfl
      | false =>
        rw [hd] at hu
        simp only [Bool.false_eq_true, if_false, PR.bind_bad] at hu
        cases hu
/-- A value without values is read back. -/
theorem flat_back {k : Int} {t : ByteArray} (hk : k = 1 ∨ k = 2 ∨ k = 3 ∨ k = 4 ∨ k = 5) (hr : (J.mk k t [] []).right = true) {L : List UInt8} {i d f : Nat} (h : Has L i (J.mk k t [] []).out) (hn : k = 4 → numc (lt L (i + t.size)) = false) :
    pV L (f + 1) d i = some (.ok (i + (J.mk k t [] []).out.length) (.mk k t [] [])) := by
  have ht : k = 1 ∨ k = 2 ∨ k = 3 → t = eS := by
    intro hc
    simp only [J.right, if_pos hc, Bool.and_eq_true, decide_eq_true_eq] at hr
    exact hr.1.1
  rcases hk with rfl | rfl | rfl | rfl | rfl
  · obtain rfl := ht (by decide)
    have h' : Has L i sNull.data.toList := h
    have hw := want_has h'
    obtain ⟨h1, h2, _⟩ := h'.one
    have h3 : lt L i = 110 := h2
    simp only [pV, pFlat]
    rw [if_pos h1, h3]
    simp [hw]
    rfl
  · obtain rfl := ht (by decide)
    have h' : Has L i sFalse.data.toList := h
    have hw := want_has h'
    obtain ⟨h1, h2, _⟩ := h'.one
    have h3 : lt L i = 102 := h2
    simp only [pV, pFlat]
    rw [if_pos h1, h3]
    simp [hw]
    rfl
  · obtain rfl := ht (by decide)
    have h' : Has L i sTrue.data.toList := h
    have hw := want_has h'
    obtain ⟨h1, h2, _⟩ := h'.one
    have h3 : lt L i = 116 := h2
    simp only [pV, pFlat]
    rw [if_pos h1, h3]
    simp [hw]
    rfl
  · have hsz := size_list t
    have hnum : isNum t = true := by simpa [J.right] using hr
    have h' : Has L i t.data.toList := h
    have hs : Sh L i t.data.toList := ⟨h', by rw [hsz]; exact hn rfl⟩
    have hw := number_in hs hnum
    have hf := num_first hnum
    have hpos : 0 < t.data.toList.length := by
      obtain ⟨u, hu⟩ := (isNum_iff t).1 hnum
      have := pNumber_le (Nat.zero_le _) hu
      omega
    have h0 := h'.2 0 hpos
    rw [Nat.add_zero] at h0
    have h1 : i < L.length := by
      have := h'.1
      omega
    rw [← h0] at hf
    have hcut : tx ((L.drop i).take (i + t.size - i)) = t := by
      rw [Nat.add_sub_cancel_left, ← hsz, h'.take, tx_data2]
    have n0 : ¬ lt L i = 110 ∧ ¬ lt L i = 102 ∧ ¬ lt L i = 116 ∧ ¬ lt L i = 34 ∧ ¬ (lt L i = 91 ∨ lt L i = 123) := by
      rcases hf with hf | hf
      · omega
      · simp [digit] at hf
        omega
    obtain ⟨n1, n2, n3, n4, n5⟩ := n0
    simp only [pV, pFlat]
    rw [if_pos h1, if_neg n5, if_neg n1, if_neg n2, if_neg n3, if_neg n4, if_pos hf, hw, PR.bind_ok, hcut]
    have ho : (J.mk 4 t [] []).out.length = t.size := hsz
    rw [ho]
  · have hu : okU t = true := by simpa [J.right] using hr
    have h' : Has L i (quote t.data.toList) := h
    obtain ⟨h1, h2, h3⟩ := text_back hu h'
    simp only [pV, pFlat]
    rw [if_pos h1, h2]
    simp [h3]
    rfl
theorem want_one {s : ByteArray} {c : UInt8} {L : List UInt8} {i : Nat} (hs : s.data.toList = [c]) (h : i < L.length) (hc : lt L i = c.toNat) : pWant s L i = .ok (i + 1) () := by
  have hz : s.size = 1 := by
    rw [← size_list, hs]
    rfl
  have := want_has (s := s) (L := L) (i := i) (by
    rw [hs]
    refine ⟨by simp only [List.length_cons, List.length_nil]; omega, fun k hk => ?_⟩
    have hk0 : k = 0 := by simpa using hk
    subst hk0
    rw [Nat.add_zero, hc]
    rfl)
  rw [this, hz]
theorem not_numc (c : Nat) (h : c = 44 ∨ c = 93 ∨ c = 125) : numc c = false := by
  rcases h with rfl | rfl | rfl <;> rfl
theorem depth_mem : ∀ {is : List J} {x : J}, x ∈ is → x.depth ≤ J.depthL is
  | j :: r, x, h => by
    simp only [J.depthL]
    rcases List.mem_cons.1 h with rfl | h
    · split <;> omega
    · have := depth_mem h
      split <;> omega
theorem out_pos {j : J} (h : j.right = true) : 1 ≤ j.out.length := by
  obtain ⟨c, r, h1, _⟩ := out_first h
  rw [h1]
  simp
/-- What stands behind a list's value. -/
theorem outL_next (o : Bool) (ns : List ByteArray) (is : List J) (e : UInt8) : ∃ (c : UInt8) (r : List UInt8), J.outL o ns is false ++ [e] = c :: r ∧ (is = [] → c = e ∧ r = []) ∧ (is ≠ [] → c = 44 ∧ r = J.outL o ns is true ++ [e]) := by
  cases is with
  | nil => exact ⟨e, [], rfl, fun _ => ⟨rfl, rfl⟩, fun h => (h rfl).elim⟩
  | cons j r =>
    refine ⟨44, J.outL o ns (j :: r) true ++ [e], ?_, fun h => (by cases h), fun _ => ⟨rfl, rfl⟩⟩
    simp [J.outL]
mutual
theorem v_back : ∀ (j : J), j.right = true → j.twin = false → ∀ (L : List UInt8) (i d f : Nat), Has L i j.out → (∀ k t ns is, j = .mk k t ns is → k = 4 → numc (lt L (i + j.out.length)) = false) → j.depth + d ≤ 256 → 2 * j.out.length + 1 ≤ f → pV L f d i = some (.ok (i + j.out.length) j)
  | .mk k t ns is, hr, ht, L, i, d, f, h, hn, hd, hf => by
    obtain ⟨g, rfl⟩ : ∃ g, f = g + 1 := ⟨f - 1, by omega⟩
    by_cases c5 : k = 1 ∨ k = 2 ∨ k = 3 ∨ k = 4 ∨ k = 5
    · have he : ns = [] ∧ is = [] := by
        simp only [J.right] at hr
        rcases c5 with rfl | rfl | rfl | rfl | rfl <;> simp at hr <;> simp [hr]
      obtain ⟨rfl, rfl⟩ := he
      refine flat_back c5 hr h fun hk => ?_
      have := hn k t [] [] rfl hk
      have ho : (J.mk k t [] []).out.length = t.size := by
        subst hk
        exact size_list t
      rw [ho] at this
      exact this
    simp only [not_or] at c5
    obtain ⟨d1, d2, d3, d4, d5⟩ := c5
    have hr0 := hr
    simp only [J.right] at hr
    rw [if_neg (by omega), if_neg d4, if_neg d5] at hr
    simp only [J.twin, Bool.or_eq_false_iff] at ht
    by_cases c6 : k = 6
    · subst c6
      rw [if_pos rfl] at hr
      simp only [Bool.and_eq_true, decide_eq_true_eq] at hr
      obtain ⟨⟨rfl, rfl⟩, hri⟩ := hr
      have ho : (J.mk 6 eS [] is).out = 91 :: (J.outL false [] is true ++ [93]) := by simp [J.out]
      simp only [J.depth, true_or, if_true] at hd
      rw [ho] at h hf ⊢
      obtain ⟨h1, h2, h3⟩ := h.one
      have h4 : lt L i = 91 := h2
      simp only [List.length_cons] at hf ⊢
      simp only [pV]
      rw [if_pos h1, if_pos (.inl h4), if_neg (by omega), if_pos h4]
      cases is with
      | nil =>
        have h5 : Has L (i + 1) ([93] : List UInt8) := h3
        obtain ⟨a1, a2, _⟩ := h5.one
        have a3 : lt L (i + 1) = 93 := a2
        rw [skip_none (by rw [a3]; rfl), tk_end, a3]
        rfl
      | cons j r =>
        simp only [J.rightL, Bool.and_eq_true] at hri
        obtain ⟨c, q, hc1, hc2⟩ := out_first hri.1
        have h5 : Has L (i + 1) (c :: (q ++ (J.outL false [] r false ++ [93]))) := by
          have : J.outL false [] (j :: r) true ++ [93] = c :: (q ++ (J.outL false [] r false ++ [93])) := by
            simp [J.outL, hc1]
          rw [← this]
          exact h3
        obtain ⟨a1, a2, _⟩ := h5.one
        have hsk : skip blank L (i + 1) = i + 1 := skip_none (by rw [a2]; exact hc2)
        have hne : c.toNat ≠ 93 := by
          intro hcc
          have := out_first hri.1
          obtain ⟨k1, t1, ns1, is1⟩ := j
          have hr1 := hri.1
          simp only [J.right] at hr1
          simp only [J.out] at hc1
          have hcv : c = 93 := UInt8.toNat_inj.1 hcc
          subst hcv
          split at hc1
          · simp at hc1
          split at hc1
          · simp at hc1
          split at hc1
          · simp at hc1
          split at hc1
          · rename_i e1 e2 e3 e4
            rw [if_neg (by omega), if_pos e4] at hr1
            simp only [Bool.and_eq_true] at hr1
            have hf := num_first hr1.1.1
            rw [hc1] at hf
            have h93 : lt ((93 : UInt8) :: q) 0 = 93 := rfl
            rw [h93] at hf
            simp [digit] at hf
          split at hc1
          · simp [quote] at hc1
          split at hc1
          · simp at hc1
          · simp at hc1
        rw [hsk, tk_end, a2]
        have hne2 : (c.toNat == 93) = false := by simpa using hne
        rw [hne2]
        simp only [Bool.false_eq_true, if_false]
        have := items_back (j :: r) (by simp) (by simp only [J.rightL, Bool.and_eq_true]; exact hri) ht.2 L (i + 1) (d + 1) g [] h3 (by omega) (by omega)
        rw [this, List.nil_append]
        congr 2
        omega
    rw [if_neg c6] at hr
    by_cases c7 : k = 7
    · subst c7
      rw [if_pos rfl] at hr
      simp only [Bool.and_eq_true, decide_eq_true_eq] at hr
      obtain ⟨⟨⟨rfl, hlen⟩, hu⟩, hri⟩ := hr
      have ho : (J.mk 7 eS ns is).out = 123 :: (J.outL true ns is true ++ [125]) := by simp [J.out]
      simp only [J.depth, or_true, if_true] at hd
      rw [ho] at h hf ⊢
      obtain ⟨h1, h2, h3⟩ := h.one
      have h4 : lt L i = 123 := h2
      have h4' : ¬ lt L i = 91 := by omega
      simp only [List.length_cons] at hf ⊢
      simp only [pV]
      rw [if_pos h1, if_pos (.inr h4), if_neg (by omega), if_neg h4']
      cases is with
      | nil =>
        obtain rfl : ns = [] := List.length_eq_zero_iff.1 (by simpa using hlen)
        have h5 : Has L (i + 1) ([125] : List UInt8) := h3
        obtain ⟨a1, a2, _⟩ := h5.one
        have a3 : lt L (i + 1) = 125 := a2
        rw [skip_none (by rw [a3]; rfl), tk_stop, a3]
        rfl
      | cons j r =>
        have h34 : lt L (i + 1) = 34 := by
          have h5 : Has L (i + 1) ((34 : UInt8) :: (qL (ns.headD eS).data.toList ++ [34] ++ [58] ++ j.out ++ J.outL true ns.tail r false ++ [125])) := by
            have : J.outL true ns (j :: r) true ++ [125] = 34 :: (qL (ns.headD eS).data.toList ++ [34] ++ [58] ++ j.out ++ J.outL true ns.tail r false ++ [125]) := by
              simp [J.outL, quote]
            rw [← this]
            exact h3
          exact h5.one.2.1
        rw [skip_none (by rw [h34]; rfl), tk_stop, h34]
        simp only [Nat.reduceBEq, Bool.false_eq_true, if_false]
        have := members_back (j :: r) ns (by simp) hlen hu hri ht.2 L (i + 1) (d + 1) g [] [] ht.1 h3 (by omega) (by omega)
        rw [this, List.nil_append, List.nil_append]
        congr 2
        omega
    · rw [if_neg c7] at hr
      cases hr
theorem items_back : ∀ (is : List J), is ≠ [] → J.rightL is = true → J.twinL is = false → ∀ (L : List UInt8) (i d f : Nat) (acc : List J), Has L i (J.outL false [] is true ++ [93]) → J.depthL is + d ≤ 256 → 2 * (J.outL false [] is true ++ [93]).length + 2 ≤ f → pItems L f d i acc = some (.ok (i + (J.outL false [] is true ++ [93]).length) (.mk 6 eS [] (acc ++ is)))
  | [], hne, _, _, _, _, _, _, _, _, _, _ => (hne rfl).elim
  | j :: r, _, hr, ht, L, i, d, f, acc, h, hd, hf => by
    obtain ⟨g, rfl⟩ : ∃ g, f = g + 1 := ⟨f - 1, by omega⟩
    simp only [J.rightL, Bool.and_eq_true] at hr
    simp only [J.twinL, Bool.or_eq_false_iff] at ht
    have ho : J.outL false [] (j :: r) true ++ [93] = j.out ++ (J.outL false [] r false ++ [93]) := by simp [J.outL]
    rw [ho] at h hf ⊢
    obtain ⟨c, q, hc1, hc2⟩ := out_first hr.1
    have hpos := out_pos hr.1
    have hl := h.left
    rw [hc1] at hl
    obtain ⟨a1, a2, _⟩ := hl.one
    have hsk : skip blank L i = i := skip_none (by rw [a2]; exact hc2)
    obtain ⟨e, w, e1, e2, e3⟩ := outL_next false [] r 93
    have hR := h.right
    rw [e1] at hR hf ⊢
    obtain ⟨b1, b2, b3⟩ := hR.one
    have hstop : e.toNat = 44 ∨ e.toNat = 93 := by
      by_cases hre : r = []
      · right; rw [(e2 hre).1]; rfl
      · left; rw [(e3 hre).1]; rfl
    have hdj := depth_mem (show j ∈ j :: r by simp)
    simp only [List.length_append, List.length_cons] at hf ⊢
    have hv := v_back j hr.1 ht.1 L i d g h.left (fun _ _ _ _ _ _ => not_numc _ (by omega)) (by omega) (by omega)
    have hsk2 : skip blank L (i + j.out.length) = i + j.out.length := skip_none (by
      rw [b2]
      rcases hstop with hs | hs <;> rw [hs] <;> rfl)
    simp only [pItems]
    rw [hsk, hv]
    simp only
    rw [hsk2, tk_end, b2]
    by_cases hre : r = []
    · obtain ⟨rfl, rfl⟩ := e2 hre
      subst hre
      rfl
    · obtain ⟨rfl, rfl⟩ := e3 hre
      have h44 : ((44 : UInt8).toNat == 93) = false := rfl
      rw [h44]
      simp only [Bool.false_eq_true, if_false]
      have hcom : pWant sComma L (i + j.out.length) = .ok (i + j.out.length + 1) () := want_one (c := 44) rfl b1 b2
      rw [hcom]
      simp only
      have hdr : J.depthL r ≤ J.depthL (j :: r) := by
        simp only [J.depthL]
        split <;> omega
      have := items_back r hre hr.2 ht.2 L (i + j.out.length + 1) d g (acc ++ [j]) b3 (by omega) (by omega)
      rw [this]
      simp only [List.append_assoc, List.cons_append, List.nil_append]
      congr 2
      omega
theorem members_back : ∀ (is : List J) (ms : List ByteArray), is ≠ [] → ms.length = is.length → ms.all okU = true → J.rightL is = true → J.twinL is = false → ∀ (L : List UInt8) (i d f : Nat) (ns : List ByteArray) (acc : List J), dupl ns ms = false → Has L i (J.outL true ms is true ++ [125]) → J.depthL is + d ≤ 256 → 2 * (J.outL true ms is true ++ [125]).length + 2 ≤ f → pMembers L f d i ns acc = some (.ok (i + (J.outL true ms is true ++ [125]).length) (.mk 7 eS (ns ++ ms) (acc ++ is)))
  | [], _, hne, _, _, _, _, _, _, _, _, _, _, _, _, _, _ => (hne rfl).elim
  | _ :: _, [], _, hlen, _, _, _, _, _, _, _, _, _, _, _, _, _ => by simp at hlen
  | j :: r, s :: ms, _, hlen, hu, hr, ht, L, i, d, f, ns, acc, hdup, h, hd, hf => by
    obtain ⟨g, rfl⟩ : ∃ g, f = g + 1 := ⟨f - 1, by omega⟩
    simp only [J.rightL, Bool.and_eq_true] at hr
    simp only [J.twinL, Bool.or_eq_false_iff] at ht
    simp only [List.all_cons, Bool.and_eq_true] at hu
    simp only [dupl, Bool.or_eq_false_iff] at hdup
    have ho : J.outL true (s :: ms) (j :: r) true ++ [125] = quote s.data.toList ++ (58 :: (j.out ++ (J.outL true ms r false ++ [125]))) := by simp [J.outL]
    rw [ho] at h hf ⊢
    obtain ⟨t1, t2, t3⟩ := text_back hu.1 h.left
    have h58 := h.right
    obtain ⟨u1, u2, u3⟩ := h58.one
    have u4 : lt L (i + (quote s.data.toList).length) = 58 := u2
    obtain ⟨c, q, hc1, hc2⟩ := out_first hr.1
    have hpos := out_pos hr.1
    have hl := u3.left
    rw [hc1] at hl
    obtain ⟨a1, a2, _⟩ := hl.one
    have hsk0 : skip blank L i = i := skip_none (by rw [t2]; rfl)
    have hsk1 : skip blank L (i + (quote s.data.toList).length) = i + (quote s.data.toList).length := skip_none (by rw [u4]; rfl)
    have hsk : skip blank L (i + (quote s.data.toList).length + 1) = i + (quote s.data.toList).length + 1 := skip_none (by rw [a2]; exact hc2)
    obtain ⟨e, w, e1, e2, e3⟩ := outL_next true ms r 125
    have hR := u3.right
    rw [e1] at hR hf ⊢
    obtain ⟨b1, b2, b3⟩ := hR.one
    have hstop : e.toNat = 44 ∨ e.toNat = 125 := by
      by_cases hre : r = []
      · right; rw [(e2 hre).1]; rfl
      · left; rw [(e3 hre).1]; rfl
    have hdj := depth_mem (show j ∈ j :: r by simp)
    simp only [List.length_append, List.length_cons] at hf ⊢
    have hv := v_back j hr.1 ht.1 L (i + (quote s.data.toList).length + 1) d g u3.left (fun _ _ _ _ _ _ => not_numc _ (by omega)) (by omega) (by omega)
    have hsk2 : skip blank L (i + (quote s.data.toList).length + 1 + j.out.length) = i + (quote s.data.toList).length + 1 + j.out.length := skip_none (by
      rw [b2]
      rcases hstop with hs | hs <;> rw [hs] <;> rfl)
    have hcol : pWant sColon L (i + (quote s.data.toList).length) = .ok (i + (quote s.data.toList).length + 1) () := want_one (c := 58) rfl u1 u2
    simp only [pMembers]
    rw [hsk0, if_pos ⟨t1, t2⟩, t3]
    simp only
    rw [hdup.1]
    simp only [Bool.false_eq_true, if_false]
    rw [hsk1, hcol]
    simp only
    rw [hsk, hv]
    simp only
    rw [hsk2, tk_stop, b2]
    by_cases hre : r = []
    · obtain ⟨rfl, rfl⟩ := e2 hre
      subst hre
      obtain rfl : ms = [] := List.length_eq_zero_iff.1 (by simpa using hlen)
      have h125 : ((125 : UInt8).toNat == 125) = true := rfl
      rw [h125]
      simp only [if_true, List.length_nil]
      congr 2
      omega
    · obtain ⟨rfl, rfl⟩ := e3 hre
      have h44 : ((44 : UInt8).toNat == 125) = false := rfl
      rw [h44]
      simp only [Bool.false_eq_true, if_false]
      have hcom : pWant sComma L (i + (quote s.data.toList).length + 1 + j.out.length) = .ok (i + (quote s.data.toList).length + 1 + j.out.length + 1) () := want_one (c := 44) rfl b1 b2
      rw [hcom]
      simp only
      have hdr : J.depthL r ≤ J.depthL (j :: r) := by
        simp only [J.depthL]
        split <;> omega
      have := members_back r ms hre (by simpa using hlen) hu.2 hr.2 ht.2 L (i + (quote s.data.toList).length + 1 + j.out.length + 1) d g (ns ++ [s]) (acc ++ [j]) hdup.2 b3 (by omega) (by omega)
      rw [this]
      simp only [List.append_assoc, List.cons_append, List.nil_append]
      congr 2
      omega
end
end Go.AM.F

/- JSON: what is read is right: texts. No conditions. -/
namespace Go.AM.F
open Go Go.AM
set_option maxRecDepth 10000
set_option linter.unusedSimpArgs false

theorem Vd.append {A B : List UInt8} (h : Vd A) (hb : Vd B) : Vd (A ++ B) := by
  induction h with
  | nil => exact hb
  | @step M hu r ih =>
    have hle := uc_le M
    have hs : uc (M ++ B) = uc M := uc_same hu (by rw [List.length_append]; omega) fun k hk => lt_append_l (by omega)
    refine .step (by rw [hs]; exact hu) ?_
    rw [hs, List.drop_append_of_le_length (by omega)]
    exact ih
theorem Vd.one {M : List UInt8} (h : uc M ≠ 0) (hl : uc M = M.length) : Vd M := by
  refine .step h ?_
  rw [hl, List.drop_length]
  exact .nil
/-- A character's bytes are a right character. -/
theorem enc_facts {v : Nat} (h : v < 55296 ∨ (57344 ≤ v ∧ v ≤ 1114111)) : uc (Utf8.encode (v : Int)).data.toList = (Utf8.encode (v : Int)).data.toList.length ∧ 1 ≤ (Utf8.encode (v : Int)).data.toList.length ∧ (Utf8.encode (v : Int)).data.toList.length ≤ 4 ∧ (128 ≤ v → 128 ≤ lt (Utf8.encode (v : Int)).data.toList 0) ∧ (v < 128 → (Utf8.encode (v : Int)).data.toList = [UInt8.ofNat v]) := by
  have hv := enc_ok h
  by_cases c1 : v < 128
  · rw [enc_low c1]
    have h0 : lt [UInt8.ofNat v] 0 = v := toNat_of (by omega)
    refine ⟨?_, by simp, by simp, fun h => by omega, fun _ => rfl⟩
    unfold uc
    rw [h0]
    simp [c1]
  by_cases c2 : v < 2048
  · have he : (Utf8.encode (v : Int)).data.toList = [UInt8.ofNat (192 + v / 64), UInt8.ofNat (128 + v % 64)] := by
      simp [Utf8.encode, hv, c1, c2]
    rw [he]
    have h0 : lt [UInt8.ofNat (192 + v / 64), UInt8.ofNat (128 + v % 64)] 0 = 192 + v / 64 := toNat_of (by omega)
    have h1 : lt [UInt8.ofNat (192 + v / 64), UInt8.ofNat (128 + v % 64)] 1 = 128 + v % 64 := toNat_of (by omega)
    refine ⟨?_, by simp, by simp, fun _ => by omega, fun h => by omega⟩
    unfold uc
    rw [h0, h1, if_neg (by simp), if_neg (by omega), if_neg (by omega), if_pos (by omega), if_pos ⟨by simp, (cont_iff _).2 (by omega)⟩]
    rfl
  by_cases c3 : v < 65536
  · have he : (Utf8.encode (v : Int)).data.toList = [UInt8.ofNat (224 + v / 4096), UInt8.ofNat (128 + v / 64 % 64), UInt8.ofNat (128 + v % 64)] := by
      simp [Utf8.encode, hv, c1, c2, c3]
    rw [he]
    have h0 : lt [UInt8.ofNat (224 + v / 4096), UInt8.ofNat (128 + v / 64 % 64), UInt8.ofNat (128 + v % 64)] 0 = 224 + v / 4096 := toNat_of (by omega)
    have h1 : lt [UInt8.ofNat (224 + v / 4096), UInt8.ofNat (128 + v / 64 % 64), UInt8.ofNat (128 + v % 64)] 1 = 128 + v / 64 % 64 := toNat_of (by omega)
    have h2 : lt [UInt8.ofNat (224 + v / 4096), UInt8.ofNat (128 + v / 64 % 64), UInt8.ofNat (128 + v % 64)] 2 = 128 + v % 64 := toNat_of (by omega)
    refine ⟨?_, by simp, by simp, fun _ => by omega, fun h => by omega⟩
    unfold uc
    rw [h0, h1, h2, if_neg (by simp), if_neg (by omega), if_neg (by omega), if_neg (by omega), if_pos (by omega), if_pos ⟨by simp, (in1_iff _ _).2 (by omega), (cont_iff _).2 (by omega)⟩]
    rfl
  · have he : (Utf8.encode (v : Int)).data.toList = [UInt8.ofNat (240 + v / 262144), UInt8.ofNat (128 + v / 4096 % 64), UInt8.ofNat (128 + v / 64 % 64), UInt8.ofNat (128 + v % 64)] := by
      simp [Utf8.encode, hv, c1, c2, c3]
    rw [he]
    have h0 : lt [UInt8.ofNat (240 + v / 262144), UInt8.ofNat (128 + v / 4096 % 64), UInt8.ofNat (128 + v / 64 % 64), UInt8.ofNat (128 + v % 64)] 0 = 240 + v / 262144 := toNat_of (by omega)
    have h1 : lt [UInt8.ofNat (240 + v / 262144), UInt8.ofNat (128 + v / 4096 % 64), UInt8.ofNat (128 + v / 64 % 64), UInt8.ofNat (128 + v % 64)] 1 = 128 + v / 4096 % 64 := toNat_of (by omega)
    have h2 : lt [UInt8.ofNat (240 + v / 262144), UInt8.ofNat (128 + v / 4096 % 64), UInt8.ofNat (128 + v / 64 % 64), UInt8.ofNat (128 + v % 64)] 2 = 128 + v / 64 % 64 := toNat_of (by omega)
    have h3 : lt [UInt8.ofNat (240 + v / 262144), UInt8.ofNat (128 + v / 4096 % 64), UInt8.ofNat (128 + v / 64 % 64), UInt8.ofNat (128 + v % 64)] 3 = 128 + v % 64 := toNat_of (by omega)
    refine ⟨?_, by simp, by simp, fun _ => by omega, fun h => by omega⟩
    unfold uc
    rw [h0, h1, h2, h3, if_neg (by simp), if_neg (by omega), if_neg (by omega), if_neg (by omega), if_neg (by omega), if_pos (by omega), if_pos ⟨by simp, (in1_iff _ _).2 (by omega), (cont_iff _).2 (by omega), (cont_iff _).2 (by omega)⟩]
    rfl
theorem qb_le (c : Nat) : (qb c).length ≤ 6 := by
  unfold qb
  split
  · simp
  · split <;> simp
/-- What a character's bytes are written as. -/
theorem enc_out {v : Nat} (h : v < 55296 ∨ (57344 ≤ v ∧ v ≤ 1114111)) : Vd (Utf8.encode (v : Int)).data.toList ∧ (qL (Utf8.encode (v : Int)).data.toList).length ≤ 6 := by
  obtain ⟨h1, h2, h3, h4, h5⟩ := enc_facts h
  refine ⟨.one (by omega) h1, ?_⟩
  by_cases hv : v < 128
  · rw [h5 hv]
    unfold qL
    simp only [List.flatMap_cons, List.flatMap_nil, List.append_nil]
    exact qb_le _
  · have hh := high_bytes _ (by omega) (by omega) (h4 (by omega))
    rw [h1, List.take_length] at hh
    rw [qL_high hh]
    omega
def escOut (c : Nat) : Bool := match esc c with
  | some e => decide (e < 128) && decide ((qb e).length ≤ 2)
  | none => true
theorem escOut_all : (List.range 256).all escOut = true := by kernel_rfl
theorem escape_right {L : List UInt8} {i j : Nat} {s : ByteArray} (h : pEscape L i = .ok j s) : Vd s.data.toList ∧ (qL s.data.toList).length + i ≤ j ∧ s.size + i ≤ j := by
  have hlen := pEscape_le h
  unfold pEscape at h
  split at h
  · rename_i hi
    split at h
    · rename_i e he
      cases h
      have := List.all_eq_true.1 escOut_all (lt L (i + 1)) (by simpa using lt_small L (i + 1))
      simp only [escOut, he, Bool.and_eq_true, decide_eq_true_eq] at this
      obtain ⟨g1, g2⟩ := this
      have hl : (⟨#[e.toUInt8]⟩ : ByteArray).data.toList = [UInt8.ofNat e] := rfl
      rw [hl]
      have h0 : lt [UInt8.ofNat e] 0 = e := toNat_of (by omega)
      refine ⟨.one ?_ ?_, ?_, ?_⟩
      · unfold uc
        rw [h0]
        simp [g1]
      · unfold uc
        rw [h0]
        simp [g1]
      · unfold qL
        simp only [List.flatMap_cons, List.flatMap_nil, List.append_nil]
        rw [toNat_of (by omega)]
        omega
      · show 1 + i ≤ i + 2
        omega
    · split at h
      · cases hp : pFour L 4 0 (i + 2) with
        | bad w a => rw [hp] at h; cases h
        | ok k v =>
          rw [hp, PR.bind_ok] at h
          obtain ⟨f1, f2, f3⟩ := pFour_le (by omega) hp
          split at h
          · cases h
          · rename_i n1
            split at h
            · rename_i n2
              cases h
              obtain ⟨o1, o2⟩ := enc_out (v := v) (by omega)
              refine ⟨o1, by omega, by omega⟩
            · rename_i n2
              unfold pPair at h
              split at h
              · rename_i hj
                cases hq : pFour L 4 0 (k + 2) with
                | bad w a => rw [hq] at h; cases h
                | ok m u =>
                  rw [hq, PR.bind_ok] at h
                  obtain ⟨g1, g2, g3⟩ := pFour_le (by omega) hq
                  split at h
                  · cases h
                  · rename_i n3
                    cases h
                    obtain ⟨o1, o2⟩ := enc_out (v := 65536 + (v - 55296) * 1024 + (u - 56320)) (by omega)
                    exact ⟨o1, by omega, by omega⟩
              · cases h
      · cases h
  · cases h
theorem tx_data' (l : List UInt8) : (tx l).data.toList = l := by simp [tx]
theorem text_right {L : List UInt8} : ∀ {m i j : Nat} {acc : List UInt8} {s : ByteArray}, pTx L m acc i = .ok j s → Vd acc → i ≤ L.length →
    Vd s.data.toList ∧ (qL s.data.toList).length + i + 1 ≤ (qL acc).length + j ∧ s.size + i + 1 ≤ acc.length + j := by
  intro m
  induction m with
  | zero => intro i j acc s h; cases h
  | succ m ih =>
    intro i j acc s h hv hi
    simp only [pTx] at h
    split at h
    · rename_i hlt
      split at h
      · cases h
        rw [tx_data', tx_size]
        exact ⟨hv, by omega, by omega⟩
      · rename_i c34
        split at h
        · cases hp : pEscape L i with
          | bad w a => rw [hp] at h; cases h
          | ok k u =>
            rw [hp, PR.bind_ok] at h
            obtain ⟨e1, e2, e3⟩ := escape_right hp
            have hk := pEscape_le hp
            obtain ⟨g1, g2, g3⟩ := ih h (hv.append e1) hk.2.1
            rw [qL_append, List.length_append] at g2
            have hz := size_list u
            rw [List.length_append] at g3
            exact ⟨g1, by omega, by omega⟩
        · rename_i c92
          split at h
          · cases h
          · rename_i c32
            split at h
            · cases h
            · rename_i hu
              have hle := uc_le (L.drop i)
              rw [List.length_drop] at hle
              have htl : ((L.drop i).take (uc (L.drop i))).length = uc (L.drop i) := by
                rw [List.length_take, List.length_drop]
                omega
              have hlt0 : lt (L.drop i) 0 = lt L i := by rw [lt_drop, Nat.add_zero]
              have huu : uc ((L.drop i).take (uc (L.drop i))) = uc (L.drop i) := uc_same hu (by omega) fun k hk => by
                unfold lt
                rw [List.getElem?_take_of_lt hk]
              have hvd : Vd ((L.drop i).take (uc (L.drop i))) := .one (by omega) (by omega)
              have hql : (qL ((L.drop i).take (uc (L.drop i)))).length = uc (L.drop i) := by
                by_cases hlow : lt L i < 128
                · have hu1 : uc (L.drop i) = 1 := by
                    unfold uc
                    rw [hlt0, List.length_drop, if_neg (by omega), if_pos hlow]
                  rw [hu1, Lib.takeA _ (by rw [List.length_drop]; omega)]
                  have hg : ((L.drop i).getD 0 0).toNat = lt L i := by rw [lt_getD, hlt0]
                  unfold qL
                  simp only [List.flatMap_cons, List.flatMap_nil, List.append_nil]
                  rw [hg]
                  have : esc2 (lt L i) = none := by
                    unfold esc2
                    rw [if_neg c34, if_neg c92, if_neg (by omega), if_neg (by omega), if_neg (by omega), if_neg (by omega), if_neg (by omega)]
                  rw [qb_plain (by omega) this]
                  rfl
                · have hh := high_bytes (L.drop i) (by rw [List.length_drop]; omega) hu (by omega)
                  rw [qL_high hh, htl]
              obtain ⟨g1, g2, g3⟩ := ih h (hv.append hvd) (by omega)
              rw [qL_append, List.length_append, hql] at g2
              rw [List.length_append, htl] at g3
              exact ⟨g1, by omega, by omega⟩
    · cases h
theorem ptext_right {L : List UInt8} {i j : Nat} {s : ByteArray} (hi : i < L.length) (h : pText L i = .ok j s) : okU s = true ∧ (quote s.data.toList).length + i ≤ j ∧ s.size + i + 2 ≤ j := by
  unfold pText at h
  obtain ⟨g1, g2, g3⟩ := text_right h .nil (by omega)
  have hq : (qL []).length = 0 := rfl
  refine ⟨(okU_iff s).2 g1, ?_, ?_⟩
  · simp only [quote, List.length_append, List.length_cons, List.length_nil]
    omega
  · simp only [List.length_nil] at g3
    omega
end Go.AM.F

/- JSON: numbers that are cut off; what is read is right. No conditions. -/
namespace Go.AM.F
open Go Go.AM
set_option maxRecDepth 10000
set_option linter.unusedSimpArgs false

/-! ### Beginnings of a text -/
theorem lt_take {L : List UInt8} {k m : Nat} (h : m < k) : lt (L.take k) m = lt L m := by
  unfold lt
  rw [List.getElem?_take_of_lt h]
theorem lt_take_end {L : List UInt8} {k m : Nat} (h : k ≤ m) : lt (L.take k) m = 0 := by
  apply lt_end
  rw [List.length_take]
  omega
theorem take_len {L : List UInt8} {k : Nat} (hk : k ≤ L.length) : (L.take k).length = k := by
  rw [List.length_take]
  omega
theorem tk_take {s : ByteArray} {L : List UInt8} {k m : Nat} (hk : k ≤ L.length) (h : m < k) : tk s (L.take k) m = tk s L m := by
  unfold tk
  rw [lt_take h, take_len hk]
  congr 1
  rw [decide_eq_decide]
  omega
theorem tk_take_end {s : ByteArray} {L : List UInt8} {k : Nat} (hk : k ≤ L.length) : tk s (L.take k) k = false := by
  unfold tk
  rw [take_len hk]
  simp
theorem skip_take {p : Nat → Bool} {L : List UInt8} {k : Nat} (hk : k ≤ L.length) : ∀ (n a : Nat), k - a = n → a ≤ k → skip p (L.take k) a = min k (skip p L a) := by
  intro n
  induction n with
  | zero =>
    intro a hn ha
    obtain rfl : a = k := by omega
    have := skip_le p L hk
    rw [skip_end p _ (by rw [take_len hk]; omega)]
    omega
  | succ n ih =>
    intro a hn ha
    have h1 : a < (L.take k).length := by rw [take_len hk]; omega
    rw [skip_step p _ h1, skip_step p L (by omega), lt_take (by omega)]
    split
    · exact ih (a + 1) (by omega) (by omega)
    · omega
theorem digits_keep {L : List UInt8} {k a b : Nat} {u : Unit} (hk : k ≤ L.length) (h : pDigits L a = .ok b u) (hb : b ≤ k) : pDigits (L.take k) a = .ok b u := by
  have hle := pDigits_le h
  unfold pDigits at h ⊢
  rw [dig_lt] at h ⊢
  rw [lt_take (by omega), skip_take hk _ a rfl (by omega)]
  split at h
  · rename_i hd
    rw [if_pos hd]
    cases h
    congr 1
    omega
  · cases h
/-- The answer at the end of what is left. -/
def CutN (k : Nat) (r : PR Unit) : Prop := r = .ok k () ∨ r = .bad 100 k
theorem digits_end {L : List UInt8} {k : Nat} (_hk : k ≤ L.length) : pDigits (L.take k) k = .bad 100 k := by
  unfold pDigits
  rw [dig_lt, lt_take_end (Nat.le_refl _), digit_zero]
  rfl
theorem digits_cut {L : List UInt8} {k a b : Nat} {u : Unit} (hk : k ≤ L.length) (h : pDigits L a = .ok b u) (ha : a ≤ k) (hb : k < b) : CutN k (pDigits (L.take k) a) := by
  by_cases hak : a = k
  · subst hak
    exact .inr (digits_end hk)
  · left
    unfold pDigits at h ⊢
    rw [dig_lt] at h ⊢
    rw [lt_take (by omega), skip_take hk _ a rfl ha]
    split at h
    · rename_i hd
      rw [if_pos hd]
      cases h
      congr 1
      omega
    · cases h
theorem int_keep {L : List UInt8} {k a b : Nat} {u : Unit} (hk : k ≤ L.length) (h : pInt L a = .ok b u) (hb : b ≤ k) : pInt (L.take k) a = .ok b u := by
  have hle := pInt_le h
  unfold pInt at h ⊢
  rw [tk_take hk (by omega)]
  split at h
  · rename_i ht
    rw [if_pos ht]
    exact h
  · rename_i ht
    rw [if_neg ht]
    exact digits_keep hk h hb
theorem int_end {L : List UInt8} {k : Nat} (hk : k ≤ L.length) : pInt (L.take k) k = .bad 100 k := by
  unfold pInt
  rw [tk_take_end hk]
  exact digits_end hk
theorem int_cut {L : List UInt8} {k a b : Nat} {u : Unit} (hk : k ≤ L.length) (h : pInt L a = .ok b u) (ha : a ≤ k) (hb : k < b) : CutN k (pInt (L.take k) a) := by
  by_cases hak : a = k
  · subst hak
    exact .inr (int_end hk)
  · unfold pInt at h ⊢
    rw [tk_take hk (by omega)]
    split at h
    · cases h
      omega
    · rename_i ht
      rw [if_neg ht]
      exact digits_cut hk h ha hb
theorem frac_keep {L : List UInt8} {k a b : Nat} {u : Unit} (hk : k ≤ L.length) (h : pFrac L a = .ok b u) (hb : b ≤ k) : pFrac (L.take k) a = .ok b u := by
  unfold pFrac at h ⊢
  split at h
  · rename_i ht
    have hle := pDigits_le h
    rw [tk_take hk (by omega), if_pos ht]
    exact digits_keep hk h hb
  · rename_i ht
    cases h
    by_cases hak : a = k
    · subst hak
      rw [tk_take_end hk]
      rfl
    · rw [tk_take hk (by omega), if_neg ht]
theorem frac_cut {L : List UInt8} {k a b : Nat} {u : Unit} (hk : k ≤ L.length) (h : pFrac L a = .ok b u) (ha : a ≤ k) (hb : k < b) : CutN k (pFrac (L.take k) a) := by
  unfold pFrac at h ⊢
  by_cases hak : a = k
  · subst hak
    rw [tk_take_end hk]
    exact .inl rfl
  · rw [tk_take hk (by omega)]
    split at h
    · rename_i ht
      rw [if_pos ht]
      exact digits_cut hk h (by omega) hb
    · cases h
      omega
theorem past_take {s : ByteArray} {L : List UInt8} {k a : Nat} (hk : k ≤ L.length) (ha : a < k) : past s (L.take k) a = past s L a := by
  unfold past
  rw [tk_take hk ha]
theorem past_end {s : ByteArray} {L : List UInt8} {k : Nat} (hk : k ≤ L.length) : past s (L.take k) k = k := by
  unfold past
  rw [tk_take_end hk]
  rfl
theorem past_one (s : ByteArray) (L : List UInt8) (a : Nat) : past s L a = a ∨ past s L a = a + 1 := by
  unfold past
  split
  · exact .inr rfl
  · exact .inl rfl
theorem exp_keep {L : List UInt8} {k a b : Nat} {u : Unit} (hk : k ≤ L.length) (h : pExp L a = .ok b u) (hb : b ≤ k) : pExp (L.take k) a = .ok b u := by
  unfold pExp at h ⊢
  split at h
  · rename_i ht
    have hle := pDigits_le h
    have hp := past_one sSign L (a + 1)
    rw [tk_take hk (by omega), if_pos ht, past_take hk (by omega)]
    exact digits_keep hk h hb
  · rename_i ht
    cases h
    by_cases hak : a = k
    · subst hak
      rw [tk_take_end hk]
      rfl
    · rw [tk_take hk (by omega), if_neg ht]
theorem exp_cut {L : List UInt8} {k a b : Nat} {u : Unit} (hk : k ≤ L.length) (h : pExp L a = .ok b u) (ha : a ≤ k) (hb : k < b) : CutN k (pExp (L.take k) a) := by
  unfold pExp at h ⊢
  by_cases hak : a = k
  · subst hak
    rw [tk_take_end hk]
    exact .inl rfl
  · rw [tk_take hk (by omega)]
    split at h
    · rename_i ht
      rw [if_pos ht]
      by_cases hk1 : a + 1 = k
      · rw [hk1, past_end hk]
        exact .inr (digits_end hk)
      · have hp := past_one sSign L (a + 1)
        rw [past_take hk (by omega)]
        exact digits_cut hk h (by omega) hb
    · cases h
      omega
theorem frac_end {L : List UInt8} {k : Nat} (hk : k ≤ L.length) : pFrac (L.take k) k = .ok k () := by
  unfold pFrac
  rw [tk_take_end hk]
  rfl
theorem exp_end {L : List UInt8} {k : Nat} (hk : k ≤ L.length) : pExp (L.take k) k = .ok k () := by
  unfold pExp
  rw [tk_take_end hk]
  rfl
theorem number_keep {L : List UInt8} {k i j : Nat} {u : Unit} (hk : k ≤ L.length) (h : pNumber L i = .ok j u) (hi : i ≤ L.length) (hj : j ≤ k) : pNumber (L.take k) i = .ok j u := by
  have hle := pNumber_le hi h
  unfold pNumber at h ⊢
  rw [past_take hk (by omega)]
  cases h1 : pInt L (past sMinus L i) with
  | bad w a => rw [h1] at h; cases h
  | ok a u1 =>
    rw [h1, PR.bind_ok] at h
    cases h2 : pFrac L a with
    | bad w b => rw [h2] at h; cases h
    | ok b u2 =>
      rw [h2, PR.bind_ok] at h
      have l1 := pInt_le h1
      have l2 := pFrac_le l1.2 h2
      have l3 := pExp_le l2.2 h
      rw [int_keep hk h1 (by omega), PR.bind_ok, frac_keep hk h2 (by omega), PR.bind_ok]
      exact exp_keep hk h hj
theorem number_cut {L : List UInt8} {k i j : Nat} {u : Unit} (h : pNumber L i = .ok j u) (hj : j ≤ L.length) (hi : i ≤ k) (hb : k < j) : CutN k (pNumber (L.take k) i) := by
  have hk : k ≤ L.length := by omega
  unfold pNumber at h ⊢
  by_cases hik : i = k
  · subst hik
    rw [past_end hk, int_end hk]
    exact .inr rfl
  have hp := past_one sMinus L i
  rw [past_take hk (by omega)]
  cases h1 : pInt L (past sMinus L i) with
  | bad w a => rw [h1] at h; cases h
  | ok a u1 =>
    rw [h1, PR.bind_ok] at h
    cases h2 : pFrac L a with
    | bad w b => rw [h2] at h; cases h
    | ok b u2 =>
      rw [h2, PR.bind_ok] at h
      by_cases ca : k < a
      · rcases int_cut hk h1 (by omega) ca with e | e
        · rw [e, PR.bind_ok, frac_end hk, PR.bind_ok, exp_end hk]
          exact .inl rfl
        · rw [e]
          exact .inr rfl
      rw [int_keep hk h1 (by omega), PR.bind_ok]
      by_cases cb : k < b
      · rcases frac_cut hk h2 (by omega) cb with e | e
        · rw [e, PR.bind_ok, exp_end hk]
          exact .inl rfl
        · rw [e]
          exact .inr rfl
      rw [frac_keep hk h2 (by omega), PR.bind_ok]
      exact exp_cut hk h (by omega) hb
/-- A number that was read is a number. -/
theorem number_text {L : List UInt8} {i j : Nat} {u : Unit} (hi : i ≤ L.length) (h : pNumber L i = .ok j u) : isNum (tx ((L.drop i).take (j - i))) = true := by
  have hle := pNumber_le hi h
  have hk := number_keep hle.2 h hi (Nat.le_refl _)
  have hl : ((L.drop i).take (j - i)).length = j - i := by
    rw [List.length_take, List.length_drop]
    omega
  have hs : Sh (L.take j) i ((L.drop i).take (j - i)) := by
    refine ⟨⟨by rw [hl, take_len hle.2]; omega, fun m hm => ?_⟩, ?_⟩
    · rw [hl] at hm
      rw [lt_take (by omega), lt_take (by omega), lt_drop]
    · rw [hl, lt_take_end (by omega)]
      rfl
  have := hs.number
  rw [hk] at this
  rw [isNum_iff, tx_data', tx_size, hl]
  cases hp : pNumber ((L.drop i).take (j - i)) 0 with
  | bad w a => rw [hp] at this; cases this
  | ok m u' =>
    rw [hp] at this
    simp only [PR.sh, PR.ok.injEq] at this
    exact ⟨u', by congr 1; omega⟩
end Go.AM.F

/- JSON: what is read is right, and is written as no longer a text. No conditions. -/
namespace Go.AM.F
open Go Go.AM
set_option maxRecDepth 10000
set_option linter.unusedSimpArgs false

/-- A value that was read, from i to j. -/
structure Good (v : J) (i j : Nat) : Prop where
  right : v.right = true
  twin : v.twin = false
  ok : v.Ok
  out : v.out.length + i ≤ j
  wt : v.wt + 2 * i ≤ 2 * j
theorem flat_good {L : List UInt8} {i j : Nat} {v : J} (hi : i < L.length) (h : pFlat L i = .ok j v) : Good v i j ∧ v.depth = 0 := by
  have hword : ∀ {s : ByteArray} {n : Nat} {g : J} (_ : s.size = n), g.right = true → g.twin = false → g.Ok → g.out.length ≤ n → g.wt ≤ n → g.depth = 0 → (pWant s L i).bind (fun j _ => PR.ok j g) = .ok j v → Good v i j ∧ v.depth = 0 := by
    intro s n g hs h1 h2 h3 h4 h5 h6 h
    cases hp : pWant s L i with
    | bad w a => rw [hp] at h; cases h
    | ok k u =>
      rw [hp, PR.bind_ok] at h
      cases h
      have := pWord_le (by omega) hp
      exact ⟨⟨h1, h2, h3, by omega, by omega⟩, h6⟩
  have hok : ∀ (k : Int) (t : ByteArray), (J.mk k t [] []).Ok := fun _ _ => ⟨by simp, by simp, trivial⟩
  unfold pFlat at h
  split at h
  · exact hword (s := sNull) (n := 4) rfl rfl rfl (hok _ _) (by decide) (by decide) rfl h
  split at h
  · exact hword (s := sFalse) (n := 5) rfl rfl rfl (hok _ _) (by decide) (by decide) rfl h
  split at h
  · exact hword (s := sTrue) (n := 4) rfl rfl rfl (hok _ _) (by decide) (by decide) rfl h
  split at h
  · cases hp : pText L i with
    | bad w a => rw [hp] at h; cases h
    | ok k s =>
      rw [hp, PR.bind_ok] at h
      cases h
      obtain ⟨g1, g2, g3⟩ := ptext_right hi hp
      refine ⟨⟨by simp [J.right, g1], rfl, hok _ _, ?_, ?_⟩, rfl⟩
      · have : (J.mk 5 s [] []).out = quote s.data.toList := rfl
        rw [this]
        exact g2
      · have : (J.mk 5 s [] []).wt = s.size + 1 := by simp [J.wt, J.wtL]
        omega
  split at h
  · cases hp : pNumber L i with
    | bad w a => rw [hp] at h; cases h
    | ok k u =>
      rw [hp, PR.bind_ok] at h
      cases h
      have hle := pNumber_le (by omega) hp
      have hn := number_text (by omega) hp
      have hl : ((L.drop i).take (j - i)).length = j - i := by
        rw [List.length_take, List.length_drop]
        omega
      refine ⟨⟨by simp [J.right, hn], rfl, hok _ _, ?_, ?_⟩, rfl⟩
      · have : (J.mk 4 (tx ((L.drop i).take (j - i))) [] []).out = (L.drop i).take (j - i) := tx_data' _
        rw [this]
        omega
      · have : (J.mk 4 (tx ((L.drop i).take (j - i))) [] []).wt = j - i + 1 := by simp [J.wt, J.wtL, hl]
        omega
  · cases h
theorem depthL_one (x : J) : J.depthL [x] = x.depth := by
  have h : J.depthL [x] = if J.depthL [] < x.depth then x.depth else J.depthL [] := rfl
  have h0 : J.depthL [] = 0 := rfl
  rw [h]
  split <;> omega
theorem seen_false {s : ByteArray} {ns : List ByteArray} (h : ¬ seen s ns = true) : seen s ns = false := by
  cases hs : seen s ns with
  | false => rfl
  | true => exact (h hs).elim
theorem p_right (L : List UInt8) (hL : L.length ≤ 1048576) : ∀ f : Nat,
    (∀ d i j v, i ≤ L.length → d ≤ 256 → pV L f d i = some (.ok j v) → Good v i j ∧ v.depth + d ≤ 256) ∧
    (∀ d i acc j v, i ≤ L.length → d ≤ 256 → pItems L f d i acc = some (.ok j v) → ∃ new, v = .mk 6 eS [] (acc ++ new) ∧ J.rightL new = true ∧ J.twinL new = false ∧ J.OkL new ∧ J.depthL new + d ≤ 256 ∧ (J.outL false [] new true).length + 1 + i ≤ j ∧ J.wtL new + 1 + 2 * i ≤ 2 * j ∧ new.length + i ≤ j) ∧
    (∀ d i ns acc j v, i ≤ L.length → d ≤ 256 → pMembers L f d i ns acc = some (.ok j v) → ∃ ms new, v = .mk 7 eS (ns ++ ms) (acc ++ new) ∧ ms.length = new.length ∧ ms.all okU = true ∧ dupl ns ms = false ∧ J.rightL new = true ∧ J.twinL new = false ∧ J.OkL new ∧ J.depthL new + d ≤ 256 ∧ (J.outL true ms new true).length + 1 + i ≤ j ∧ restW ms new + 1 + 2 * i ≤ 2 * j ∧ new.length + i ≤ j)
  | 0 => ⟨fun _ _ _ _ _ _ h => by simp [pV] at h, fun _ _ _ _ _ _ _ h => by simp [pItems] at h, fun _ _ _ _ _ _ _ _ h => by simp [pMembers] at h⟩
  | f + 1 => by
    obtain ⟨h1, h2, h3⟩ := p_right L hL f
    obtain ⟨l1, l2, l3⟩ := p_le L f
    refine ⟨fun d i j v hi hd h => ?_, fun d i acc j v hi hd h => ?_, fun d i ns acc j v hi hd h => ?_⟩
    · simp only [pV] at h
      split at h
      · rename_i hlt
        have hs := skip_le blank L (show i + 1 ≤ L.length by omega)
        split at h
        · split at h
          · cases h
          · rename_i hd2
            split at h
            · split at h
              · rename_i ht
                have := tk_lt ht
                cases h
                have hok : (J.mk 6 eS [] []).Ok := ⟨by simp, by simp, trivial⟩
                have ho : (J.mk 6 eS [] []).out.length = 2 := rfl
                have hw : (J.mk 6 eS [] []).wt = 1 := rfl
                have hdp : (J.mk 6 eS [] []).depth = 1 := rfl
                exact ⟨⟨rfl, rfl, hok, by omega, by omega⟩, by omega⟩
              · obtain ⟨new, rfl, g1, g2, g3, g4, g5, g6, g7⟩ := h2 _ _ _ _ _ hs.2 (by omega) h
                have hj := l2 _ _ _ _ _ hs.2 h
                rw [List.nil_append]
                have hr : (J.mk 6 eS [] new).right = true := by simp [J.right, g1]
                have ho : (J.mk 6 eS [] new).out = [91] ++ J.outL false [] new true ++ [93] := rfl
                have hdp : (J.mk 6 eS [] new).depth = J.depthL new + 1 := by simp [J.depth]
                have hw : (J.mk 6 eS [] new).wt = J.wtL new + 1 := by
                  simp [J.wt, eS]
                  rfl
                refine ⟨⟨hr, by simp [J.twin, dupl, g2], ⟨by simp, by omega, g3⟩, ?_, by omega⟩, by omega⟩
                rw [ho]
                simp only [List.length_append, List.length_cons, List.length_nil]
                omega
            · split at h
              · rename_i ht
                have := tk_lt ht
                cases h
                have hok : (J.mk 7 eS [] []).Ok := ⟨by simp, by simp, trivial⟩
                have ho : (J.mk 7 eS [] []).out.length = 2 := rfl
                have hw : (J.mk 7 eS [] []).wt = 1 := rfl
                have hdp : (J.mk 7 eS [] []).depth = 1 := rfl
                exact ⟨⟨rfl, rfl, hok, by omega, by omega⟩, by omega⟩
              · obtain ⟨ms, new, rfl, g0, gu, gd, g1, g2, g3, g4, g5, g6, g7⟩ := h3 _ _ _ _ _ _ hs.2 (by omega) h
                have hj := l3 _ _ _ _ _ _ hs.2 h
                rw [List.nil_append, List.nil_append]
                have hr : (J.mk 7 eS ms new).right = true := by
                  simp only [J.right]
                  simp [g0, g1]
                  simpa using gu
                have ho : (J.mk 7 eS ms new).out = [123] ++ J.outL true ms new true ++ [125] := rfl
                have hdp : (J.mk 7 eS ms new).depth = J.depthL new + 1 := by simp [J.depth]
                have hw : (J.mk 7 eS ms new).wt = restW ms new + 1 := by
                  rw [restW_all]
                  rfl
                refine ⟨⟨hr, by simp [J.twin, gd, g2], ⟨by omega, by omega, g3⟩, ?_, by omega⟩, by omega⟩
                rw [ho]
                simp only [List.length_append, List.length_cons, List.length_nil]
                omega
        · simp only [Option.some.injEq] at h
          obtain ⟨k1, k2⟩ := flat_good hlt h
          exact ⟨k1, by omega⟩
      · cases h
    · simp only [pItems] at h
      have hs := skip_le blank L hi
      cases hv : pV L f d (skip blank L i) with
      | none => rw [hv] at h; cases h
      | some r =>
        cases r with
        | bad w a => rw [hv] at h; cases h
        | ok k x =>
          rw [hv] at h
          obtain ⟨q1, q2⟩ := h1 _ _ _ _ hs.2 hd hv
          obtain ⟨r1, r2, r3, r4, r5⟩ := q1
          have k1 := l1 _ _ _ _ hs.2 hv
          have k2 := skip_le blank L k1.2
          have hdl : J.depthL [x] = x.depth := depthL_one x
          have hol : (J.outL false [] [x] true).length = x.out.length := by simp [J.outL]
          have hpos := out_pos r1
          simp only at h
          split at h
          · rename_i ht
            have := tk_lt ht
            cases h
            refine ⟨[x], rfl, by simp [J.rightL, r1], by simp [J.twinL, r2], ⟨r3, trivial⟩, by omega, by omega, ?_, ?_⟩
            · simp only [J.wtL]
              omega
            · simp only [List.length_cons, List.length_nil]
              omega
          · cases hw : pWant sComma L (skip blank L k) with
            | bad w a => rw [hw] at h; cases h
            | ok q u =>
              rw [hw] at h
              have k3 := pComma_le k2.2 hw
              obtain ⟨new, rfl, g1, g2, g3, g4, g5, g6, g7⟩ := h2 _ _ _ _ _ k3.2 hd h
              refine ⟨x :: new, by simp, by simp [J.rightL, r1, g1], by simp [J.twinL, r2, g2], ⟨r3, g3⟩, ?_, ?_, ?_, ?_⟩
              · simp only [J.depthL]
                split <;> omega
              · have : (J.outL false [] (x :: new) true).length ≤ x.out.length + 1 + (J.outL false [] new true).length := by
                  cases new with
                  | nil => simp [J.outL]
                  | cons y z =>
                    simp only [J.outL, Bool.false_eq_true, if_false, if_true, List.nil_append, List.append_nil, List.length_append, List.length_cons, List.length_nil, List.tail_nil]
                    omega
                omega
              · simp only [J.wtL]
                omega
              · simp only [List.length_cons]
                omega
    · simp only [pMembers] at h
      have hs := skip_le blank L hi
      split at h
      · rename_i hc
        cases ht : pText L (skip blank L i) with
        | bad w b => rw [ht] at h; cases h
        | ok k s =>
          rw [ht] at h
          simp only at h
          obtain ⟨x1, x2, x3⟩ := ptext_right hc.1 ht
          have k1 := pTx_le (show skip blank L i + 1 ≤ L.length by omega) ht
          have k2 := skip_le blank L k1.2
          split at h
          · cases h
          · rename_i hse
            have hse2 := seen_false hse
            cases hw : pWant sColon L (skip blank L k) with
            | bad w b => rw [hw] at h; cases h
            | ok q u =>
              rw [hw] at h
              simp only at h
              have k3 := pWord_le k2.2 hw
              have hcs : sColon.size = 1 := rfl
              have k4 := skip_le blank L (show q ≤ L.length from k3.2)
              cases hv : pV L f d (skip blank L q) with
              | none => rw [hv] at h; cases h
              | some r =>
                cases r with
                | bad w a => rw [hv] at h; cases h
                | ok m x =>
                  rw [hv] at h
                  obtain ⟨q1, q2⟩ := h1 _ _ _ _ k4.2 hd hv
                  obtain ⟨r1, r2, r3, r4, r5⟩ := q1
                  simp only at h
                  have k5 := l1 _ _ _ _ k4.2 hv
                  have k6 := skip_le blank L k5.2
                  have hdl : J.depthL [x] = x.depth := depthL_one x
                  have hpos := out_pos r1
                  have hol : (J.outL true [s] [x] true).length = (quote s.data.toList).length + 1 + x.out.length := by
                    simp [J.outL]
                    omega
                  split at h
                  · rename_i ht2
                    have := tk_lt ht2
                    cases h
                    refine ⟨[s], [x], rfl, rfl, by simp [x1], by simp [dupl, hse2], by simp [J.rightL, r1], by simp [J.twinL, r2], ⟨r3, trivial⟩, by omega, by omega, ?_, ?_⟩
                    · rw [restW_cons]
                      have : restW [] [] = 0 := rfl
                      omega
                    · simp only [List.length_cons, List.length_nil]
                      omega
                  · cases hz : pWant sComma L (skip blank L m) with
                    | bad w a => rw [hz] at h; cases h
                    | ok y u =>
                      rw [hz] at h
                      have k7 := pComma_le k6.2 hz
                      obtain ⟨ms, new, rfl, g0, gu, gd, g1, g2, g3, g4, g5, g6, g7⟩ := h3 _ _ _ _ _ _ k7.2 hd h
                      refine ⟨s :: ms, x :: new, by simp, by simp [g0], by simp only [List.all_cons, x1, gu, Bool.and_self], by simp only [dupl, hse2, gd, Bool.or_self], by simp [J.rightL, r1, g1], by simp [J.twinL, r2, g2], ⟨r3, g3⟩, ?_, ?_, ?_, ?_⟩
                      · simp only [J.depthL]
                        split <;> omega
                      · have : (J.outL true (s :: ms) (x :: new) true).length ≤ (quote s.data.toList).length + 1 + x.out.length + 1 + (J.outL true ms new true).length := by
                          cases new with
                          | nil =>
                            simp only [J.outL, if_true, List.nil_append, List.append_nil, List.length_append, List.length_cons, List.length_nil, List.headD_cons]
                            omega
                          | cons y z =>
                            simp only [J.outL, Bool.false_eq_true, if_false, if_true, List.nil_append, List.length_append, List.length_cons, List.length_nil, List.headD_cons, List.tail_cons]
                            omega
                        omega
                      · rw [restW_cons]
                        omega
                      · simp only [List.length_cons]
                        omega
      · cases h
end Go.AM.F

/- JSON: JsonBack. No conditions. -/
namespace Go.AM.F
open Go Go.AM
set_option maxRecDepth 10000
set_option linter.unusedSimpArgs false

theorem p_more (L : List UInt8) : ∀ f : Nat,
    (∀ d i, i ≤ L.length → 2 * (L.length - i) + 1 ≤ f → ∃ r, pV L f d i = some r) ∧
    (∀ d i acc, i ≤ L.length → 2 * (L.length - i) + 2 ≤ f → ∃ r, pItems L f d i acc = some r) ∧
    (∀ d i ns acc, i ≤ L.length → 2 * (L.length - i) + 2 ≤ f → ∃ r, pMembers L f d i ns acc = some r)
  | 0 => ⟨fun _ _ _ h => by omega, fun _ _ _ _ h => by omega, fun _ _ _ _ _ h => by omega⟩
  | f + 1 => by
    obtain ⟨h1, h2, h3⟩ := p_more L f
    obtain ⟨l1, _, _⟩ := p_le L f
    refine ⟨fun d i hi hf => ?_, fun d i acc hi hf => ?_, fun d i ns acc hi hf => ?_⟩
    · simp only [pV]
      split
      · have hs := skip_le blank L (show i + 1 ≤ L.length by omega)
        split
        · split
          · exact ⟨_, rfl⟩
          · split
            · split
              · exact ⟨_, rfl⟩
              · exact h2 _ _ _ hs.2 (by omega)
            · split
              · exact ⟨_, rfl⟩
              · exact h3 _ _ _ _ hs.2 (by omega)
        · exact ⟨_, rfl⟩
      · exact ⟨_, rfl⟩
    · simp only [pItems]
      have hs := skip_le blank L hi
      obtain ⟨r, hr⟩ := h1 d (skip blank L i) hs.2 (by omega)
      rw [hr]
      cases r with
      | bad w a => exact ⟨_, rfl⟩
      | ok j v =>
        have k1 := l1 _ _ _ _ hs.2 hr
        have k2 := skip_le blank L k1.2
        simp only
        split
        · exact ⟨_, rfl⟩
        · cases hw : pWant sComma L (skip blank L j) with
          | bad w a => exact ⟨_, rfl⟩
          | ok k u =>
            have k3 := pComma_le k2.2 hw
            exact h2 _ _ _ k3.2 (by omega)
    · simp only [pMembers]
      have hs := skip_le blank L hi
      split
      · rename_i hc
        cases ht : pText L (skip blank L i) with
        | bad w a => exact ⟨_, rfl⟩
        | ok j s =>
          have k1 := pTx_le (show skip blank L i + 1 ≤ L.length by omega) ht
          have k2 := skip_le blank L k1.2
          simp only
          split
          · exact ⟨_, rfl⟩
          · cases hw : pWant sColon L (skip blank L j) with
            | bad w a => exact ⟨_, rfl⟩
            | ok k u =>
              have k3 := pWant_le k2.2 hw
              have k4 := skip_le blank L k3.2
              simp only
              obtain ⟨r, hr⟩ := h1 d (skip blank L k) k4.2 (by omega)
              rw [hr]
              cases r with
              | bad w a => exact ⟨_, rfl⟩
              | ok m v =>
                have k5 := l1 _ _ _ _ k4.2 hr
                have k6 := skip_le blank L k5.2
                simp only
                split
                · exact ⟨_, rfl⟩
                · cases hz : pWant sComma L (skip blank L m) with
                  | bad w a => exact ⟨_, rfl⟩
                  | ok q u =>
                    have k7 := pComma_le k6.2 hz
                    exact h3 _ _ _ _ k7.2 (by omega)
      · exact ⟨_, rfl⟩

/-! ### Faults lie within the text -/
theorem word_bad {s : ByteArray} {L : List UInt8} : ∀ {m k i w a : Nat}, i ≤ L.length → pWord s L m k i = .bad w a → w = 100 ∧ a ≤ L.length := by
  intro m
  induction m with
  | zero => intro k i w a _ h; cases h
  | succ m ih =>
    intro k i w a hi h
    simp only [pWord] at h
    split at h
    · rename_i hc
      exact ih (by omega) h
    · cases h
      exact ⟨rfl, hi⟩
theorem want_bad {s : ByteArray} {L : List UInt8} {i w a : Nat} (hi : i ≤ L.length) (h : pWant s L i = .bad w a) : w = 100 ∧ a ≤ L.length := word_bad hi h
theorem digits_bad {L : List UInt8} {i w a : Nat} (h : pDigits L i = .bad w a) : w = 100 ∧ a = i := by
  unfold pDigits at h
  split at h
  · cases h
  · cases h
    exact ⟨rfl, rfl⟩
theorem past_le' (s : ByteArray) {L : List UInt8} {i : Nat} (hi : i ≤ L.length) : past s L i ≤ L.length := (past_le s L hi).2
theorem number_bad {L : List UInt8} {i w a : Nat} (hi : i ≤ L.length) (h : pNumber L i = .bad w a) : w = 100 ∧ a ≤ L.length := by
  unfold pNumber at h
  have hp := past_le' sMinus hi
  cases h1 : pInt L (past sMinus L i) with
  | bad w' a' =>
    rw [h1, PR.bind_bad] at h
    cases h
    unfold pInt at h1
    split at h1
    · cases h1
    · have := digits_bad h1
      omega
  | ok k u =>
    rw [h1, PR.bind_ok] at h
    have l1 := pInt_le h1
    cases h2 : pFrac L k with
    | bad w' a' =>
      rw [h2, PR.bind_bad] at h
      cases h
      unfold pFrac at h2
      split at h2
      · rename_i ht
        have := digits_bad h2
        have := tk_lt ht
        omega
      · cases h2
    | ok m u =>
      rw [h2, PR.bind_ok] at h
      have l2 := pFrac_le l1.2 h2
      unfold pExp at h
      split at h
      · rename_i ht
        have := digits_bad h
        have h3 := tk_lt ht
        have := past_le' sSign (show m + 1 ≤ L.length by omega)
        omega
      · cases h
theorem four_bad {L : List UInt8} : ∀ {m v i w a : Nat}, i ≤ L.length → pFour L m v i = .bad w a → w = 100 ∧ a ≤ L.length := by
  intro m
  induction m with
  | zero => intro v i w a _ h; cases h
  | succ m ih =>
    intro v i w a hi h
    simp only [pFour] at h
    split at h
    · split at h
      · exact ih (by omega) h
      · cases h
        exact ⟨rfl, hi⟩
    · cases h
      exact ⟨rfl, hi⟩
theorem escape_bad {L : List UInt8} {i w a : Nat} (hi : i < L.length) (h : pEscape L i = .bad w a) : w = 100 ∧ a ≤ L.length := by
  unfold pEscape at h
  split at h
  · rename_i hi2
    split at h
    · cases h
    · split at h
      · cases hp : pFour L 4 0 (i + 2) with
        | bad w' a' =>
          rw [hp, PR.bind_bad] at h
          cases h
          exact four_bad (by omega) hp
        | ok k v =>
          rw [hp, PR.bind_ok] at h
          obtain ⟨f1, f2, f3⟩ := pFour_le (by omega) hp
          split at h
          · cases h
            exact ⟨rfl, by omega⟩
          · split at h
            · cases h
            · unfold pPair at h
              split at h
              · cases hq : pFour L 4 0 (k + 2) with
                | bad w' a' =>
                  rw [hq, PR.bind_bad] at h
                  cases h
                  exact four_bad (by omega) hq
                | ok m u =>
                  rw [hq, PR.bind_ok] at h
                  split at h
                  · cases h
                    exact ⟨rfl, by omega⟩
                  · cases h
              · cases h
                refine ⟨rfl, ?_⟩
                split <;> omega
      · cases h
        exact ⟨rfl, by omega⟩
  · cases h
    exact ⟨rfl, by omega⟩
theorem tx_bad {L : List UInt8} : ∀ {m i w a : Nat} {acc : List UInt8}, i ≤ L.length → L.length - i < m → pTx L m acc i = .bad w a → w = 100 ∧ a ≤ L.length := by
  intro m
  induction m with
  | zero => intro i w a acc _ hm _; omega
  | succ m ih =>
    intro i w a acc hi hm h
    simp only [pTx] at h
    split at h
    · rename_i hlt
      split at h
      · cases h
      split at h
      · cases hp : pEscape L i with
        | bad w' a' =>
          rw [hp, PR.bind_bad] at h
          cases h
          exact escape_bad hlt hp
        | ok k s =>
          rw [hp, PR.bind_ok] at h
          have := pEscape_le hp
          exact ih this.2.1 (by omega) h
      split at h
      · cases h
        exact ⟨rfl, by omega⟩
      split at h
      · cases h
        exact ⟨rfl, by omega⟩
      · rename_i hu
        have hle := uc_le (L.drop i)
        rw [List.length_drop] at hle
        exact ih (by omega) (by omega) h
    · cases h
      exact ⟨rfl, hi⟩
theorem ptext_bad {L : List UInt8} {i w a : Nat} (hi : i < L.length) (h : pText L i = .bad w a) : w = 100 ∧ a ≤ L.length := tx_bad (by omega) (by omega) h
theorem flat_bad {L : List UInt8} {i w a : Nat} (hi : i < L.length) (h : pFlat L i = .bad w a) : w = 100 ∧ a ≤ L.length := by
  have hword : ∀ {s : ByteArray} {g : Nat → Unit → J}, (pWant s L i).bind (fun j u => PR.ok j (g j u)) = .bad w a → w = 100 ∧ a ≤ L.length := by
    intro s g h
    cases hp : pWant s L i with
    | bad w' a' =>
      rw [hp, PR.bind_bad] at h
      cases h
      exact want_bad (by omega) hp
    | ok k u => rw [hp, PR.bind_ok] at h; cases h
  unfold pFlat at h
  split at h
  · exact hword (g := fun _ _ => .mk 1 eS [] []) h
  split at h
  · exact hword (g := fun _ _ => .mk 2 eS [] []) h
  split at h
  · exact hword (g := fun _ _ => .mk 3 eS [] []) h
  split at h
  · cases hp : pText L i with
    | bad w' a' =>
      rw [hp, PR.bind_bad] at h
      cases h
      exact ptext_bad hi hp
    | ok k s => rw [hp, PR.bind_ok] at h; cases h
  split at h
  · cases hp : pNumber L i with
    | bad w' a' =>
      rw [hp, PR.bind_bad] at h
      cases h
      exact number_bad (by omega) hp
    | ok k s => rw [hp, PR.bind_ok] at h; cases h
  · cases h
    exact ⟨rfl, by omega⟩
theorem p_bad (L : List UInt8) : ∀ f : Nat,
    (∀ d i w a, i ≤ L.length → pV L f d i = some (.bad w a) → w ≠ 0 ∧ a ≤ L.length) ∧
    (∀ d i acc w a, i ≤ L.length → pItems L f d i acc = some (.bad w a) → w ≠ 0 ∧ a ≤ L.length) ∧
    (∀ d i ns acc w a, i ≤ L.length → pMembers L f d i ns acc = some (.bad w a) → w ≠ 0 ∧ a ≤ L.length)
  | 0 => ⟨fun _ _ _ _ _ h => by simp [pV] at h, fun _ _ _ _ _ _ h => by simp [pItems] at h, fun _ _ _ _ _ _ _ h => by simp [pMembers] at h⟩
  | f + 1 => by
    obtain ⟨h1, h2, h3⟩ := p_bad L f
    obtain ⟨l1, l2, l3⟩ := p_le L f
    refine ⟨fun d i w a hi h => ?_, fun d i acc w a hi h => ?_, fun d i ns acc w a hi h => ?_⟩
    · simp only [pV] at h
      split at h
      · rename_i hlt
        have hs := skip_le blank L (show i + 1 ≤ L.length by omega)
        split at h
        · split at h
          · cases h
            exact ⟨by decide, by omega⟩
          · split at h
            · split at h
              · cases h
              · exact h2 _ _ _ _ _ hs.2 h
            · split at h
              · cases h
              · exact h3 _ _ _ _ _ _ hs.2 h
        · simp only [Option.some.injEq] at h
          have := flat_bad hlt h
          omega
      · cases h
        exact ⟨by decide, by omega⟩
    · simp only [pItems] at h
      have hs := skip_le blank L hi
      cases hv : pV L f d (skip blank L i) with
      | none => rw [hv] at h; cases h
      | some r =>
        cases r with
        | bad w' a' =>
          rw [hv] at h
          cases h
          exact h1 _ _ _ _ hs.2 hv
        | ok k x =>
          rw [hv] at h
          have k1 := l1 _ _ _ _ hs.2 hv
          have k2 := skip_le blank L k1.2
          simp only at h
          split at h
          · cases h
          · cases hw : pWant sComma L (skip blank L k) with
            | bad w' a' =>
              rw [hw] at h
              cases h
              have := want_bad k2.2 hw
              omega
            | ok q u =>
              rw [hw] at h
              have k3 := pComma_le k2.2 hw
              exact h2 _ _ _ _ _ k3.2 h
    · simp only [pMembers] at h
      have hs := skip_le blank L hi
      split at h
      · rename_i hc
        cases ht : pText L (skip blank L i) with
        | bad w' b' =>
          rw [ht] at h
          cases h
          have := ptext_bad hc.1 ht
          omega
        | ok k s =>
          rw [ht] at h
          simp only at h
          have k1 := pTx_le (show skip blank L i + 1 ≤ L.length by omega) ht
          have k2 := skip_le blank L k1.2
          split at h
          · cases h
            exact ⟨by decide, by omega⟩
          · cases hw : pWant sColon L (skip blank L k) with
            | bad w' b' =>
              rw [hw] at h
              cases h
              have := want_bad k2.2 hw
              omega
            | ok q u =>
              rw [hw] at h
              simp only at h
              have k3 := pWant_le k2.2 hw
              have k4 := skip_le blank L k3.2
              cases hv : pV L f d (skip blank L q) with
              | none => rw [hv] at h; cases h
              | some r =>
                cases r with
                | bad w' a' =>
                  rw [hv] at h
                  cases h
                  exact h1 _ _ _ _ k4.2 hv
                | ok m x =>
                  rw [hv] at h
                  simp only at h
                  have k5 := l1 _ _ _ _ k4.2 hv
                  have k6 := skip_le blank L k5.2
                  split at h
                  · cases h
                  · cases hz : pWant sComma L (skip blank L m) with
                    | bad w' a' =>
                      rw [hz] at h
                      cases h
                      have := want_bad k6.2 hz
                      omega
                    | ok y u =>
                      rw [hz] at h
                      have k7 := pWant_le k6.2 hz
                      exact h3 _ _ _ _ _ _ k7.2 h
      · cases h
        exact ⟨by decide, by omega⟩
end Go.AM.F

/- JSON: JsonBack: the law. No conditions. -/
namespace Go.AM.F
open Go Go.AM
set_option maxRecDepth 10000
set_option linter.unusedSimpArgs false

/-- What is written is read as the value. -/
theorem parse_out {j : J} (hr : j.right = true) (ht : j.twin = false) (hd : j.depth ≤ 256) (hl : j.out.length ≤ 16777216) : Cinf T n_json_Parse [.ro 1 (bl j.out)] = some (told (j, 0, 0), [.dead]) := by
  obtain ⟨c, q, hc1, hc2⟩ := out_first hr
  have h0 : lt j.out 0 = c.toNat := by rw [hc1]; rfl
  have hsk : skip blank j.out 0 = 0 := skip_none (by rw [h0]; exact hc2)
  have hv := v_back j hr ht j.out 0 0 (2 * j.out.length + 1) (Has.self _) (fun _ _ _ _ _ _ => by
    rw [Nat.zero_add, lt_end (by omega)]
    rfl) (by omega) (Nat.le_refl _)
  rw [Nat.zero_add] at hv
  refine c_Parse j.out (2 * j.out.length + 1) (j, 0, 0) ?_ (by omega)
  unfold pParse
  rw [if_neg (by omega), hsk, hv, Option.map_some]
  simp only [pEnd]
  rw [skip_end blank _ (Nat.le_refl _), if_neg (by omega)]
theorem check_facts {j : J} (h : j.check = 0) : j.depth ≤ 256 ∧ j.right = true ∧ j.twin = false := by
  unfold J.check at h
  split at h
  · cases h
  · split at h
    · cases h
    · split at h
      · cases h
      · rename_i h1 h2 h3
        exact ⟨by omega, by simpa using h2, by simpa using h3⟩
theorem check_zero {j : J} (h1 : j.depth ≤ 256) (h2 : j.right = true) (h3 : j.twin = false) : j.check = 0 := by
  unfold J.check
  rw [if_neg (by omega), h2, h3]
  rfl
/-- What Parse answers. -/
theorem parse_any (L : List UInt8) (hL : L.length ≤ 1048576) : ∃ r : J × Nat × Nat, Cinf T n_json_Parse [.ro 1 (bl L)] = some (told r, [.dead]) ∧ r.2.2 ≤ L.length ∧
    ((r.2.1 ≠ 0 ∧ r.1 = zeroJ) ∨ (r.2.1 = 0 ∧ r.1.right = true ∧ r.1.twin = false ∧ r.1.Ok ∧ r.1.depth ≤ 256 ∧ r.1.out.length ≤ L.length ∧ r.1.wt ≤ 2 * L.length)) := by
  have hs := skip_le blank L (Nat.zero_le L.length)
  obtain ⟨q, hq⟩ := (p_more L (2 * L.length + 1)).1 0 (skip blank L 0) hs.2 (by omega)
  have hc : ∀ r, pEnd L q = r → Cinf T n_json_Parse [.ro 1 (bl L)] = some (told r, [.dead]) := fun r hr => c_Parse L (2 * L.length + 1) r (by
    unfold pParse
    rw [if_neg (by omega), hq, Option.map_some, hr]) (by omega)
  cases q with
  | bad w a =>
    have := (p_bad L _).1 _ _ _ _ hs.2 hq
    exact ⟨(zeroJ, w, a), hc _ rfl, this.2, .inl ⟨this.1, rfl⟩⟩
  | ok j v =>
    obtain ⟨⟨g1, g2, g3, g4, g5⟩, g6⟩ := (p_right L hL _).1 _ _ _ _ hs.2 (by omega) hq
    have k1 := (p_le L _).1 _ _ _ _ hs.2 hq
    have k2 := skip_le blank L k1.2
    by_cases hsk : skip blank L j < L.length
    · exact ⟨(zeroJ, 100, skip blank L j), hc _ (by simp only [pEnd]; rw [if_pos hsk]), k2.2, .inl ⟨fun h => (by cases h), rfl⟩⟩
    · refine ⟨(v, 0, 0), hc _ (by simp only [pEnd]; rw [if_neg hsk]), Nat.zero_le _, .inr ⟨rfl, g1, g2, g3, ?_, ?_, ?_⟩⟩ <;> simp only <;> omega
theorem noRo_strs : ∀ ns : List ByteArray, PV.noRoL (ns.map str) = true
  | [] => rfl
  | s :: r => by
    have := noRo_strs r
    rw [List.map_cons]
    simp [PV.noRoL, PV.noRo, str, this]
theorem zero_ok : zeroJ.Ok := ⟨by simp [zeroJ], by simp [zeroJ], trivial⟩
attribute [local simp] j0_thicketlaw10_JsonBack j1_thicketlaw10_JsonBack j2_thicketlaw10_JsonBack j3_thicketlaw10_JsonBack b_thicketlaw10_JsonBack a_thicketlaw10_JsonBack
/-- The second half: what is read of any bytes. -/
theorem back_half (b : List UInt8) (hb : b.length ≤ 1048576) : Exec T j2_thicketlaw10_JsonBack [(1, .ro 1 (bl b))] = some (.ret, [(4, .v (.bool true))]) := by
  obtain ⟨⟨x, w, a⟩, h1, h2, h3⟩ := parse_any b hb
  simp only at h2 h3
  rcases h3 with ⟨h3, rfl⟩ | ⟨rfl, g1, g2, g3, g4, g5, g6⟩
  · have hz := c_rsame zeroJ zeroJ zero_ok
    rw [J.eq_refl] at hz
    have h3i : ¬ (w : Int) = 0 := by omega
    have ha : (a : Int) ≤ b.length := by omega
    simp only [told, zeroJ, J.copied, J.parts, J.pv_mk, List.map_nil, eS] at h1 hz
    simp [h1, hz, h3, h3i, h2, ha]
  · have hc0 := check_zero g4 g1 g2
    have hp := c_Print x g3 (by omega)
    have hck := c_Check x g3 (by omega)
    have hpo := parse_out g1 g2 g4 (by omega)
    have hsm := c_rsame x x g3
    rw [J.eq_refl] at hsm
    rw [hc0] at hck
    have hpr : x.print = (x.out, 0) := by
      unfold J.print
      rw [hc0, if_neg (by decide), if_neg (by omega)]
    rw [hpr] at hp
    have hlen : (bl x.out).length = x.out.length := by simp
    have hle : ¬ (bl b).length < (bl x.out).length := by simp; omega
    have hle2 : ¬ b.length < x.out.length := by omega
    have hno := noRo_bl x.out
    generalize x.out = q at *
    obtain ⟨k, t, ns, is⟩ := x
    simp only [told, J.copied, J.parts, J.pv_mk, Int.natCast_zero] at h1 hp hck hpo hsm
    have hns := noRo_strs ns
    rcases Bool.eq_false_or_eq_true (PV.noRoL (is.map J.pv)) with hn | hn
    · simp [h1, hp, hck, hpo, hsm, imm_strs, imm_pvs, hno, hle2, hns, hn]
    · simp [h1, hp, hck, hpo, hsm, imm_strs, imm_pvs, hno, hle2, hns, hn]
theorem c_JsonBack (j : J) (b : List UInt8) (h : j.Ok) (hw : j.wt ≤ 8000000) (hb : b.length ≤ 1048576) : Cinf T n_thicketlaw10_JsonBack [j.pv, .ro 1 (bl b)] = some (.v (.bool true), [.dead, .dead]) := by
  have h2 := back_half b hb
  have hg := c_begins
  have hp := c_Print j h hw
  have hck := c_Check j h (by omega)
  by_cases h0 : j.print.2 = 0
  · have hc0 : j.check = 0 := by
      unfold J.print at h0
      split at h0
      · exact h0
      · rename_i hn
        exact Classical.byContradiction hn
    have hl : j.out.length ≤ 16777216 := by
      unfold J.print at h0
      rw [hc0, if_neg (by decide)] at h0
      split at h0
      · cases h0
      · omega
    have hpr : j.print = (j.out, 0) := by
      unfold J.print
      rw [hc0, if_neg (by decide), if_neg (by omega)]
    obtain ⟨g1, g2, g3⟩ := check_facts hc0
    have hpo := parse_out g2 g3 g1 hl
    have hsm := c_rsame j j h
    rw [J.eq_refl] at hsm
    rw [hpr] at hp
    rw [hc0] at hck
    have hno := noRo_bl j.out
    generalize j.out = q at *
    obtain ⟨k, t, ns, is⟩ := j
    simp only [told, J.copied, J.parts, J.pv_mk, Int.natCast_zero] at hp hck hpo hsm ⊢
    have hns := noRo_strs ns
    rcases Bool.eq_false_or_eq_true (PV.noRoL (is.map J.pv)) with hn | hn
    · simp [run_thicketlaw10_JsonBack, Run, hg, hp, hck, hpo, hsm, imm_strs, imm_pvs, hno, hns, hn, h2, -j2_thicketlaw10_JsonBack]
    · simp [run_thicketlaw10_JsonBack, Run, hg, hp, hck, hpo, hsm, imm_strs, imm_pvs, hno, hns, hn, h2, -j2_thicketlaw10_JsonBack]
  · have hno := noRo_bl j.print.1
    generalize j.print.1 = q at *
    generalize j.print.2 = w at *
    obtain ⟨k, t, ns, is⟩ := j
    simp only [J.pv_mk] at hp ⊢
    simp [run_thicketlaw10_JsonBack, Run, hg, hp, h0, hno, h2, -j2_thicketlaw10_JsonBack]
end Go.AM.F
