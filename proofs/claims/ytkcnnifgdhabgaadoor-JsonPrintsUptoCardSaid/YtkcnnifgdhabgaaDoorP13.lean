/- JSON: the program's quoted. No conditions. -/
import Derived.Test.YtkcnnifgdhabgaaDoorP12
namespace Go.AM.F
open Go Go.AM
set_option maxRecDepth 10000
set_option linter.unusedSimpArgs false

/-- The letter that stands for a letter behind a backslash. -/
def esc2 (c : Nat) : Option Nat := if c = 34 then some 34 else if c = 92 then some 92 else if c = 8 then some 98 else if c = 12 then some 102 else if c = 10 then some 110 else if c = 13 then some 114 else if c = 9 then some 116 else none
def hx (d : Nat) : Nat := if d < 10 then 48 + d else 87 + d
/-- A byte, as it is written. -/
def qb (c : Nat) : List UInt8 := match esc2 c with
  | some e => [92, UInt8.ofNat e]
  | none => if c < 32 then [92, 117, 48, 48, UInt8.ofNat (hx (c / 16)), UInt8.ofNat (hx (c % 16))] else [UInt8.ofNat c]
def qL (L : List UInt8) : List UInt8 := L.flatMap fun b => qb b.toNat
def quote (L : List UInt8) : List UInt8 := [34] ++ qL L ++ [34]
def sHex : ByteArray := ⟨#[48, 49, 50, 51, 52, 53, 54, 55, 56, 57, 97, 98, 99, 100, 101, 102]⟩
def quoTest (c : Nat) : Bool := match esc2 c with
  | some e => (List.range 8).any fun k => decide (firstIdx sTo c.toUInt8 = (k : Int)) && decide (sEsc.data[k]?.map UInt8.toNat = some e) && decide (c ≠ 47) && decide (e < 128)
  | none => decide (firstIdx sTo c.toUInt8 = -1) || decide (c = 47)
theorem quo_all : (List.range 128).all quoTest = true := by kernel_rfl
theorem quo_some {c e : Nat} (hc : c < 128) (h : esc2 c = some e) : ∃ k : Nat, firstIdx sTo c.toUInt8 = (k : Int) ∧ k < 8 ∧ (∀ h : k < sEsc.data.size, (sEsc.data[k]'h).toNat = e) ∧ c ≠ 47 ∧ e < 128 := by
  have := List.all_eq_true.1 quo_all c (by simpa using hc)
  simp only [quoTest, h, List.any_eq_true, List.mem_range, Bool.and_eq_true, decide_eq_true_eq] at this
  obtain ⟨k, k1, ⟨⟨k2, k3⟩, k4⟩, k5⟩ := this
  refine ⟨k, k2, k1, fun h => ?_, k4, k5⟩
  rw [Array.getElem?_eq_getElem h, Option.map_some, Option.some.injEq] at k3
  exact k3
theorem quo_none {c : Nat} (hc : c < 128) (h : esc2 c = none) : firstIdx sTo c.toUInt8 = -1 ∨ c = 47 := by
  have := List.all_eq_true.1 quo_all c (by simpa using hc)
  simpa only [quoTest, h, Bool.or_eq_true, decide_eq_true_eq] using this
theorem hex_all : (List.range 16).all (fun d => decide (sHex.data[d]?.map UInt8.toNat = some (hx d))) = true := by kernel_rfl
theorem hex_at {d : Nat} (h : d < 16) : ∀ h : d < sHex.data.size, (sHex.data[d]'h).toNat = hx d := by
  intro h1
  have := List.all_eq_true.1 hex_all d (by simpa using h)
  rw [decide_eq_true_eq, Array.getElem?_eq_getElem h1, Option.map_some, Option.some.injEq] at this
  exact this
theorem hx_lt {d : Nat} (h : d < 16) : hx d < 256 := by
  unfold hx
  split <;> omega
theorem g_and15 (x : Nat) (hx : x < 32) : IntKind.i32.wrap ((x % 2 ^ IntKind.i32.bits &&& 15 % 2 ^ IntKind.i32.bits : Nat) : Int) = ((x % 16 : Nat) : Int) := by
  rw [show x % 2 ^ IntKind.i32.bits = x by simp only [IntKind.bits]; omega, show (15 % 2 ^ IntKind.i32.bits : Nat) = 2 ^ 4 - 1 by rfl, Nat.and_two_pow_sub_one_eq_mod, wrap_i32] <;> omega
attribute [local simp] nextPV rangePV
attribute [local simp] w0_json_quoted j0_json_quoted j1_json_quoted b_json_quoted a_json_quoted
/-- Where the loop stands. -/
abbrev qE (l : List UInt8) (s : ByteArray) (pos : Nat) : Env := [(0, .own 1 (bl l)), (10, .dead), (12, .iter s pos), (20, .dead), (32, .dead), (44, .dead), (100000, .dead)]
theorem quo_esc (l : List UInt8) (s : ByteArray) (pos c e : Nat) (hp : pos < s.size) (hd : Utf8.decode s pos = (c, 1)) (hc : c < 128) (h : esc2 c = some e) (hl : l.length ≤ 134217728) :
    Exec T l0_json_quoted (qE l s pos) = Exec T l0_json_quoted (qE (l ++ qb c) s (pos + 1)) := by
  obtain ⟨k, k1, k2, k3, k4, k5⟩ := quo_some hc h
  have hi := ir_low c hc
  rw [k1] at hi
  have e1 : (⟨#[34, 92, 47, 8, 12, 10, 13, 9]⟩ : ByteArray) = sTo := rfl
  have e2 : (⟨#[34, 92, 47, 98, 102, 110, 114, 116]⟩ : ByteArray) = sEsc := rfl
  have e3 : sEsc.size = 8 := rfl
  have hq : bl (l ++ qb c) = bl l ++ [.v (.int .u8 92), .v (.int .u8 (e : Nat))] := by
    simp only [qb, h, ← bl_append]
    congr 1
    simp only [bl, List.map_cons, List.map_nil, UInt8.toNat_ofNat']
    rw [Nat.mod_eq_of_lt (by omega)]
    rfl
  have g4 : ¬ (c : Int) = 47 := by omega
  have l1 : l.length ≤ 140737488355326 := by omega
  have l2 : l.length ≤ 4611686018427387902 := by omega
  have hd1 : (Utf8.decode s pos).1 = c := by rw [hd]
  have hd2 : (Utf8.decode s pos).2 = 1 := by rw [hd]
  simp only [qE]
  rw [hq, ex0_json_quoted]
  generalize sTo = S at *
  generalize sEsc = S2 at *
  simp [hp, hd1, hd2, hi, e1, e2, e3, k2, k3, k4, g4, l1, l2]
theorem quo_ctl (l : List UInt8) (s : ByteArray) (pos c : Nat) (hp : pos < s.size) (hd : Utf8.decode s pos = (c, 1)) (hc : c < 32) (h : esc2 c = none) (hl : l.length ≤ 134217728) :
    Exec T l0_json_quoted (qE l s pos) = Exec T l0_json_quoted (qE (l ++ qb c) s (pos + 1)) := by
  have hi := ir_low c (by omega)
  rw [(quo_none (by omega) h).resolve_right (by omega)] at hi
  have e1 : (⟨#[34, 92, 47, 8, 12, 10, 13, 9]⟩ : ByteArray) = sTo := rfl
  have e2 : (⟨#[48, 49, 50, 51, 52, 53, 54, 55, 56, 57, 97, 98, 99, 100, 101, 102]⟩ : ByteArray) = sHex := rfl
  have e3 : sHex.size = 16 := rfl
  have x1 := hex_at (show c / 16 < 16 by omega)
  have x2 := hex_at (show c % 16 < 16 by omega)
  have y1 := hx_lt (show c / 16 < 16 by omega)
  have y2 := hx_lt (show c % 16 < 16 by omega)
  have b1 : c / 16 < 16 := by omega
  have b2 : c % 16 < 16 := by omega
  have s1 := g_shr c 4 (by decide)
  have s2 := g_and15 c hc
  rw [show (2 ^ 4 : Nat) = 16 from rfl] at s1
  have hq : bl (l ++ qb c) = bl l ++ [.v (.int .u8 92), .v (.int .u8 117), .v (.int .u8 48), .v (.int .u8 48), .v (.int .u8 (hx (c / 16) : Nat)), .v (.int .u8 (hx (c % 16) : Nat))] := by
    simp only [qb, h, if_pos hc, ← bl_append]
    congr 1
    simp only [bl, List.map_cons, List.map_nil, UInt8.toNat_ofNat']
    rw [Nat.mod_eq_of_lt y1, Nat.mod_eq_of_lt y2]
    rfl
  have g4 : ¬ (c : Int) = 47 := by omega
  have g5 : (c : Int) < 32 := by omega
  have g6 : ¬ c = 47 := by omega
  have l1 : l.length ≤ 140737488355322 := by omega
  have l2 : l.length ≤ 4611686018427387898 := by omega
  have hd1 : (Utf8.decode s pos).1 = c := by rw [hd]
  have hd2 : (Utf8.decode s pos).2 = 1 := by rw [hd]
  simp only [qE]
  rw [hq, ex0_json_quoted]
  generalize hx (c / 16) = h1 at *
  generalize hx (c % 16) = h2 at *
  generalize c / 16 = d1 at *
  generalize c % 16 = d2 at *
  generalize sTo = S at *
  generalize sHex = S2 at *
  simp [hp, hd1, hd2, hi, e1, e2, e3, g4, g5, g6, hc, l1, l2, s1, s2, x1, x2, b1, b2]
theorem quo_rune (l : List UInt8) (s : ByteArray) (pos r w : Nat) (k : Int) (hp : pos < s.size) (hd : Utf8.decode s pos = (r, w)) (hr : r < 55296 ∨ (57344 ≤ r ∧ r ≤ 1114111)) (hi : Cinf T n_strings_IndexRune [.v (.string sTo), .v (.int .i32 r)] = some (.v (.int .i64 k), [.dead, .dead])) (hk : k = -1 ∨ r = 47) (h32 : 32 ≤ r) (hl : l.length ≤ 134217728) :
    Exec T l0_json_quoted (qE l s pos) = Exec T l0_json_quoted (qE (l ++ Lib.encodeRune (r : Int)) s (pos + w)) := by
  have ha := c_AppendRune l r hr hl
  have e1 : (⟨#[34, 92, 47, 8, 12, 10, 13, 9]⟩ : ByteArray) = sTo := rfl
  have g5 : ¬ (r : Int) < 32 := by omega
  have g6 : ¬ r < 32 := by omega
  have hd1 : (Utf8.decode s pos).1 = r := by rw [hd]
  have hd2 : (Utf8.decode s pos).2 = w := by rw [hd]
  simp only [qE]
  rw [ex0_json_quoted]
  generalize Lib.encodeRune (r : Int) = q at *
  generalize sTo = S at *
  by_cases h47 : r = 47
  · subst h47
    have h47 : ((47 : Nat) : Int) = 47 := rfl
    rw [h47] at hi ha
    simp [hp, hd1, hd2, hi, e1, ha]
  · have hk2 := hk.resolve_right h47
    subst hk2
    have g4 : ¬ (r : Int) = 47 := by omega
    simp [hp, hd1, hd2, hi, e1, ha, g4, g5, g6, h47]
theorem qb_self {c : Nat} (h : 128 ≤ c) (h2 : c < 256) : qb c = [UInt8.ofNat c] := by
  unfold qb esc2
  rw [if_neg (by omega), if_neg (by omega), if_neg (by omega), if_neg (by omega), if_neg (by omega), if_neg (by omega), if_neg (by omega)]
  simp only
  rw [if_neg (by omega)]
theorem qL_high : ∀ {L : List UInt8}, (∀ b ∈ L, 128 ≤ b.toNat) → qL L = L
  | [], _ => rfl
  | b :: r, h => by
    have h1 := qL_high (L := r) fun x hx => h x (by simp [hx])
    unfold qL at h1 ⊢
    rw [List.flatMap_cons, h1, qb_self (h b (by simp)) (UInt8.toNat_lt _)]
    simp
theorem qb_plain {c : Nat} (h : 32 ≤ c) (h2 : esc2 c = none) : qb c = [UInt8.ofNat c] := by
  unfold qb
  rw [h2]
  simp only
  rw [if_neg (by omega)]
theorem enc_one {c : Nat} (h : c < 128) : Lib.encodeRune (c : Int) = [UInt8.ofNat c] := by
  rw [Lib.encodeRune, Lib.encodeRuneZ_one (by omega) (by omega)]
  simp [Nat.toUInt8]
/-- A character of more than one byte: its bytes are from 128 on. -/
theorem high_bytes (M : List UInt8) (h0 : 0 < M.length) (hu : uc M ≠ 0) (h : 128 ≤ lt M 0) : ∀ b ∈ M.take (uc M), 128 ≤ b.toNat := by
  intro b hb
  obtain ⟨i, hi, rfl⟩ := List.getElem_of_mem hb
  rw [List.length_take] at hi
  have hle := uc_le M
  rw [List.getElem_take]
  have hl : (M[i]'(by omega)).toNat = lt M i := by
    unfold lt
    rw [List.getElem?_eq_getElem (by omega), Option.getD_some]
  rw [hl]
  have i1 := in1_iff (lt M 0) (lt M 1)
  have c1 := cont_iff (lt M 1)
  have c2 := cont_iff (lt M 2)
  have c3 := cont_iff (lt M 3)
  have hi2 : i < uc M := by omega
  have hi4 : i = 0 ∨ i = 1 ∨ i = 2 ∨ i = 3 := by omega
  unfold uc at hi2 hu
  rw [if_neg (by omega), if_neg (by omega)] at hi2 hu
  simp only [i1, c1, c2, c3] at hi2 hu
  rcases hi4 with rfl | rfl | rfl | rfl
  · exact h
  all_goals (split at hi2 <;> (try split at hi2) <;> (try split at hi2) <;> (try split at hi2) <;> (try split at hi2) <;> omega)
theorem quo_loop (s : ByteArray) : ∀ (n pos : Nat) (l : List UInt8), s.size - pos ≤ n → pos ≤ s.size → Lib.validGoD n (s.data.toList.drop pos) = true → l.length + 8 * (s.size - pos) ≤ 134217728 →
    Exec T l0_json_quoted (qE l s pos) = some (.exit 0, [(0, .own 1 (bl (l ++ qL (s.data.toList.drop pos)))), (10, .dead), (12, .iter s s.size), (13, .tup [.v (.bool false)]), (20, .dead), (32, .dead), (44, .dead), (100000, .dead)]) := by
  have hsz := size_list s
  have fin : ∀ (l : List UInt8), Exec T l0_json_quoted (qE l s s.size) = some (.exit 0, [(0, .own 1 (bl (l ++ qL (s.data.toList.drop s.size)))), (10, .dead), (12, .iter s s.size), (13, .tup [.v (.bool false)]), (20, .dead), (32, .dead), (44, .dead), (100000, .dead)]) := by
    intro l
    rw [List.drop_of_length_le (by omega), show qL [] = [] from rfl, List.append_nil, ex0_json_quoted]
    simp
  intro n
  induction n with
  | zero =>
    intro pos l hn hp _ _
    obtain rfl : pos = s.size := by omega
    exact fin l
  | succ n ih =>
    intro pos l hn hp hv hl
    by_cases h0 : pos = s.size
    · subst h0
      exact fin l
    have hlt : pos < s.size := by omega
    have hM : 0 < (s.data.toList.drop pos).length := by rw [List.length_drop]; omega
    have hdec := Lib.decodeL_drop s pos
    have hne : s.data.toList.drop pos ≠ [] := fun h => by rw [h] at hM; simp at hM
    simp only [Lib.validGoD, if_neg hne] at hv
    have hle := uc_le (s.data.toList.drop pos)
    have hsd : (s.data.toList.drop pos).length = s.size - pos := by rw [List.length_drop, hsz]
    rcases dec_uc (s.data.toList.drop pos) hM with ⟨u1, u2⟩ | ⟨u1, u2, u3, u4, u5, u6, u7⟩
    · rw [u2, if_pos ⟨rfl, rfl⟩] at hv
      cases hv
    rw [if_neg (fun h => u3 (Prod.ext h.1 h.2)), u2, List.drop_drop] at hv
    have hsplit : qL (s.data.toList.drop pos) = qL ((s.data.toList.drop pos).take (uc (s.data.toList.drop pos))) ++ qL (s.data.toList.drop (pos + uc (s.data.toList.drop pos))) := by
      have := List.take_append_drop (uc (s.data.toList.drop pos)) (s.data.toList.drop pos)
      rw [List.drop_drop] at this
      conv => lhs; rw [← this]
      unfold qL
      rw [List.flatMap_append]
    have step : ∀ q : List UInt8, Exec T l0_json_quoted (qE l s pos) = Exec T l0_json_quoted (qE (l ++ q) s (pos + uc (s.data.toList.drop pos))) → qL ((s.data.toList.drop pos).take (uc (s.data.toList.drop pos))) = q → q.length ≤ 8 →
        Exec T l0_json_quoted (qE l s pos) = some (.exit 0, [(0, .own 1 (bl (l ++ qL (s.data.toList.drop pos)))), (10, .dead), (12, .iter s s.size), (13, .tup [.v (.bool false)]), (20, .dead), (32, .dead), (44, .dead), (100000, .dead)]) := by
      intro q h1 h2 h3
      rw [h1, ih _ _ (by omega) (by omega) hv (by rw [List.length_append]; omega), hsplit, h2, List.append_assoc]
    have hpair : Utf8.decode s pos = ((Lib.decodeL (s.data.toList.drop pos)).1, uc (s.data.toList.drop pos)) := by
      rw [← hdec, ← u2]
    by_cases hlow : lt (s.data.toList.drop pos) 0 < 128
    · have h6 := u6 hlow
      have hu1 : uc (s.data.toList.drop pos) = 1 := by rw [← u2, h6]
      rw [h6] at hpair
      simp only [hu1] at hpair step hle hsd
      have hcs := lt_small (s.data.toList.drop pos) 0
      have htake : (s.data.toList.drop pos).take 1 = [UInt8.ofNat (lt (s.data.toList.drop pos) 0)] := by
        rw [Lib.takeA _ hM]
        congr 1
        rw [← lt_getD]
        simp
      rw [htake] at step
      generalize lt (s.data.toList.drop pos) 0 = c at *
      have hqc : qL [UInt8.ofNat c] = qb c := by
        unfold qL
        simp only [List.flatMap_cons, List.flatMap_nil, List.append_nil, UInt8.toNat_ofNat']
        rw [Nat.mod_eq_of_lt (by omega)]
      rw [hqc] at step
      have hq8 : (qb c).length ≤ 8 := by
        unfold qb
        split
        · simp
        · split <;> simp
      cases he : esc2 c with
      | some e => exact step _ (quo_esc l s pos c e hlt hpair hlow he (by omega)) rfl hq8
      | none =>
        by_cases h32 : c < 32
        · exact step _ (quo_ctl l s pos c hlt hpair h32 he (by omega)) rfl hq8
        · have hb := qb_plain (show 32 ≤ c by omega) he
          have hr := quo_rune l s pos c 1 _ hlt hpair (by omega) (ir_low c hlow) (quo_none hlow he) (by omega) (by omega)
          rw [enc_one hlow, ← hb] at hr
          exact step _ hr rfl hq8
    · have h7 := u7 (by omega)
      have henc := Lib.encode_decode (s.data.toList.drop pos) hne (fun h => u3 (Prod.ext h.1 h.2))
      rw [u2] at henc
      have hq := qL_high (high_bytes (s.data.toList.drop pos) hM u1 (by omega))
      have hi : Cinf T n_strings_IndexRune [.v (.string sTo), .v (.int .i32 ((Lib.decodeL (s.data.toList.drop pos)).1 : Nat))] = some (.v (.int .i64 (-1)), [.dead, .dead]) := by
        by_cases hE : (Lib.decodeL (s.data.toList.drop pos)).1 = 65533
        · rw [hE]
          exact ir_err
        · exact ir_high _ (by omega) (by omega) (by omega)
      have hr := quo_rune l s pos _ _ _ hlt hpair (by omega) hi (.inl rfl) (by omega) (by omega)
      rw [henc] at hr
      refine step _ hr hq ?_
      rw [List.length_take]
      omega
end Go.AM.F
