/- JSON: quoted, of the program and of the document. No conditions. -/
import Derived.Test.YtkcnnifgdhabgaaDoorP13
namespace Go.AM.F
open Go Go.AM
set_option maxRecDepth 10000
set_option linter.unusedSimpArgs false

section
attribute [local simp] nextPV rangePV
attribute [local simp] j1_json_quoted b_json_quoted a_json_quoted
theorem c_quoted (X : PV) (l : List UInt8) (s : ByteArray) (hX : X = .own 1 (bl l) ∨ (X = .nil 1 ∧ l = [])) (hv : okU s = true) (hl : l.length + 8 * s.size ≤ 100000000) :
    Cinf T n_json_quoted [X, .v (.string s)] = some (.own 1 (bl (l ++ quote s.data.toList)), [.dead, .dead]) := by
  have hsz := size_list s
  have hv2 : Lib.validGoD s.size (s.data.toList.drop 0) = true := by
    rw [List.drop_zero, ← hsz]
    exact hv
  have h0 := quo_loop s s.size 0 (l ++ [34]) (by omega) (Nat.zero_le _) hv2 (by rw [List.length_append]; simp; omega)
  rw [List.drop_zero] at h0
  have hq : qL s.data.toList = qL s.data.toList := rfl
  have e1 : bl (l ++ [34]) = bl l ++ [.v (.int .u8 34)] := by rw [← bl_append]; rfl
  have e2 : bl (l ++ quote s.data.toList) = bl (l ++ [34] ++ qL s.data.toList) ++ [.v (.int .u8 34)] := by
    rw [show ([PV.v (.int .u8 34)] : List PV) = bl [34] from rfl, bl_append]
    simp [quote]
  simp only [qE] at h0
  rw [e1] at h0
  rw [e2]
  have hlen : (l ++ [34] ++ qL s.data.toList).length ≤ 134217728 := by
    have : ∀ L : List UInt8, (qL L).length ≤ 6 * L.length := by
      intro L
      induction L with
      | nil => simp [qL]
      | cons b r ih =>
        unfold qL at ih ⊢
        rw [List.flatMap_cons, List.length_append, List.length_cons]
        have : (qb b.toNat).length ≤ 6 := by
          unfold qb
          split
          · simp
          · split <;> simp
        omega
    have h6 := this s.data.toList
    rw [List.length_append, List.length_append]
    simp only [List.length_cons, List.length_nil]
    omega
  generalize l ++ [34] ++ qL s.data.toList = q at *
  have l1 : l.length ≤ 140737488355327 := by omega
  have l2 : l.length ≤ 4611686018427387903 := by omega
  have l3 : q.length ≤ 140737488355327 := by omega
  have l4 : q.length ≤ 4611686018427387903 := by omega
  rcases hX with rfl | ⟨rfl, rfl⟩
  · simp [run_json_quoted, Run, home, h0, l1, l2, l3, l4]
  · rw [show bl [] = ([] : List PV) from rfl, List.nil_append] at h0
    simp [run_json_quoted, Run, home, h0, l3, l4]
end
/-! ### The document's -/
def nameE (k v : Int) (c : Nat) : MapEntry := ⟨.int .u8 k, .int .u8 v, c⟩
def namesE : List MapEntry := [nameE 34 34 0, nameE 92 92 1, nameE 8 98 2, nameE 12 102 3, nameE 10 110 4, nameE 13 114 5, nameE 9 116 6]
def namesTest (c : Nat) : Bool := match Instr.findNow (kdOf (some .u8)) (.int .u8 (c : Int)) namesE 0, esc2 c with
  | some (some (_, .int .u8 z)), some e => decide (z = (e : Int)) && decide (e ≠ 0) && decide (e < 128)
  | some none, none => true
  | _, _ => false
theorem names_all : (List.range 256).all namesTest = true := by kernel_rfl
theorem names_some {c e : Nat} (hc : c < 256) (h : esc2 c = some e) : e ≠ 0 ∧ e < 128 ∧ ∃ i, Instr.findNow (kdOf (some .u8)) (.int .u8 (c : Int)) namesE 0 = some (some (i, .int .u8 (e : Int))) := by
  have := List.all_eq_true.1 names_all c (by simpa using hc)
  unfold namesTest at this
  rw [h] at this
  split at this
  · rename_i i z e' h1 h2
    cases h2
    simp only [Bool.and_eq_true, decide_eq_true_eq] at this
    obtain ⟨⟨h3, h4⟩, h5⟩ := this
    subst h3
    exact ⟨h4, h5, _, h1⟩
  · rename_i h2
    cases h2
  · cases this
theorem names_none {c : Nat} (hc : c < 256) (h : esc2 c = none) : Instr.findNow (kdOf (some .u8)) (.int .u8 (c : Int)) namesE 0 = some none := by
  have := List.all_eq_true.1 names_all c (by simpa using hc)
  unfold namesTest at this
  rw [h] at this
  split at this
  · rename_i h1 h2
    cases h2
  · rename_i h1 h2
    exact h1
  · cases this
theorem one_int2 (k : IntKind) (v : Int) : (Value.int k v).oneCell' = true := rfl
attribute [local simp] one_int2
attribute [local simp] j0_thicketref10_quoted j1_thicketref10_quoted w0_thicketref10_quoted j2_thicketref10_quoted b_thicketref10_quoted a_thicketref10_quoted
abbrev rqE (s : ByteArray) (l : List UInt8) (i : Nat) : Env := [(0, .v (.string s)), (3, .own 1 (bl l)), (4, .mapc namesE 7), (5, .v (.int .i64 i)), (7, .dead), (8, .dead), (9, .ref 8 []), (22, .dead), (33, .dead), (45, .dead), (48, .dead)]
theorem rquo_esc (s : ByteArray) (l : List UInt8) (i c e : Nat) (hi : i < s.size) (hs : s.size ≤ 16777216) (hg : ∀ h : i < s.data.size, (s.data[i]'h).toNat = c) (hc : c < 256) (h : esc2 c = some e) (hl : l.length ≤ 134217728) :
    Exec T l0_thicketref10_quoted (rqE s l i) = Exec T l0_thicketref10_quoted (rqE s (l ++ qb c) (i + 1)) := by
  obtain ⟨h1, h2, j, h3⟩ := names_some hc h
  have hq : bl (l ++ qb c) = bl l ++ [.v (.int .u8 92), .v (.int .u8 (e : Nat))] := by
    simp only [qb, h, ← bl_append]
    congr 1
    simp only [bl, List.map_cons, List.map_nil, UInt8.toNat_ofNat']
    rw [Nat.mod_eq_of_lt (by omega)]
    rfl
  have hw := wrap_succ hi (by omega)
  have l1 : l.length ≤ 140737488355326 := by omega
  have l2 : l.length ≤ 4611686018427387902 := by omega
  have h1' : ¬ (e : Int) = 0 := by omega
  simp only [rqE]
  rw [hq, ex0_thicketref10_quoted, succ_cast]
  simp only [kdOf] at h3
  generalize namesE = E at *
  simp [hi, hg, h3, h1, h1', l1, l2, hw, kdOf]
theorem rquo_ctl (s : ByteArray) (l : List UInt8) (i c : Nat) (hi : i < s.size) (hs : s.size ≤ 16777216) (hg : ∀ h : i < s.data.size, (s.data[i]'h).toNat = c) (hc : c < 32) (h : esc2 c = none) (hl : l.length ≤ 134217728) :
    Exec T l0_thicketref10_quoted (rqE s l i) = Exec T l0_thicketref10_quoted (rqE s (l ++ qb c) (i + 1)) := by
  have h3 := names_none (show c < 256 by omega) h
  have e2 : (⟨#[48, 49, 50, 51, 52, 53, 54, 55, 56, 57, 97, 98, 99, 100, 101, 102]⟩ : ByteArray) = sHex := rfl
  have e3 : sHex.size = 16 := rfl
  have x1 := hex_at (show c / 16 < 16 by omega)
  have x2 := hex_at (show c % 16 < 16 by omega)
  have y1 := hx_lt (show c / 16 < 16 by omega)
  have y2 := hx_lt (show c % 16 < 16 by omega)
  have b1 : c / 16 < 16 := by omega
  have b2 : c % 16 < 16 := by omega
  have s1 : IntKind.u8.wrap ((c : Int) / 16) = ((c / 16 : Nat) : Int) := by
    rw [show (c : Int) / 16 = ((c / 16 : Nat) : Int) from rfl, g_u8]
    omega
  have s2 : (c : Int).tmod 16 = ((c % 16 : Nat) : Int) := rfl
  have hq : bl (l ++ qb c) = bl l ++ [.v (.int .u8 92), .v (.int .u8 117), .v (.int .u8 48), .v (.int .u8 48), .v (.int .u8 (hx (c / 16) : Nat)), .v (.int .u8 (hx (c % 16) : Nat))] := by
    simp only [qb, h, if_pos hc, ← bl_append]
    congr 1
    simp only [bl, List.map_cons, List.map_nil, UInt8.toNat_ofNat']
    rw [Nat.mod_eq_of_lt y1, Nat.mod_eq_of_lt y2]
    rfl
  have hw := wrap_succ hi (by omega)
  have g5 : (c : Int) < 32 := by omega
  have l1 : l.length ≤ 140737488355322 := by omega
  have l2 : l.length ≤ 4611686018427387898 := by omega
  simp only [rqE]
  rw [hq, ex0_thicketref10_quoted, succ_cast]
  simp only [kdOf] at h3
  generalize hx (c / 16) = h1 at *
  generalize hx (c % 16) = h2 at *
  generalize c / 16 = d1 at *
  generalize c % 16 = d2 at *
  generalize sHex = S2 at *
  generalize namesE = E at *
  simp [hi, hg, h3, hc, g5, l1, l2, hw, kdOf, e2, e3, s1, s2, x1, x2, b1, b2]
theorem rquo_plain (s : ByteArray) (l : List UInt8) (i c : Nat) (hi : i < s.size) (hs : s.size ≤ 16777216) (hg : ∀ h : i < s.data.size, (s.data[i]'h).toNat = c) (hc : 32 ≤ c) (hc2 : c < 256) (h : esc2 c = none) (hl : l.length ≤ 134217728) :
    Exec T l0_thicketref10_quoted (rqE s l i) = Exec T l0_thicketref10_quoted (rqE s (l ++ qb c) (i + 1)) := by
  have h3 := names_none hc2 h
  have hq : bl (l ++ qb c) = bl l ++ [.v (.int .u8 (c : Nat))] := by
    rw [qb_plain hc h, ← bl_append]
    congr 1
    simp only [bl, List.map_cons, List.map_nil, UInt8.toNat_ofNat']
    rw [Nat.mod_eq_of_lt (by omega)]
  have hw := wrap_succ hi (by omega)
  have g5 : ¬ (c : Int) < 32 := by omega
  have g6 : ¬ c < 32 := by omega
  have l1 : l.length ≤ 140737488355327 := by omega
  have l2 : l.length ≤ 4611686018427387903 := by omega
  simp only [rqE]
  rw [hq, ex0_thicketref10_quoted, succ_cast]
  simp only [kdOf] at h3
  generalize namesE = E at *
  simp [hi, hg, h3, hc, g5, g6, l1, l2, hw, kdOf]
theorem rquo_loop (s : ByteArray) (hs : s.size ≤ 16777216) : ∀ (n i : Nat) (l : List UInt8), s.size - i = n → i ≤ s.size → l.length + 8 * (s.size - i) ≤ 134217728 →
    Exec T l0_thicketref10_quoted (rqE s l i) = some (.exit 0, rqE s (l ++ qL (s.data.toList.drop i)) s.size) := by
  have hsz := size_list s
  intro n
  induction n with
  | zero =>
    intro i l hn hi _
    obtain rfl : i = s.size := by omega
    rw [List.drop_of_length_le (by omega), show qL [] = [] from rfl, List.append_nil]
    simp only [rqE]
    rw [ex0_thicketref10_quoted]
    simp
  | succ n ih =>
    intro i l hn hi hl
    have hlt : i < s.size := by omega
    have hlt2 : i < s.data.toList.length := by omega
    obtain ⟨c, hc⟩ : ∃ c, s.data.toList[i] = c := ⟨_, rfl⟩
    have hg : ∀ h : i < s.data.size, (s.data[i]'h).toNat = c.toNat := by
      intro h
      rw [← hc]
      simp
    have hd : qL (s.data.toList.drop i) = qb c.toNat ++ qL (s.data.toList.drop (i + 1)) := by
      rw [List.drop_eq_getElem_cons hlt2, hc]
      rfl
    have hc2 := UInt8.toNat_lt c
    have hq8 : (qb c.toNat).length ≤ 8 := by
      unfold qb
      split
      · simp
      · split <;> simp
    have step : Exec T l0_thicketref10_quoted (rqE s l i) = Exec T l0_thicketref10_quoted (rqE s (l ++ qb c.toNat) (i + 1)) := by
      cases he : esc2 c.toNat with
      | some e => exact rquo_esc s l i _ e hlt hs hg (by omega) he (by omega)
      | none =>
        by_cases h32 : c.toNat < 32
        · exact rquo_ctl s l i _ hlt hs hg h32 he (by omega)
        · exact rquo_plain s l i _ hlt hs hg (by omega) (by omega) he (by omega)
    rw [step, ih (i + 1) _ (by omega) (by omega) (by rw [List.length_append]; omega), hd, List.append_assoc]
theorem qL_le : ∀ L : List UInt8, (qL L).length ≤ 6 * L.length
  | [] => by simp [qL]
  | b :: r => by
    have ih := qL_le r
    unfold qL at ih ⊢
    rw [List.flatMap_cons, List.length_append, List.length_cons]
    have : (qb b.toNat).length ≤ 6 := by
      unfold qb
      split
      · simp
      · split <;> simp
    omega
theorem c_rquoted (s : ByteArray) (hs : s.size ≤ 10000000) : Cinf T n_thicketref10_quoted [.v (.string s)] = some (.v (.string (tx (quote s.data.toList))), [.dead]) := by
  have hsz := size_list s
  have h0 := rquo_loop s (by omega) s.size 0 [34] rfl (Nat.zero_le _) (by simp; omega)
  rw [List.drop_zero] at h0
  have h6 := qL_le s.data.toList
  simp only [rqE] at h0
  have e0 : bl [34] = [.v (.int .u8 34)] := rfl
  have e2 : bl ([34] ++ qL s.data.toList) ++ [.v (.int .u8 34)] = bl (quote s.data.toList) := by
    rw [show ([PV.v (.int .u8 34)] : List PV) = bl [34] from rfl, bl_append]
    rfl
  have l1 : (bl ([34] ++ qL s.data.toList)).length ≤ 140737488355327 := by
    simp
    omega
  have l2 : (bl ([34] ++ qL s.data.toList)).length ≤ 4611686018427387903 := by omega
  have hb := bytesOf_bl (quote s.data.toList)
  rw [e0, Int.natCast_zero] at h0
  simp only [namesE, nameE] at h0
  generalize quote s.data.toList = Q at *
  generalize bl ([34] ++ qL s.data.toList) = q at *
  simp [run_thicketref10_quoted, Run, h0, l1, l2, e2, hb, tx, Instr.findNow, Instr.sameNow, kdOf, namesE, nameE, -w0_thicketref10_quoted]
end Go.AM.F
