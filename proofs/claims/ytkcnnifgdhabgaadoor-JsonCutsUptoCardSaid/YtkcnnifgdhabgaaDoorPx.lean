/- JSON: right, every value; how deep a value is nested, as the document finds it; right texts, as the document finds them. JSON: what the model's decoding says of a right character; the document's Right. JSON: the document's form. JSON: the document's form, every value; Check of both. JSON: the letters that are written with an escape: where a rune stands among them. JSON: a rune's bytes are put behind others. JSON: the program's quoted. JSON: quoted, of the program and of the document. JSON: what is written of a value; the program's write: lists and objects. JSON: the program's write: objects, then every value. JSON: the document's printed. JSON: Print of both; the law JsonPrints. No conditions. -/
import Derived.Test.YtkcnnifgdhabgaaDoorPa
import Derived.Test.YtkcnnifgdhabgaaDoorMx
import Derived.Lib.MapLaws
import Derived.Laws.Runes
import Derived.Test.YtkcnnifgdhabgaaDoorKx
/- JSON: right, every value; how deep a value is nested, as the document finds it; right texts, as the document finds them. No conditions. -/
namespace Go.AM.F
open Go Go.AM
set_option maxRecDepth 10000
set_option linter.unusedSimpArgs false

theorem c_right : ∀ (j : J), j.Ok → j.wt ≤ 16777216 → Cinf T n_json_right [j.pv] = some (.v (.bool j.right), [.dead])
  | .mk k t ns is, ⟨h1, h2, h3⟩, hw => by
    have ih : ∀ x ∈ is, Cinf T n_json_right [x.pv] = some (.v (.bool x.right), [.dead]) := fun x hm => by
      exact c_right x (okL_mem h3 x hm) (by
        have := wtL_mem hm
        simp only [J.wt] at hw
        omega)
    have hN : ∀ s ∈ ns, s.size ≤ 16777216 := fun s hs => by
      have := sum_mem hs
      simp only [J.wt] at hw
      omega
    have hT : t.size ≤ 16777216 := by
      simp only [J.wt] at hw
      omega
    have g1 := right_items k t ns is h2 ih is.length 0 (J.rightL is) rfl (Nat.zero_le _) rfl
    have g0 := right_names k t ns is h1 hN ns.length 0 (ns.all okU) rfl (Nat.zero_le _) rfl
    rw [Int.natCast_zero] at g1 g0
    simp only [J.right]
    by_cases c1 : k = 1 ∨ k = 2 ∨ k = 3
    · rw [if_pos c1]
      exact right_plain k t ns is c1
    rw [if_neg c1]
    by_cases c4 : k = 4
    · subst c4
      rw [if_pos rfl]
      exact right_number t ns is hT
    rw [if_neg c4]
    by_cases c5 : k = 5
    · subst c5
      rw [if_pos rfl]
      exact right_text t ns is hT
    rw [if_neg c5]
    by_cases c6 : k = 6
    · subst c6
      rw [if_pos rfl]
      exact right_list t ns is g1
    rw [if_neg c6]
    by_cases c7 : k = 7
    · subst c7
      rw [if_pos rfl]
      exact right_object t ns is g1 g0
    rw [if_neg c7]
    exact right_none k t ns is c1 c4 c5 c6 c7
termination_by j => SizeOf.sizeOf j
decreasing_by
  have := List.sizeOf_lt_of_mem hm
  simp only [J.mk.sizeOf_spec]
  omega
/-! ### The document's depth -/
mutual
theorem depth_wt : ∀ (j : J), j.depth ≤ j.wt
  | .mk k t ns is => by
    have := depthL_wt is
    simp only [J.depth, J.wt]
    split <;> omega
theorem depthL_wt : ∀ (is : List J), J.depthL is ≤ J.wtL is
  | [] => Nat.le_refl _
  | j :: r => by
    have h1 := depth_wt j
    have h2 := depthL_wt r
    simp only [J.depthL, J.wtL]
    split <;> omega
end
def maxN (a b : Nat) : Nat := if a < b then b else a
/-- The greatest depth so far, and those behind. -/
def deepF (m : Nat) : List J → Nat
  | [] => m
  | j :: r => deepF (if m < j.depth then j.depth else m) r
theorem deepF_eq : ∀ (is : List J) (m : Nat), deepF m is = if m < J.depthL is then J.depthL is else m
  | [], m => by simp [deepF, J.depthL]
  | j :: r, m => by
    simp only [deepF, J.depthL, deepF_eq r]
    split <;> split <;> split <;> (try split) <;> omega
end Go.AM.F

/- JSON: what the model's decoding says of a right character; the document's Right. No conditions. -/
namespace Go.AM.F
open Go Go.AM
set_option maxRecDepth 10000
set_option linter.unusedSimpArgs false

theorem lt_getD (M : List UInt8) (i : Nat) : (M.getD i 0).toNat = lt M i := by
  simp [lt, List.getD_eq_getElem?_getD]
/-- What the model's decoding says: no right character, or just that. -/
theorem dec_uc (M : List UInt8) (h0 : 0 < M.length) :
    (uc M = 0 ∧ Lib.decodeL M = (65533, 1)) ∨
    (uc M ≠ 0 ∧ (Lib.decodeL M).2 = uc M ∧ Lib.decodeL M ≠ (65533, 1) ∧ (Lib.decodeL M).1 < 1114112 ∧ ((Lib.decodeL M).1 < 55296 ∨ 57344 ≤ (Lib.decodeL M).1) ∧ (lt M 0 < 128 → Lib.decodeL M = (lt M 0, 1)) ∧ (128 ≤ lt M 0 → 128 ≤ (Lib.decodeL M).1)) := by
  rw [Lib.decodeL_N, lt_getD, lt_getD, lt_getD, lt_getD]
  have k0 := lt_small M 0
  have k1 := lt_small M 1
  have k2 := lt_small M 2
  have k3 := lt_small M 3
  unfold uc
  rw [if_neg (show ¬ M.length = 0 by omega)]
  simp only [in1_iff, cont_iff]
  generalize lt M 0 = a at *
  generalize lt M 1 = b at *
  generalize lt M 2 = c at *
  generalize lt M 3 = d at *
  generalize M.length = n at *
  unfold Lib.decodeN
  repeat' split
  all_goals first
    | (left; exact ⟨rfl, rfl⟩)
    | (right; refine ⟨by omega, rfl, ?_, ?_, ?_, ?_, ?_⟩ <;> simp only [ne_eq, Prod.mk.injEq] <;> first | omega | (simp; done) | (simp; omega))
    | (exfalso; omega)
/-! ### The document's Right -/
end Go.AM.F

/- JSON: the document's form. No conditions. -/
namespace Go.AM.F
open Go Go.AM
set_option maxRecDepth 10000
set_option linter.unusedSimpArgs false

theorem okU_nil : okU ⟨#[]⟩ = true := rfl
end Go.AM.F

/- JSON: the document's form, every value; Check of both. No conditions. -/
namespace Go.AM.F
open Go Go.AM
set_option maxRecDepth 10000
set_option linter.unusedSimpArgs false

theorem pNum_same (s : ByteArray) : isNum s = match pNum s.data.toList 0 with
    | .ok j _ => decide (j = s.size)
    | .bad _ _ => false := by
  unfold isNum pNum
  cases pNumber s.data.toList 0 <;> rfl
/-! ### Check -/
def J.check (j : J) : Int := if 256 < j.depth then 101 else if j.right = false then 100 else if j.twin = true then 102 else 0
attribute [local simp] j0_json_Check b_json_Check a_json_Check
theorem c_Check (j : J) (h : j.Ok) (hw : j.wt ≤ 16777216) : Cinf T n_json_Check [j.pv] = some (.v (.int .i64 j.check), [.dead]) := by
  have h1 := c_deep j 256 h (by omega)
  have h2 := c_right j h hw
  have h3 := c_twin j h
  rw [dgt_depth] at h1
  unfold J.check
  have h256 : ((256 : Nat) : Int) = 256 := rfl
  rw [h256] at h1
  obtain ⟨k, t, ns, is⟩ := j
  simp only [J.pv_mk] at h1 h2 h3 ⊢
  generalize J.depth (.mk k t ns is) = D at *
  generalize J.right (.mk k t ns is) = r at *
  generalize J.twin (.mk k t ns is) = q at *
  by_cases hd : 256 < D
  · simp [run_json_Check, Run, h1, hd]
  · cases r
    · simp [run_json_Check, Run, h1, h2, hd]
    · cases q <;> simp [run_json_Check, Run, h1, h2, h3, hd]
end Go.AM.F

/- JSON: the letters that are written with an escape: where a rune stands among them. No conditions. -/
namespace Go.AM.F
open Go Go.AM
set_option maxRecDepth 10000
set_option linter.unusedSimpArgs false

theorem encode_last (r : Int) (hv : Utf8.valid r = true) (h128 : 128 ≤ r) :
    ∃ n c : Nat, (n = 1 ∨ n = 2 ∨ n = 3) ∧ (Utf8.encode r).size = n + 1 ∧ 128 ≤ c ∧ c < 256 ∧ ∀ h : n < (Utf8.encode r).data.size, ((Utf8.encode r).data[n]'h).toNat = c := by
  have hc : ¬ r.toNat < 128 := by omega
  unfold Utf8.encode
  simp only [hv, if_true, hc, if_false]
  split
  · exact ⟨1, (UInt8.ofNat (128 + r.toNat % 64)).toNat, by omega, rfl, by simp; omega, by simp; omega, fun _ => rfl⟩
  · split
    · exact ⟨2, (UInt8.ofNat (128 + r.toNat % 64)).toNat, by omega, rfl, by simp; omega, by simp; omega, fun _ => rfl⟩
    · exact ⟨3, (UInt8.ofNat (128 + r.toNat % 64)).toNat, by omega, rfl, by simp; omega, by simp; omega, fun _ => rfl⟩
attribute [local simp] j0_utf8_ValidRune b_utf8_ValidRune a_utf8_ValidRune
theorem c_ValidRune (r : Int) (h : 128 ≤ r) (hv : r < 55296 ∨ (57344 ≤ r ∧ r ≤ 1114111)) : Cinf T n_utf8_ValidRune [.v (.int .i32 r)] = some (.v (.bool true), [.dead]) := by
  rcases hv with h1 | ⟨h1, h2⟩
  · have h0 : (0 : Int) ≤ r := by omega
    simp [run_utf8_ValidRune, Run, h0, h1]
  · have h0 : (0 : Int) ≤ r := by omega
    have h3 : ¬ r < 55296 := by omega
    have h4 : 57343 < r := by omega
    simp [run_utf8_ValidRune, Run, h0, h2, h3, h4]
theorem none_all : (List.range 256).all (fun c => decide (c < 128) || (decide (firstIdx (sTo.extract 2 8) c.toUInt8 = -1) && decide (firstIdx (sTo.extract 3 8) c.toUInt8 = -1) && decide (firstIdx (sTo.extract 4 8) c.toUInt8 = -1))) = true := by kernel_rfl
theorem none_of {c : Nat} (h : 128 ≤ c) (h2 : c < 256) : firstIdx (sTo.extract 2 8) c.toUInt8 = -1 ∧ firstIdx (sTo.extract 3 8) c.toUInt8 = -1 ∧ firstIdx (sTo.extract 4 8) c.toUInt8 = -1 := by
  have := List.all_eq_true.1 none_all c (by simpa using h2)
  simp only [Bool.or_eq_true, Bool.and_eq_true, decide_eq_true_eq] at this
  omega
attribute [local simp] w0_strings_IndexRune j0_strings_IndexRune j1_strings_IndexRune j7_strings_IndexRune w1_strings_IndexRune b_strings_IndexRune a_strings_IndexRune
theorem ir_low (r : Nat) (h : r < 128) : Cinf T n_strings_IndexRune [.v (.string sTo), .v (.int .i32 r)] = some (.v (.int .i64 (firstIdx sTo r.toUInt8)), [.dead, .dead]) := by
  have hc := c_IndexByte sTo (r : Int)
  have hw : IntKind.u8.wrap (r : Int) = r := by
    unfold IntKind.wrap
    simp [IntKind.signed, IntKind.bits]
    omega
  have h1 : (r : Int) < 128 := by omega
  simp only [Int.toNat_natCast] at hc
  simp [run_strings_IndexRune, Run, hc, h1, h, hw]
theorem dec_to : (List.range 8).all (fun i => decide ((Utf8.decode sTo i).2 = 1) && decide ((Utf8.decode sTo i).1 < 128)) = true := by kernel_rfl
theorem dec_at {i : Nat} (h : i < 8) : (Utf8.decode sTo i).2 = 1 ∧ (Utf8.decode sTo i).1 < 128 := by
  have := List.all_eq_true.1 dec_to i (by simpa using h)
  simpa using this
theorem to_size : sTo.size = 8 := rfl
attribute [local simp] nextPV rangePV
theorem err_loop : ∀ (m i : Nat), 8 - i = m → i ≤ 8 → ∃ e', Exec T l0_strings_IndexRune [(175, .iter sTo i)] = some (.exit 9, e') := by
  intro m
  induction m with
  | zero =>
    intro i hm hi
    obtain rfl : i = 8 := by omega
    have hs := to_size
    refine ⟨[(175, .iter sTo 8), (176, .tup [.v (.bool false)])], ?_⟩
    rw [ex0_strings_IndexRune]
    generalize sTo = s at *
    simp [hs]
  | succ m ih =>
    intro i hm hi
    have hlt : i < 8 := by omega
    obtain ⟨e', h0⟩ := ih (i + 1) (by omega) (by omega)
    refine ⟨e', ?_⟩
    have hk : ∀ x y, Exec T l0_strings_IndexRune [(5, x), (175, y)] = Exec T l0_strings_IndexRune [(175, y)] := fun x y => (ex0_strings_IndexRune [(5, x), (175, y)]).trans (ex0_strings_IndexRune [(175, y)]).symm
    rw [← h0, ex0_strings_IndexRune]
    obtain ⟨d1, d2⟩ := dec_at hlt
    have d3 : ¬ ((Utf8.decode sTo i).1 : Int) = 65533 := by omega
    have hs := to_size
    generalize sTo = s at *
    simp [hs, hlt, d1, d3, hk]
theorem ir_err : Cinf T n_strings_IndexRune [.v (.string sTo), .v (.int .i32 65533)] = some (.v (.int .i64 (-1)), [.dead, .dead]) := by
  obtain ⟨e', h0⟩ := err_loop 8 0 rfl (by omega)
  generalize sTo = s at *
  simp [run_strings_IndexRune, Run, h0, -w0_strings_IndexRune]
theorem ir_high (r : Int) (h : 128 ≤ r) (hv : r < 55296 ∨ (57344 ≤ r ∧ r ≤ 1114111)) (hn : r ≠ 65533) : Cinf T n_strings_IndexRune [.v (.string sTo), .v (.int .i32 r)] = some (.v (.int .i64 (-1)), [.dead, .dead]) := by
  have hc := c_ValidRune r h hv
  have hv2 : Utf8.valid r = true := by
    unfold Utf8.valid
    simp
    omega
  obtain ⟨n, c, h1, h2, h3, hc1, hc0⟩ := encode_last r hv2 h
  have g1 : ¬ r < 128 := by omega
  have g0 : (0 : Int) ≤ r := by omega
  obtain ⟨k2, k3, k4⟩ := none_of h3 hc1
  have b2 := c_IndexByte (sTo.extract 2 8) (c : Int)
  have b3 := c_IndexByte (sTo.extract 3 8) (c : Int)
  have b4 := c_IndexByte (sTo.extract 4 8) (c : Int)
  rw [Int.toNat_natCast, k2] at b2
  rw [Int.toNat_natCast, k3] at b3
  rw [Int.toNat_natCast, k4] at b4
  have hs := to_size
  have s1 : ∀ h : 1 < sTo.data.size, (sTo.data[1]'h).toNat = 92 := fun _ => rfl
  have s2 : ∀ h : 2 < sTo.data.size, (sTo.data[2]'h).toNat = 47 := fun _ => rfl
  have s3 : ∀ h : 3 < sTo.data.size, (sTo.data[3]'h).toNat = 8 := fun _ => rfl
  have e1 : ¬ (92 : Int) = c := by omega
  have e2 : ¬ (47 : Int) = c := by omega
  have e3 : ¬ (8 : Int) = c := by omega
  generalize sTo = s at *
  rcases h1 with rfl | rfl | rfl
  · simp [run_strings_IndexRune, Run, g0, g1, hn, hc, ex1_strings_IndexRune, h2, hs, hc0, s1, e1, b2]
  · simp [run_strings_IndexRune, Run, g0, g1, hn, hc, ex1_strings_IndexRune, h2, hs, hc0, s2, e2, b3]
  · simp [run_strings_IndexRune, Run, g0, g1, hn, hc, ex1_strings_IndexRune, h2, hs, hc0, s3, e3, b4]
end Go.AM.F

/- JSON: a rune's bytes are put behind others. No conditions. -/
namespace Go.AM.F
open Go Go.AM
set_option maxRecDepth 10000
set_option linter.unusedSimpArgs false

theorem g_shr (v k : Nat) (hk : k ≤ 32) : (v : Int).fdiv (2 ^ min k IntKind.i32.bits) = ((v / 2 ^ k : Nat) : Int) := by
  rw [show min k IntKind.i32.bits = k from Nat.min_eq_left hk, show ((2 : Int) ^ k) = ((2 ^ k : Nat) : Int) by simp, Int.fdiv_eq_ediv_of_nonneg _ (Int.natCast_nonneg _)]
  first | rfl | exact (Int.natCast_ediv _ _).symm
theorem g_u8 (x : Nat) : IntKind.u8.wrap (x : Int) = ((x % 256 : Nat) : Int) := by
  unfold IntKind.wrap
  simp [IntKind.signed, IntKind.bits]
theorem g_u32 (x : Nat) (h : x < 4294967296) : IntKind.u32.wrap (x : Int) = (x : Int) := by
  unfold IntKind.wrap
  simp [IntKind.signed, IntKind.bits]
  omega
theorem g_and (x : Nat) (hx : x < 256) : IntKind.u8.wrap ((x % 2 ^ IntKind.u8.bits &&& 63 % 2 ^ IntKind.u8.bits : Nat) : Int) = ((x % 64 : Nat) : Int) := by
  rw [show x % 2 ^ IntKind.u8.bits = x by simp only [IntKind.bits]; omega, show (63 % 2 ^ IntKind.u8.bits : Nat) = 2 ^ 6 - 1 by rfl, Nat.and_two_pow_sub_one_eq_mod, g_u8]
  omega
theorem g_or {q : Nat} (a k : Nat) (hq : q < 2 ^ k) (ha : a * 2 ^ k + 2 ^ k ≤ 256) : IntKind.u8.wrap (((a * 2 ^ k) % 2 ^ IntKind.u8.bits ||| q % 2 ^ IntKind.u8.bits : Nat) : Int) = ((a * 2 ^ k + q : Nat) : Int) := by
  have h := Nat.shiftLeft_add_eq_or_of_lt hq a
  rw [Nat.shiftLeft_eq] at h
  rw [show (a * 2 ^ k) % 2 ^ IntKind.u8.bits = a * 2 ^ k by simp only [IntKind.bits]; omega, show q % 2 ^ IntKind.u8.bits = q by simp only [IntKind.bits]; omega, ← h, g_u8]
  omega
abbrev nb (l : List Nat) : List PV := l.map fun b => .v (.int .u8 (b : Nat))
attribute [local simp] j0_utf8_appendRuneNonASCII b_utf8_appendRuneNonASCII a_utf8_appendRuneNonASCII
theorem low6 (v : Nat) : v % 256 % 64 = v % 64 := by omega
theorem na2 (l : List PV) (v : Nat) (h1 : 128 ≤ v) (h : v < 2048) (hl : l.length ≤ 134217728) : Cinf T n_utf8_appendRuneNonASCII [.own 1 l, .v (.int .i32 v)] = some (.own 1 (l ++ nb [192 + v / 64, 128 + v % 64]), [.dead, .dead]) := by
  have hu := g_u32 v (by omega)
  have s1 := g_shr v 6 (by decide)
  have c1 := g_u8 (v / 64)
  have c2 := g_u8 v
  have a1 := g_and (v % 256) (by omega)
  have hq : v / 64 < 2 ^ 5 := by omega
  have o1 := g_or 6 5 hq (by decide)
  have hr : v % 64 < 2 ^ 6 := by omega
  have o2 := g_or 2 6 hr (by decide)
  have e1 : (6 * 2 ^ 5 : Nat) = 192 := rfl
  have e2 : (2 * 2 ^ 6 : Nat) = 128 := rfl
  have e3 : (2 ^ 6 : Nat) = 64 := rfl
  rw [e1] at o1
  rw [e2] at o2
  rw [e3] at s1
  rw [show v / 64 % 256 = v / 64 by omega] at c1
  rw [low6] at a1
  have e4 : l.length ≤ 140737488355326 := by omega
  have e5 : l.length ≤ 4611686018427387902 := by omega
  have e6 : v ≤ 2047 := by omega
  have e7 : (v : Int) ≤ 2047 := by omega
  simp only [nb, List.map_cons, List.map_nil]
  generalize v / 64 = q at *
  generalize v % 64 = r at *
  generalize v % 256 = w at *
  generalize 192 + q = x at *
  generalize 128 + r = y at *
  simp [run_utf8_appendRuneNonASCII, Run, home, hu, s1, c1, c2, a1, o1, o2, e4, e5, e6, e7]
theorem na3 (l : List PV) (v : Nat) (h1 : 2048 ≤ v) (h : v < 55296 ∨ (57344 ≤ v ∧ v < 65536)) (hl : l.length ≤ 134217728) : Cinf T n_utf8_appendRuneNonASCII [.own 1 l, .v (.int .i32 v)] = some (.own 1 (l ++ nb [224 + v / 4096, 128 + v / 64 % 64, 128 + v % 64]), [.dead, .dead]) := by
  have hu := g_u32 v (by omega)
  have s1 := g_shr v 6 (by decide)
  have s2 := g_shr v 12 (by decide)
  have c0 := g_u8 (v / 4096)
  have c1 := g_u8 (v / 64)
  have c2 := g_u8 v
  have a0 := g_and (v / 64 % 256) (by omega)
  have a1 := g_and (v % 256) (by omega)
  have hq : v / 4096 < 2 ^ 4 := by omega
  have o1 := g_or 14 4 hq (by decide)
  have hr : v % 64 < 2 ^ 6 := by omega
  have o2 := g_or 2 6 hr (by decide)
  have hr' : v / 64 % 64 < 2 ^ 6 := by omega
  have o3 := g_or 2 6 hr' (by decide)
  have e1 : (14 * 2 ^ 4 : Nat) = 224 := rfl
  have e2 : (2 * 2 ^ 6 : Nat) = 128 := rfl
  have e3 : (2 ^ 6 : Nat) = 64 := rfl
  have e3' : (2 ^ 12 : Nat) = 4096 := rfl
  rw [e1] at o1
  rw [e2] at o2 o3
  rw [e3] at s1
  rw [e3'] at s2
  rw [show v / 4096 % 256 = v / 4096 by omega] at c0
  rw [low6] at a1 a0
  have e4 : l.length ≤ 140737488355325 := by omega
  have e5 : l.length ≤ 4611686018427387901 := by omega
  have e6 : ¬ v ≤ 2047 := by omega
  have e7 : ¬ (v : Int) ≤ 2047 := by omega
  simp only [nb, List.map_cons, List.map_nil]
  rcases h with h | ⟨h2, h3⟩
  · have e8 : (v : Int) < 55296 := by omega
    generalize v / 4096 = p at *
    generalize v / 64 % 64 = r' at *
    generalize v / 64 % 256 = w' at *
    generalize v / 64 = q at *
    generalize v % 64 = r at *
    generalize v % 256 = w at *
    generalize 224 + p = x at *
    generalize 128 + r = y at *
    generalize 128 + r' = z at *
    simp [run_utf8_appendRuneNonASCII, Run, home, hu, s1, s2, c0, c1, c2, a0, a1, o1, o2, o3, e4, e5, e6, e7, h, e8]
  · have e8 : ¬ v < 55296 := by omega
    have e9 : 57343 < v := by omega
    have e10 : v ≤ 65535 := by omega
    have f8 : ¬ (v : Int) < 55296 := by omega
    have f9 : (57343 : Int) < v := by omega
    have f10 : (v : Int) ≤ 65535 := by omega
    generalize v / 4096 = p at *
    generalize v / 64 % 64 = r' at *
    generalize v / 64 % 256 = w' at *
    generalize v / 64 = q at *
    generalize v % 64 = r at *
    generalize v % 256 = w at *
    generalize 224 + p = x at *
    generalize 128 + r = y at *
    generalize 128 + r' = z at *
    simp [run_utf8_appendRuneNonASCII, Run, home, hu, s1, s2, c0, c1, c2, a0, a1, o1, o2, o3, e4, e5, e6, e7, e8, e9, e10, f8, f9, f10]
theorem na4 (l : List PV) (v : Nat) (h1 : 65536 ≤ v) (h : v ≤ 1114111) (hl : l.length ≤ 134217728) : Cinf T n_utf8_appendRuneNonASCII [.own 1 l, .v (.int .i32 v)] = some (.own 1 (l ++ nb [240 + v / 262144, 128 + v / 4096 % 64, 128 + v / 64 % 64, 128 + v % 64]), [.dead, .dead]) := by
  have hu := g_u32 v (by omega)
  have s1 := g_shr v 6 (by decide)
  have s2 := g_shr v 12 (by decide)
  have s3 := g_shr v 18 (by decide)
  have c0 := g_u8 (v / 4096)
  have c1 := g_u8 (v / 64)
  have c2 := g_u8 v
  have c3 := g_u8 (v / 262144)
  have a0 := g_and (v / 64 % 256) (by omega)
  have a1 := g_and (v % 256) (by omega)
  have a2 := g_and (v / 4096 % 256) (by omega)
  have hq : v / 262144 < 2 ^ 3 := by omega
  have o1 := g_or 30 3 hq (by decide)
  have hr : v % 64 < 2 ^ 6 := by omega
  have o2 := g_or 2 6 hr (by decide)
  have hr' : v / 64 % 64 < 2 ^ 6 := by omega
  have o3 := g_or 2 6 hr' (by decide)
  have hr'' : v / 4096 % 64 < 2 ^ 6 := by omega
  have o4 := g_or 2 6 hr'' (by decide)
  have e1 : (30 * 2 ^ 3 : Nat) = 240 := rfl
  have e2 : (2 * 2 ^ 6 : Nat) = 128 := rfl
  have e3 : (2 ^ 6 : Nat) = 64 := rfl
  have e3' : (2 ^ 12 : Nat) = 4096 := rfl
  have e3'' : (2 ^ 18 : Nat) = 262144 := rfl
  rw [e1] at o1
  rw [e2] at o2 o3 o4
  rw [e3] at s1
  rw [e3'] at s2
  rw [e3''] at s3
  rw [show v / 262144 % 256 = v / 262144 by omega] at c3
  rw [low6] at a1 a0 a2
  have e4 : l.length ≤ 140737488355324 := by omega
  have e5 : l.length ≤ 4611686018427387900 := by omega
  have e6 : ¬ v ≤ 2047 := by omega
  have e7 : ¬ (v : Int) ≤ 2047 := by omega
  have e8 : ¬ v < 55296 := by omega
  have e9 : 57343 < v := by omega
  have e10 : ¬ v ≤ 65535 := by omega
  have e11 : 65535 < v := by omega
  have f8 : ¬ (v : Int) < 55296 := by omega
  have f9 : (57343 : Int) < v := by omega
  have f10 : ¬ (v : Int) ≤ 65535 := by omega
  have f11 : (65535 : Int) < v := by omega
  have f12 : (v : Int) ≤ 1114111 := by omega
  simp only [nb, List.map_cons, List.map_nil]
  generalize v / 262144 = p' at *
  generalize v / 4096 % 64 = r'' at *
  generalize v / 4096 % 256 = w'' at *
  generalize v / 4096 = p at *
  generalize v / 64 % 64 = r' at *
  generalize v / 64 % 256 = w' at *
  generalize v / 64 = q at *
  generalize v % 64 = r at *
  generalize v % 256 = w at *
  generalize 240 + p' = x at *
  generalize 128 + r = y at *
  generalize 128 + r' = z at *
  generalize 128 + r'' = z' at *
  simp [run_utf8_appendRuneNonASCII, Run, home, hu, s1, s2, s3, c0, c1, c2, c3, a0, a1, a2, o1, o2, o3, o4, e4, e5, e6, e7, e8, e9, e10, e11, f8, f9, f10, f11, f12, h]
theorem nb_bl (l : List Nat) : nb l = bl (l.map UInt8.ofNat) ∨ ∃ b ∈ l, 256 ≤ b := by
  by_cases h : ∃ b ∈ l, 256 ≤ b
  · exact .inr h
  · refine .inl ?_
    simp only [nb, bl, List.map_map]
    refine List.map_congr_left fun b hb => ?_
    have : b < 256 := Classical.byContradiction fun hn => h ⟨b, hb, by omega⟩
    simp only [Function.comp, UInt8.toNat_ofNat']
    rw [Nat.mod_eq_of_lt (by omega)]
theorem bl_of {l : List Nat} (h : ∀ b ∈ l, b < 256) : nb l = bl (l.map UInt8.ofNat) := by
  rcases nb_bl l with h1 | ⟨b, h1, h2⟩
  · exact h1
  · have := h b h1
    omega
attribute [local simp] j0_utf8_AppendRune b_utf8_AppendRune a_utf8_AppendRune
theorem c_AppendRune (l : List UInt8) (v : Nat) (h : v < 55296 ∨ (57344 ≤ v ∧ v ≤ 1114111)) (hl : l.length ≤ 134217728) :
    Cinf T n_utf8_AppendRune [.own 1 (bl l), .v (.int .i32 v)] = some (.own 1 (bl (l ++ Lib.encodeRune (v : Int))), [.dead, .dead]) := by
  have hu := g_u32 v (by omega)
  have hbl : (bl l).length = l.length := by simp
  have key : ∀ q : List Nat, (∀ b ∈ q, b < 256) → Lib.encodeRune (v : Int) = q.map UInt8.ofNat → bl (l ++ Lib.encodeRune (v : Int)) = bl l ++ nb q := by
    intro q h1 h2
    rw [h2, bl_of h1, bl_append]
  have big : ∀ q : List Nat, 128 ≤ v → Cinf T n_utf8_appendRuneNonASCII [.own 1 (bl l), .v (.int .i32 v)] = some (.own 1 (bl l ++ nb q), [.dead, .dead]) → Cinf T n_utf8_AppendRune [.own 1 (bl l), .v (.int .i32 v)] = some (.own 1 (bl l ++ nb q), [.dead, .dead]) := by
    intro q h1 h2
    have e1 : ¬ v ≤ 127 := by omega
    have e2 : ¬ (v : Int) ≤ 127 := by omega
    generalize bl l ++ nb q = X at *
    generalize bl l = Y at *
    simp [run_utf8_AppendRune, Run, home, hu, e1, e2, h2]
  by_cases c1 : v < 128
  · rw [key [v] (by simp; omega) (by
      rw [Lib.encodeRune, Lib.encodeRuneZ_one (by omega) (by omega)]
      simp [Nat.toUInt8])]
    have hw := g_u8 v
    rw [show v % 256 = v by omega] at hw
    have e1 : v ≤ 127 := by omega
    have e2 : (v : Int) ≤ 127 := by omega
    have e4 : l.length ≤ 140737488355327 := by omega
    have e5 : l.length ≤ 4611686018427387903 := by omega
    simp [run_utf8_AppendRune, Run, home, hu, e1, e2, hw, e4, e5]
  by_cases c2 : v < 2048
  · rw [key [192 + v / 64, 128 + v % 64] (by simp; omega) (by
      rw [Lib.encodeRune, Lib.encodeRuneZ_two (by omega) (by omega)]
      have e1 : (192 + (v : Int) / 64).toNat = 192 + v / 64 := by omega
      have e2 : (128 + (v : Int) % 64).toNat = 128 + v % 64 := by omega
      simp only [List.map_cons, List.map_nil, e1, e2, Nat.toUInt8])]
    exact big _ (by omega) (na2 (bl l) v (by omega) c2 (by omega))
  by_cases c3 : v < 65536
  · rw [key [224 + v / 4096, 128 + v / 64 % 64, 128 + v % 64] (by simp; omega) (by
      rw [Lib.encodeRune, Lib.encodeRuneZ_three (by omega)]
      have e0 : (224 + (v : Int) / 4096).toNat = 224 + v / 4096 := by omega
      have e1 : (128 + (v : Int) / 64 % 64).toNat = 128 + v / 64 % 64 := by omega
      have e2 : (128 + (v : Int) % 64).toNat = 128 + v % 64 := by omega
      simp only [List.map_cons, List.map_nil, e0, e1, e2, Nat.toUInt8])]
    exact big _ (by omega) (na3 (bl l) v (by omega) (by omega) (by omega))
  · rw [key [240 + v / 262144, 128 + v / 4096 % 64, 128 + v / 64 % 64, 128 + v % 64] (by simp; omega) (by
      rw [Lib.encodeRune, Lib.encodeRuneZ_four (by omega) (by omega)]
      have e3 : (240 + (v : Int) / 262144).toNat = 240 + v / 262144 := by omega
      have e0 : (128 + (v : Int) / 4096 % 64).toNat = 128 + v / 4096 % 64 := by omega
      have e1 : (128 + (v : Int) / 64 % 64).toNat = 128 + v / 64 % 64 := by omega
      have e2 : (128 + (v : Int) % 64).toNat = 128 + v % 64 := by omega
      simp only [List.map_cons, List.map_nil, e0, e1, e2, e3, Nat.toUInt8])]
    exact big _ (by omega) (na4 (bl l) v (by omega) (by omega) (by omega))
end Go.AM.F

/- JSON: the program's quoted. No conditions. -/
namespace Go.AM.F
open Go Go.AM
set_option maxRecDepth 10000
set_option linter.unusedSimpArgs false

/-- The letter that stands for a letter behind a backslash. -/
def esc2 (c : Nat) : Option Nat := if c = 34 then some 34 else if c = 92 then some 92 else if c = 8 then some 98 else if c = 12 then some 102 else if c = 10 then some 110 else if c = 13 then some 114 else if c = 9 then some 116 else none
def hx (d : Nat) : Nat := if d < 10 then 48 + d else 87 + d
/-- A byte, as it is written. -/
def qb (c : Nat) : List UInt8 := match esc2 c with
  | some e => [92, UInt8.ofNat e]
  | none => if c < 32 then [92, 117, 48, 48, UInt8.ofNat (hx (c / 16)), UInt8.ofNat (hx (c % 16))] else [UInt8.ofNat c]
def qL (L : List UInt8) : List UInt8 := L.flatMap fun b => qb b.toNat
def quote (L : List UInt8) : List UInt8 := [34] ++ qL L ++ [34]
def sHex : ByteArray := ⟨#[48, 49, 50, 51, 52, 53, 54, 55, 56, 57, 97, 98, 99, 100, 101, 102]⟩
def quoTest (c : Nat) : Bool := match esc2 c with
  | some e => (List.range 8).any fun k => decide (firstIdx sTo c.toUInt8 = (k : Int)) && decide (sEsc.data[k]?.map UInt8.toNat = some e) && decide (c ≠ 47) && decide (e < 128)
  | none => decide (firstIdx sTo c.toUInt8 = -1) || decide (c = 47)
theorem quo_all : (List.range 128).all quoTest = true := by kernel_rfl
theorem quo_some {c e : Nat} (hc : c < 128) (h : esc2 c = some e) : ∃ k : Nat, firstIdx sTo c.toUInt8 = (k : Int) ∧ k < 8 ∧ (∀ h : k < sEsc.data.size, (sEsc.data[k]'h).toNat = e) ∧ c ≠ 47 ∧ e < 128 := by
  have := List.all_eq_true.1 quo_all c (by simpa using hc)
  simp only [quoTest, h, List.any_eq_true, List.mem_range, Bool.and_eq_true, decide_eq_true_eq] at this
  obtain ⟨k, k1, ⟨⟨k2, k3⟩, k4⟩, k5⟩ := this
  refine ⟨k, k2, k1, fun h => ?_, k4, k5⟩
  rw [Array.getElem?_eq_getElem h, Option.map_some, Option.some.injEq] at k3
  exact k3
theorem quo_none {c : Nat} (hc : c < 128) (h : esc2 c = none) : firstIdx sTo c.toUInt8 = -1 ∨ c = 47 := by
  have := List.all_eq_true.1 quo_all c (by simpa using hc)
  simpa only [quoTest, h, Bool.or_eq_true, decide_eq_true_eq] using this
theorem hex_all : (List.range 16).all (fun d => decide (sHex.data[d]?.map UInt8.toNat = some (hx d))) = true := by kernel_rfl
theorem hex_at {d : Nat} (h : d < 16) : ∀ h : d < sHex.data.size, (sHex.data[d]'h).toNat = hx d := by
  intro h1
  have := List.all_eq_true.1 hex_all d (by simpa using h)
  rw [decide_eq_true_eq, Array.getElem?_eq_getElem h1, Option.map_some, Option.some.injEq] at this
  exact this
theorem hx_lt {d : Nat} (h : d < 16) : hx d < 256 := by
  unfold hx
  split <;> omega
theorem g_and15 (x : Nat) (hx : x < 32) : IntKind.i32.wrap ((x % 2 ^ IntKind.i32.bits &&& 15 % 2 ^ IntKind.i32.bits : Nat) : Int) = ((x % 16 : Nat) : Int) := by
  rw [show x % 2 ^ IntKind.i32.bits = x by simp only [IntKind.bits]; omega, show (15 % 2 ^ IntKind.i32.bits : Nat) = 2 ^ 4 - 1 by rfl, Nat.and_two_pow_sub_one_eq_mod, wrap_i32] <;> omega
attribute [local simp] nextPV rangePV
attribute [local simp] w0_json_quoted j0_json_quoted j1_json_quoted b_json_quoted a_json_quoted
/-- Where the loop stands. -/
abbrev qE (l : List UInt8) (s : ByteArray) (pos : Nat) : Env := [(0, .own 1 (bl l)), (10, .dead), (12, .iter s pos), (20, .dead), (32, .dead), (44, .dead), (100000, .dead)]
theorem quo_esc (l : List UInt8) (s : ByteArray) (pos c e : Nat) (hp : pos < s.size) (hd : Utf8.decode s pos = (c, 1)) (hc : c < 128) (h : esc2 c = some e) (hl : l.length ≤ 134217728) :
    Exec T l0_json_quoted (qE l s pos) = Exec T l0_json_quoted (qE (l ++ qb c) s (pos + 1)) := by
  obtain ⟨k, k1, k2, k3, k4, k5⟩ := quo_some hc h
  have hi := ir_low c hc
  rw [k1] at hi
  have e1 : (⟨#[34, 92, 47, 8, 12, 10, 13, 9]⟩ : ByteArray) = sTo := rfl
  have e2 : (⟨#[34, 92, 47, 98, 102, 110, 114, 116]⟩ : ByteArray) = sEsc := rfl
  have e3 : sEsc.size = 8 := rfl
  have hq : bl (l ++ qb c) = bl l ++ [.v (.int .u8 92), .v (.int .u8 (e : Nat))] := by
    simp only [qb, h, ← bl_append]
    congr 1
    simp only [bl, List.map_cons, List.map_nil, UInt8.toNat_ofNat']
    rw [Nat.mod_eq_of_lt (by omega)]
    rfl
  have g4 : ¬ (c : Int) = 47 := by omega
  have l1 : l.length ≤ 140737488355326 := by omega
  have l2 : l.length ≤ 4611686018427387902 := by omega
  have hd1 : (Utf8.decode s pos).1 = c := by rw [hd]
  have hd2 : (Utf8.decode s pos).2 = 1 := by rw [hd]
  simp only [qE]
  rw [hq, ex0_json_quoted]
  generalize sTo = S at *
  generalize sEsc = S2 at *
  simp [hp, hd1, hd2, hi, e1, e2, e3, k2, k3, k4, g4, l1, l2]
theorem quo_ctl (l : List UInt8) (s : ByteArray) (pos c : Nat) (hp : pos < s.size) (hd : Utf8.decode s pos = (c, 1)) (hc : c < 32) (h : esc2 c = none) (hl : l.length ≤ 134217728) :
    Exec T l0_json_quoted (qE l s pos) = Exec T l0_json_quoted (qE (l ++ qb c) s (pos + 1)) := by
  have hi := ir_low c (by omega)
  rw [(quo_none (by omega) h).resolve_right (by omega)] at hi
  have e1 : (⟨#[34, 92, 47, 8, 12, 10, 13, 9]⟩ : ByteArray) = sTo := rfl
  have e2 : (⟨#[48, 49, 50, 51, 52, 53, 54, 55, 56, 57, 97, 98, 99, 100, 101, 102]⟩ : ByteArray) = sHex := rfl
  have e3 : sHex.size = 16 := rfl
  have x1 := hex_at (show c / 16 < 16 by omega)
  have x2 := hex_at (show c % 16 < 16 by omega)
  have y1 := hx_lt (show c / 16 < 16 by omega)
  have y2 := hx_lt (show c % 16 < 16 by omega)
  have b1 : c / 16 < 16 := by omega
  have b2 : c % 16 < 16 := by omega
  have s1 := g_shr c 4 (by decide)
  have s2 := g_and15 c hc
  rw [show (2 ^ 4 : Nat) = 16 from rfl] at s1
  have hq : bl (l ++ qb c) = bl l ++ [.v (.int .u8 92), .v (.int .u8 117), .v (.int .u8 48), .v (.int .u8 48), .v (.int .u8 (hx (c / 16) : Nat)), .v (.int .u8 (hx (c % 16) : Nat))] := by
    simp only [qb, h, if_pos hc, ← bl_append]
    congr 1
    simp only [bl, List.map_cons, List.map_nil, UInt8.toNat_ofNat']
    rw [Nat.mod_eq_of_lt y1, Nat.mod_eq_of_lt y2]
    rfl
  have g4 : ¬ (c : Int) = 47 := by omega
  have g5 : (c : Int) < 32 := by omega
  have g6 : ¬ c = 47 := by omega
  have l1 : l.length ≤ 140737488355322 := by omega
  have l2 : l.length ≤ 4611686018427387898 := by omega
  have hd1 : (Utf8.decode s pos).1 = c := by rw [hd]
  have hd2 : (Utf8.decode s pos).2 = 1 := by rw [hd]
  simp only [qE]
  rw [hq, ex0_json_quoted]
  generalize hx (c / 16) = h1 at *
  generalize hx (c % 16) = h2 at *
  generalize c / 16 = d1 at *
  generalize c % 16 = d2 at *
  generalize sTo = S at *
  generalize sHex = S2 at *
  simp [hp, hd1, hd2, hi, e1, e2, e3, g4, g5, g6, hc, l1, l2, s1, s2, x1, x2, b1, b2]
theorem quo_rune (l : List UInt8) (s : ByteArray) (pos r w : Nat) (k : Int) (hp : pos < s.size) (hd : Utf8.decode s pos = (r, w)) (hr : r < 55296 ∨ (57344 ≤ r ∧ r ≤ 1114111)) (hi : Cinf T n_strings_IndexRune [.v (.string sTo), .v (.int .i32 r)] = some (.v (.int .i64 k), [.dead, .dead])) (hk : k = -1 ∨ r = 47) (h32 : 32 ≤ r) (hl : l.length ≤ 134217728) :
    Exec T l0_json_quoted (qE l s pos) = Exec T l0_json_quoted (qE (l ++ Lib.encodeRune (r : Int)) s (pos + w)) := by
  have ha := c_AppendRune l r hr hl
  have e1 : (⟨#[34, 92, 47, 8, 12, 10, 13, 9]⟩ : ByteArray) = sTo := rfl
  have g5 : ¬ (r : Int) < 32 := by omega
  have g6 : ¬ r < 32 := by omega
  have hd1 : (Utf8.decode s pos).1 = r := by rw [hd]
  have hd2 : (Utf8.decode s pos).2 = w := by rw [hd]
  simp only [qE]
  rw [ex0_json_quoted]
  generalize Lib.encodeRune (r : Int) = q at *
  generalize sTo = S at *
  by_cases h47 : r = 47
  · subst h47
    have h47 : ((47 : Nat) : Int) = 47 := rfl
    rw [h47] at hi ha
    simp [hp, hd1, hd2, hi, e1, ha]
  · have hk2 := hk.resolve_right h47
    subst hk2
    have g4 : ¬ (r : Int) = 47 := by omega
    simp [hp, hd1, hd2, hi, e1, ha, g4, g5, g6, h47]
theorem qb_self {c : Nat} (h : 128 ≤ c) (h2 : c < 256) : qb c = [UInt8.ofNat c] := by
  unfold qb esc2
  rw [if_neg (by omega), if_neg (by omega), if_neg (by omega), if_neg (by omega), if_neg (by omega), if_neg (by omega), if_neg (by omega)]
  simp only
  rw [if_neg (by omega)]
theorem qL_high : ∀ {L : List UInt8}, (∀ b ∈ L, 128 ≤ b.toNat) → qL L = L
  | [], _ => rfl
  | b :: r, h => by
    have h1 := qL_high (L := r) fun x hx => h x (by simp [hx])
    unfold qL at h1 ⊢
    rw [List.flatMap_cons, h1, qb_self (h b (by simp)) (UInt8.toNat_lt _)]
    simp
theorem qb_plain {c : Nat} (h : 32 ≤ c) (h2 : esc2 c = none) : qb c = [UInt8.ofNat c] := by
  unfold qb
  rw [h2]
  simp only
  rw [if_neg (by omega)]
theorem enc_one {c : Nat} (h : c < 128) : Lib.encodeRune (c : Int) = [UInt8.ofNat c] := by
  rw [Lib.encodeRune, Lib.encodeRuneZ_one (by omega) (by omega)]
  simp [Nat.toUInt8]
/-- A character of more than one byte: its bytes are from 128 on. -/
theorem high_bytes (M : List UInt8) (h0 : 0 < M.length) (hu : uc M ≠ 0) (h : 128 ≤ lt M 0) : ∀ b ∈ M.take (uc M), 128 ≤ b.toNat := by
  intro b hb
  obtain ⟨i, hi, rfl⟩ := List.getElem_of_mem hb
  rw [List.length_take] at hi
  have hle := uc_le M
  rw [List.getElem_take]
  have hl : (M[i]'(by omega)).toNat = lt M i := by
    unfold lt
    rw [List.getElem?_eq_getElem (by omega), Option.getD_some]
  rw [hl]
  have i1 := in1_iff (lt M 0) (lt M 1)
  have c1 := cont_iff (lt M 1)
  have c2 := cont_iff (lt M 2)
  have c3 := cont_iff (lt M 3)
  have hi2 : i < uc M := by omega
  have hi4 : i = 0 ∨ i = 1 ∨ i = 2 ∨ i = 3 := by omega
  unfold uc at hi2 hu
  rw [if_neg (by omega), if_neg (by omega)] at hi2 hu
  simp only [i1, c1, c2, c3] at hi2 hu
  rcases hi4 with rfl | rfl | rfl | rfl
  · exact h
  all_goals (split at hi2 <;> (try split at hi2) <;> (try split at hi2) <;> (try split at hi2) <;> (try split at hi2) <;> omega)
theorem quo_loop (s : ByteArray) : ∀ (n pos : Nat) (l : List UInt8), s.size - pos ≤ n → pos ≤ s.size → Lib.validGoD n (s.data.toList.drop pos) = true → l.length + 8 * (s.size - pos) ≤ 134217728 →
    Exec T l0_json_quoted (qE l s pos) = some (.exit 0, [(0, .own 1 (bl (l ++ qL (s.data.toList.drop pos)))), (10, .dead), (12, .iter s s.size), (13, .tup [.v (.bool false)]), (20, .dead), (32, .dead), (44, .dead), (100000, .dead)]) := by
  have hsz := size_list s
  have fin : ∀ (l : List UInt8), Exec T l0_json_quoted (qE l s s.size) = some (.exit 0, [(0, .own 1 (bl (l ++ qL (s.data.toList.drop s.size)))), (10, .dead), (12, .iter s s.size), (13, .tup [.v (.bool false)]), (20, .dead), (32, .dead), (44, .dead), (100000, .dead)]) := by
    intro l
    rw [List.drop_of_length_le (by omega), show qL [] = [] from rfl, List.append_nil, ex0_json_quoted]
    simp
  intro n
  induction n with
  | zero =>
    intro pos l hn hp _ _
    obtain rfl : pos = s.size := by omega
    exact fin l
  | succ n ih =>
    intro pos l hn hp hv hl
    by_cases h0 : pos = s.size
    · subst h0
      exact fin l
    have hlt : pos < s.size := by omega
    have hM : 0 < (s.data.toList.drop pos).length := by rw [List.length_drop]; omega
    have hdec := Lib.decodeL_drop s pos
    have hne : s.data.toList.drop pos ≠ [] := fun h => by rw [h] at hM; simp at hM
    simp only [Lib.validGoD, if_neg hne] at hv
    have hle := uc_le (s.data.toList.drop pos)
    have hsd : (s.data.toList.drop pos).length = s.size - pos := by rw [List.length_drop, hsz]
    rcases dec_uc (s.data.toList.drop pos) hM with ⟨u1, u2⟩ | ⟨u1, u2, u3, u4, u5, u6, u7⟩
    · rw [u2, if_pos ⟨rfl, rfl⟩] at hv
      cases hv
    rw [if_neg (fun h => u3 (Prod.ext h.1 h.2)), u2, List.drop_drop] at hv
    have hsplit : qL (s.data.toList.drop pos) = qL ((s.data.toList.drop pos).take (uc (s.data.toList.drop pos))) ++ qL (s.data.toList.drop (pos + uc (s.data.toList.drop pos))) := by
      have := List.take_append_drop (uc (s.data.toList.drop pos)) (s.data.toList.drop pos)
      rw [List.drop_drop] at this
      conv => lhs; rw [← this]
      unfold qL
      rw [List.flatMap_append]
    have step : ∀ q : List UInt8, Exec T l0_json_quoted (qE l s pos) = Exec T l0_json_quoted (qE (l ++ q) s (pos + uc (s.data.toList.drop pos))) → qL ((s.data.toList.drop pos).take (uc (s.data.toList.drop pos))) = q → q.length ≤ 8 →
        Exec T l0_json_quoted (qE l s pos) = some (.exit 0, [(0, .own 1 (bl (l ++ qL (s.data.toList.drop pos)))), (10, .dead), (12, .iter s s.size), (13, .tup [.v (.bool false)]), (20, .dead), (32, .dead), (44, .dead), (100000, .dead)]) := by
      intro q h1 h2 h3
      rw [h1, ih _ _ (by omega) (by omega) hv (by rw [List.length_append]; omega), hsplit, h2, List.append_assoc]
    have hpair : Utf8.decode s pos = ((Lib.decodeL (s.data.toList.drop pos)).1, uc (s.data.toList.drop pos)) := by
      rw [← hdec, ← u2]
    by_cases hlow : lt (s.data.toList.drop pos) 0 < 128
    · have h6 := u6 hlow
      have hu1 : uc (s.data.toList.drop pos) = 1 := by rw [← u2, h6]
      rw [h6] at hpair
      simp only [hu1] at hpair step hle hsd
      have hcs := lt_small (s.data.toList.drop pos) 0
      have htake : (s.data.toList.drop pos).take 1 = [UInt8.ofNat (lt (s.data.toList.drop pos) 0)] := by
        rw [Lib.takeA _ hM]
        congr 1
        rw [← lt_getD]
        simp
      rw [htake] at step
      generalize lt (s.data.toList.drop pos) 0 = c at *
      have hqc : qL [UInt8.ofNat c] = qb c := by
        unfold qL
        simp only [List.flatMap_cons, List.flatMap_nil, List.append_nil, UInt8.toNat_ofNat']
        rw [Nat.mod_eq_of_lt (by omega)]
      rw [hqc] at step
      have hq8 : (qb c).length ≤ 8 := by
        unfold qb
        split
        · simp
        · split <;> simp
      cases he : esc2 c with
      | some e => exact step _ (quo_esc l s pos c e hlt hpair hlow he (by omega)) rfl hq8
      | none =>
        by_cases h32 : c < 32
        · exact step _ (quo_ctl l s pos c hlt hpair h32 he (by omega)) rfl hq8
        · have hb := qb_plain (show 32 ≤ c by omega) he
          have hr := quo_rune l s pos c 1 _ hlt hpair (by omega) (ir_low c hlow) (quo_none hlow he) (by omega) (by omega)
          rw [enc_one hlow, ← hb] at hr
          exact step _ hr rfl hq8
    · have h7 := u7 (by omega)
      have henc := Lib.encode_decode (s.data.toList.drop pos) hne (fun h => u3 (Prod.ext h.1 h.2))
      rw [u2] at henc
      have hq := qL_high (high_bytes (s.data.toList.drop pos) hM u1 (by omega))
      have hi : Cinf T n_strings_IndexRune [.v (.string sTo), .v (.int .i32 ((Lib.decodeL (s.data.toList.drop pos)).1 : Nat))] = some (.v (.int .i64 (-1)), [.dead, .dead]) := by
        by_cases hE : (Lib.decodeL (s.data.toList.drop pos)).1 = 65533
        · rw [hE]
          exact ir_err
        · exact ir_high _ (by omega) (by omega) (by omega)
      have hr := quo_rune l s pos _ _ _ hlt hpair (by omega) hi (.inl rfl) (by omega) (by omega)
      rw [henc] at hr
      refine step _ hr hq ?_
      rw [List.length_take]
      omega
end Go.AM.F

/- JSON: quoted, of the program and of the document. No conditions. -/
namespace Go.AM.F
open Go Go.AM
set_option maxRecDepth 10000
set_option linter.unusedSimpArgs false

section
attribute [local simp] nextPV rangePV
attribute [local simp] j1_json_quoted b_json_quoted a_json_quoted
theorem c_quoted (X : PV) (l : List UInt8) (s : ByteArray) (hX : X = .own 1 (bl l) ∨ (X = .nil 1 ∧ l = [])) (hv : okU s = true) (hl : l.length + 8 * s.size ≤ 100000000) :
    Cinf T n_json_quoted [X, .v (.string s)] = some (.own 1 (bl (l ++ quote s.data.toList)), [.dead, .dead]) := by
  have hsz := size_list s
  have hv2 : Lib.validGoD s.size (s.data.toList.drop 0) = true := by
    rw [List.drop_zero, ← hsz]
    exact hv
  have h0 := quo_loop s s.size 0 (l ++ [34]) (by omega) (Nat.zero_le _) hv2 (by rw [List.length_append]; simp; omega)
  rw [List.drop_zero] at h0
  have hq : qL s.data.toList = qL s.data.toList := rfl
  have e1 : bl (l ++ [34]) = bl l ++ [.v (.int .u8 34)] := by rw [← bl_append]; rfl
  have e2 : bl (l ++ quote s.data.toList) = bl (l ++ [34] ++ qL s.data.toList) ++ [.v (.int .u8 34)] := by
    rw [show ([PV.v (.int .u8 34)] : List PV) = bl [34] from rfl, bl_append]
    simp [quote]
  simp only [qE] at h0
  rw [e1] at h0
  rw [e2]
  have hlen : (l ++ [34] ++ qL s.data.toList).length ≤ 134217728 := by
    have : ∀ L : List UInt8, (qL L).length ≤ 6 * L.length := by
      intro L
      induction L with
      | nil => simp [qL]
      | cons b r ih =>
        unfold qL at ih ⊢
        rw [List.flatMap_cons, List.length_append, List.length_cons]
        have : (qb b.toNat).length ≤ 6 := by
          unfold qb
          split
          · simp
          · split <;> simp
        omega
    have h6 := this s.data.toList
    rw [List.length_append, List.length_append]
    simp only [List.length_cons, List.length_nil]
    omega
  generalize l ++ [34] ++ qL s.data.toList = q at *
  have l1 : l.length ≤ 140737488355327 := by omega
  have l2 : l.length ≤ 4611686018427387903 := by omega
  have l3 : q.length ≤ 140737488355327 := by omega
  have l4 : q.length ≤ 4611686018427387903 := by omega
  rcases hX with rfl | ⟨rfl, rfl⟩
  · simp [run_json_quoted, Run, home, h0, l1, l2, l3, l4]
  · rw [show bl [] = ([] : List PV) from rfl, List.nil_append] at h0
    simp [run_json_quoted, Run, home, h0, l3, l4]
end
/-! ### The document's -/
def nameE (k v : Int) (c : Nat) : MapEntry := ⟨.int .u8 k, .int .u8 v, c⟩
def namesE : List MapEntry := [nameE 34 34 0, nameE 92 92 1, nameE 8 98 2, nameE 12 102 3, nameE 10 110 4, nameE 13 114 5, nameE 9 116 6]
def namesTest (c : Nat) : Bool := match Instr.findNow (kdOf (some .u8)) (.int .u8 (c : Int)) namesE 0, esc2 c with
  | some (some (_, .int .u8 z)), some e => decide (z = (e : Int)) && decide (e ≠ 0) && decide (e < 128)
  | some none, none => true
  | _, _ => false
theorem names_all : (List.range 256).all namesTest = true := by kernel_rfl
theorem names_some {c e : Nat} (hc : c < 256) (h : esc2 c = some e) : e ≠ 0 ∧ e < 128 ∧ ∃ i, Instr.findNow (kdOf (some .u8)) (.int .u8 (c : Int)) namesE 0 = some (some (i, .int .u8 (e : Int))) := by
  have := List.all_eq_true.1 names_all c (by simpa using hc)
  unfold namesTest at this
  rw [h] at this
  split at this
  · rename_i i z e' h1 h2
    cases h2
    simp only [Bool.and_eq_true, decide_eq_true_eq] at this
    obtain ⟨⟨h3, h4⟩, h5⟩ := this
    subst h3
    exact ⟨h4, h5, _, h1⟩
  · rename_i h2
    cases h2
  · cases this
theorem names_none {c : Nat} (hc : c < 256) (h : esc2 c = none) : Instr.findNow (kdOf (some .u8)) (.int .u8 (c : Int)) namesE 0 = some none := by
  have := List.all_eq_true.1 names_all c (by simpa using hc)
  unfold namesTest at this
  rw [h] at this
  split at this
  · rename_i h1 h2
    cases h2
  · rename_i h1 h2
    exact h1
  · cases this
theorem one_int2 (k : IntKind) (v : Int) : (Value.int k v).oneCell' = true := rfl
attribute [local simp] one_int2
abbrev rqE (s : ByteArray) (l : List UInt8) (i : Nat) : Env := [(0, .v (.string s)), (3, .own 1 (bl l)), (4, .mapc namesE 7), (5, .v (.int .i64 i)), (7, .dead), (8, .dead), (9, .ref 8 []), (22, .dead), (33, .dead), (45, .dead), (48, .dead)]
theorem qL_le : ∀ L : List UInt8, (qL L).length ≤ 6 * L.length
  | [] => by simp [qL]
  | b :: r => by
    have ih := qL_le r
    unfold qL at ih ⊢
    rw [List.flatMap_cons, List.length_append, List.length_cons]
    have : (qb b.toNat).length ≤ 6 := by
      unfold qb
      split
      · simp
      · split <;> simp
    omega
end Go.AM.F

/- JSON: what is written of a value; the program's write: lists and objects. No conditions. -/
namespace Go.AM.F
open Go Go.AM
set_option maxRecDepth 10000
set_option linter.unusedSimpArgs false

mutual
/-- What is written of a value. -/
def J.out : J → List UInt8
  | .mk k t ns is =>
    if k = 1 then [110, 117, 108, 108] else if k = 2 then [102, 97, 108, 115, 101] else if k = 3 then [116, 114, 117, 101]
    else if k = 4 then t.data.toList else if k = 5 then quote t.data.toList
    else if k = 7 then [123] ++ J.outL true ns is true ++ [125] else [91] ++ J.outL false ns is true ++ [93]
def J.outL : Bool → List ByteArray → List J → Bool → List UInt8
  | _, _, [], _ => []
  | o, ns, j :: r, first => (if first then [] else [44]) ++ (if o then quote (ns.headD eS).data.toList ++ [58] else []) ++ j.out ++ J.outL o ns.tail r false
end
theorem quote_le (L : List UInt8) : (quote L).length ≤ 6 * L.length + 2 := by
  have := qL_le L
  simp only [quote, List.length_append, List.length_cons, List.length_nil]
  omega
/-- The weight of what is still to be written. -/
def restW (ns : List ByteArray) (is : List J) : Nat := J.wtL is + (ns.map ByteArray.size).sum + ns.length
theorem restW_cons (s : ByteArray) (ns : List ByteArray) (j : J) (is : List J) : restW (s :: ns) (j :: is) = j.wt + s.size + 1 + restW ns is := by
  simp only [restW, J.wtL, List.map_cons, List.sum_cons, List.length_cons]
  omega
theorem wt_pos (j : J) : 1 ≤ j.wt := by
  obtain ⟨k, t, ns, is⟩ := j
  simp only [J.wt]
  omega
mutual
theorem out_le : ∀ (j : J), j.right = true → j.out.length + 1 ≤ 8 * j.wt
  | .mk k t ns is, h => by
    have ht := size_list t
    have hq := quote_le t.data.toList
    simp only [J.out, J.wt]
    simp only [J.right] at h
    by_cases c1 : k = 1
    · rw [if_pos c1]; simp; omega
    rw [if_neg c1]
    by_cases c2 : k = 2
    · rw [if_pos c2]; simp; omega
    rw [if_neg c2]
    by_cases c3 : k = 3
    · rw [if_pos c3]; simp; omega
    rw [if_neg c3]
    rw [if_neg (by omega)] at h
    by_cases c4 : k = 4
    · rw [if_pos c4]; omega
    rw [if_neg c4] at h ⊢
    by_cases c5 : k = 5
    · rw [if_pos c5]; omega
    rw [if_neg c5] at h ⊢
    by_cases c6 : k = 6
    · rw [if_pos c6] at h
      rw [if_neg (by omega)]
      simp only [Bool.and_eq_true, decide_eq_true_eq] at h
      have := outL_le false ns is true h.2 (fun h => by cases h)
      simp only [restW, Bool.false_eq_true, if_false] at this
      simp only [List.length_append, List.length_cons, List.length_nil]
      omega
    rw [if_neg c6] at h
    by_cases c7 : k = 7
    · rw [if_pos c7] at h ⊢
      simp only [Bool.and_eq_true, decide_eq_true_eq] at h
      have := outL_le true ns is true h.2 (fun _ => h.1.1.2)
      simp only [restW, if_true] at this
      simp only [List.length_append, List.length_cons, List.length_nil]
      omega
    · rw [if_neg c7] at h
      cases h
theorem outL_le : ∀ (o : Bool) (ns : List ByteArray) (is : List J) (b : Bool), J.rightL is = true → (o = true → ns.length = is.length) → (J.outL o ns is b).length ≤ if o then 8 * restW ns is else 8 * J.wtL is
  | o, ns, [], b, _, _ => by simp [J.outL]
  | o, ns, j :: r, b, h, hn => by
    simp only [J.rightL, Bool.and_eq_true] at h
    have h1 := out_le j h.1
    have hb : (if b = true then ([] : List UInt8) else [44]).length ≤ 1 := by split <;> simp
    cases o with
    | false =>
      have h2 := outL_le false ns.tail r false h.2 (fun h => by cases h)
      simp only [Bool.false_eq_true, if_false] at h2
      simp only [J.outL, J.wtL, Bool.false_eq_true, if_false, List.append_nil, List.length_append]
      omega
    | true =>
      have hn2 := hn rfl
      cases ns with
      | nil => simp at hn2
      | cons s q =>
        have h2 := outL_le true q r false h.2 (fun _ => by simpa using hn2)
        have hq := quote_le s.data.toList
        have hs := size_list s
        simp only [if_true] at h2
        simp only [J.outL, if_true, restW_cons, List.length_append, List.headD_cons, List.tail_cons, List.length_cons, List.length_nil]
        omega
end
attribute [local simp] j0_json_write j1_json_write j2_json_write j3_json_write w0_json_write
abbrev wE (k : Int) (t : ByteArray) (ns : List ByteArray) (is : List J) (ends : ByteArray) (l : List UInt8) (i : Nat) : Env :=
  [(0, .own 1 (bl l)), (3, jB k t ns is), (5, .v (.string ends)), (41, .dead), (42, .addr 3 3), (43, .ro 4 (is.map J.pv)), (44, .v (.int .i64 is.length)), (45, .v (.int .i64 i)), (54, .dead), (66, .dead), (69, .dead), (100000, .dead)]
/-- Calls of write. -/
def WrOK (x : J) : Prop := ∀ l : List UInt8, l.length + 8 * x.wt ≤ 90000000 → Cinf T n_json_write [.own 1 (bl l), x.pv] = some (.own 1 (bl (l ++ x.out)), [.dead, .dead])
theorem wr_list (k : Int) (hk : ¬ k = 7) (t : ByteArray) (ns : List ByteArray) (is : List J) (ends : ByteArray) (hl : is.length ≤ 1048576) (hr : J.rightL is = true) (ih : ∀ x ∈ is, WrOK x) : ∀ (n i : Nat) (l : List UInt8) (ms : List ByteArray), is.length - i = n → i ≤ is.length → l.length + 8 * J.wtL (is.drop i) + min i 1 ≤ 90000000 →
    Exec T l0_json_write (wE k t ns is ends l i) = some (.exit 1, wE k t ns is ends (l ++ J.outL false ms (is.drop i) (decide (i = 0))) is.length) := by
  intro n
  induction n with
  | zero =>
    intro i l ms hn hi _
    obtain rfl : i = is.length := by omega
    rw [List.drop_length]
    simp only [wE, jB]
    rw [ex0_json_write]
    simp [J.outL]
  | succ n ihn =>
    intro i l ms hn hi hb
    have hlt : i < is.length := by omega
    obtain ⟨j, hj⟩ : ∃ j, is[i] = j := ⟨_, rfl⟩
    have hjm : j ∈ is := by rw [← hj]; exact List.getElem_mem hlt
    have hd : is.drop i = j :: is.drop (i + 1) := by rw [List.drop_eq_getElem_cons hlt, hj]
    have hw := wrap_succ hlt (by omega)
    rw [hd] at hb ⊢
    simp only [J.wtL] at hb
    have hrj : j.right = true := by
      have : ∀ {q : List J}, J.rightL q = true → ∀ x ∈ q, x.right = true := by
        intro q
        induction q with
        | nil => intro _ x hx; simp at hx
        | cons y z ihq =>
          intro h x hx
          simp only [J.rightL, Bool.and_eq_true] at h
          rcases List.mem_cons.1 hx with rfl | hx
          · exact h.1
          · exact ihq h.2 x hx
      exact this hr j hjm
    have hle := out_le j hrj
    have hpos := wt_pos j
    by_cases h0 : i = 0
    · subst h0
      rw [Nat.zero_add] at hb
      have hc := ih j hjm l (by omega)
      have h1 := ihn 1 (l ++ j.out) ms.tail (by omega) (by omega) (by rw [List.length_append]; omega)
      have ho : l ++ J.outL false ms (j :: is.drop (0 + 1)) (decide (0 = 0)) = l ++ j.out ++ J.outL false ms.tail (is.drop 1) (decide (1 = 0)) := by
        simp [J.outL]
      rw [ho, ← h1]
      simp only [wE, jB]
      rw [ex0_json_write]
      generalize j.out = q at *
      obtain ⟨k1, t1, ns1, is1⟩ := j
      simp only [J.pv_mk] at hc
      simp [hlt, hj, J.pv_mk, hc, hk]
    · have hc := ih j hjm (l ++ [44]) (by simp only [List.length_append, List.length_cons, List.length_nil]; omega)
      have h1 := ihn (i + 1) (l ++ [44] ++ j.out) ms.tail (by omega) (by omega) (by simp only [List.length_append, List.length_cons, List.length_nil]; omega)
      have ho : l ++ J.outL false ms (j :: is.drop (i + 1)) (decide (i = 0)) = l ++ [44] ++ j.out ++ J.outL false ms.tail (is.drop (i + 1)) (decide (i + 1 = 0)) := by
        simp [J.outL, h0]
      have e1 : bl (l ++ [44]) = bl l ++ [.v (.int .u8 44)] := by rw [← bl_append]; rfl
      have l1 : l.length ≤ 140737488355327 := by omega
      have l2 : l.length ≤ 4611686018427387903 := by omega
      have h0' : 0 < i := by omega
      rw [ho, ← h1]
      simp only [wE, jB, succ_cast]
      rw [ex0_json_write]
      rw [e1] at hc
      generalize bl (l ++ [44] ++ j.out) = q at *
      obtain ⟨k1, t1, ns1, is1⟩ := j
      simp only [J.pv_mk] at hc
      simp [hlt, hj, J.pv_mk, hc, hk, hw, h0, h0', l1, l2]
end Go.AM.F

/- JSON: the program's write: objects, then every value. No conditions. -/
namespace Go.AM.F
open Go Go.AM
set_option maxRecDepth 10000
set_option linter.unusedSimpArgs false

attribute [local simp] j0_json_write j1_json_write j2_json_write j3_json_write w0_json_write
theorem rightL_mem : ∀ {q : List J}, J.rightL q = true → ∀ x ∈ q, x.right = true := by
  intro q
  induction q with
  | nil => intro _ x hx; simp at hx
  | cons y z ihq =>
    intro h x hx
    simp only [J.rightL, Bool.and_eq_true] at h
    rcases List.mem_cons.1 hx with rfl | hx
    · exact h.1
    · exact ihq h.2 x hx
theorem wr_obj (t : ByteArray) (ns : List ByteArray) (is : List J) (ends : ByteArray) (hl : is.length ≤ 1048576) (hr : J.rightL is = true) (hn0 : ns.length = is.length) (hu : ns.all okU = true) (ih : ∀ x ∈ is, WrOK x) : ∀ (n i : Nat) (l : List UInt8), is.length - i = n → i ≤ is.length → l.length + 8 * restW (ns.drop i) (is.drop i) + min i 1 ≤ 90000000 →
    Exec T l0_json_write (wE 7 t ns is ends l i) = some (.exit 1, wE 7 t ns is ends (l ++ J.outL true (ns.drop i) (is.drop i) (decide (i = 0))) is.length) := by
  intro n
  induction n with
  | zero =>
    intro i l hn hi _
    obtain rfl : i = is.length := by omega
    rw [List.drop_length]
    simp only [wE, jB]
    rw [ex0_json_write]
    simp [J.outL]
  | succ n ihn =>
    intro i l hn hi hb
    have hlt : i < is.length := by omega
    have hlt2 : i < ns.length := by omega
    obtain ⟨j, hj⟩ : ∃ j, is[i] = j := ⟨_, rfl⟩
    obtain ⟨s, hs⟩ : ∃ s, ns[i] = s := ⟨_, rfl⟩
    have hjm : j ∈ is := by rw [← hj]; exact List.getElem_mem hlt
    have hsm : s ∈ ns := by rw [← hs]; exact List.getElem_mem hlt2
    have hd : is.drop i = j :: is.drop (i + 1) := by rw [List.drop_eq_getElem_cons hlt, hj]
    have hd2 : ns.drop i = s :: ns.drop (i + 1) := by rw [List.drop_eq_getElem_cons hlt2, hs]
    have hw := wrap_succ hlt (by omega)
    rw [hd, hd2] at hb ⊢
    rw [restW_cons] at hb
    have hrj : j.right = true := rightL_mem hr j hjm
    have hus : okU s = true := List.all_eq_true.1 hu s hsm
    have hle := out_le j hrj
    have hpos := wt_pos j
    have hq := quote_le s.data.toList
    have hsz := size_list s
    by_cases h0 : i = 0
    · subst h0
      rw [Nat.zero_add] at hb
      have hqc := c_quoted (.own 1 (bl l)) l s (.inl rfl) hus (by omega)
      have hc := ih j hjm (l ++ quote s.data.toList ++ [58]) (by simp only [List.length_append, List.length_cons, List.length_nil]; omega)
      have h1 := ihn 1 (l ++ quote s.data.toList ++ [58] ++ j.out) (by omega) (by omega) (by simp only [List.length_append, List.length_cons, List.length_nil]; omega)
      have ho : l ++ J.outL true (s :: ns.drop (0 + 1)) (j :: is.drop (0 + 1)) (decide (0 = 0)) = l ++ quote s.data.toList ++ [58] ++ j.out ++ J.outL true (ns.drop 1) (is.drop 1) (decide (1 = 0)) := by
        simp [J.outL]
      have e1 : bl (l ++ quote s.data.toList ++ [58]) = bl (l ++ quote s.data.toList) ++ [.v (.int .u8 58)] := by rw [show ([PV.v (.int .u8 58)] : List PV) = bl [58] from rfl, bl_append]
      have l0 : (bl (l ++ quote s.data.toList)).length = l.length + (quote s.data.toList).length := by simp
      have l1 : (bl (l ++ quote s.data.toList)).length ≤ 140737488355327 := by omega
      have l2 : (bl (l ++ quote s.data.toList)).length ≤ 4611686018427387903 := by omega
      rw [ho, ← h1]
      simp only [wE, jB]
      rw [ex0_json_write]
      rw [e1] at hc
      generalize bl (l ++ quote s.data.toList) = Q at *
      generalize bl (l ++ quote s.data.toList ++ [58] ++ j.out) = q at *
      obtain ⟨k1, t1, ns1, is1⟩ := j
      simp only [J.pv_mk] at hc
      simp [hlt, hlt2, hj, hs, J.pv_mk, hqc, hc, l1, l2]
    · have hqc := c_quoted (.own 1 (bl (l ++ [44]))) (l ++ [44]) s (.inl rfl) hus (by simp only [List.length_append, List.length_cons, List.length_nil]; omega)
      have hc := ih j hjm (l ++ [44] ++ quote s.data.toList ++ [58]) (by simp only [List.length_append, List.length_cons, List.length_nil]; omega)
      have h1 := ihn (i + 1) (l ++ [44] ++ quote s.data.toList ++ [58] ++ j.out) (by omega) (by omega) (by simp only [List.length_append, List.length_cons, List.length_nil]; omega)
      have ho : l ++ J.outL true (s :: ns.drop (i + 1)) (j :: is.drop (i + 1)) (decide (i = 0)) = l ++ [44] ++ quote s.data.toList ++ [58] ++ j.out ++ J.outL true (ns.drop (i + 1)) (is.drop (i + 1)) (decide (i + 1 = 0)) := by
        simp [J.outL, h0]
      have e0 : bl (l ++ [44]) = bl l ++ [.v (.int .u8 44)] := by rw [← bl_append]; rfl
      have e1 : bl (l ++ [44] ++ quote s.data.toList ++ [58]) = bl (l ++ [44] ++ quote s.data.toList) ++ [.v (.int .u8 58)] := by rw [show ([PV.v (.int .u8 58)] : List PV) = bl [58] from rfl, bl_append]
      have l0 : (bl (l ++ [44] ++ quote s.data.toList)).length = l.length + 1 + (quote s.data.toList).length := by
        simp
        omega
      have l1 : (bl (l ++ [44] ++ quote s.data.toList)).length ≤ 140737488355327 := by omega
      have l2 : (bl (l ++ [44] ++ quote s.data.toList)).length ≤ 4611686018427387903 := by omega
      have l3 : l.length ≤ 140737488355327 := by omega
      have l4 : l.length ≤ 4611686018427387903 := by omega
      have h0' : 0 < i := by omega
      rw [ho, ← h1]
      simp only [wE, jB, succ_cast]
      rw [ex0_json_write]
      rw [e1] at hc
      rw [e0] at hqc
      generalize bl (l ++ [44] ++ quote s.data.toList) = Q at *
      generalize bl (l ++ [44] ++ quote s.data.toList ++ [58] ++ j.out) = q at *
      obtain ⟨k1, t1, ns1, is1⟩ := j
      simp only [J.pv_mk] at hc
      simp [hlt, hlt2, hj, hs, J.pv_mk, hqc, hc, hw, h0, h0', l1, l2, l3, l4]
attribute [local simp] j4_json_write j5_json_write j6_json_write b_json_write a_json_write
/-- A value without values, written. -/
theorem wr_flat (k : Int) (t : ByteArray) (X : PV) (l : List UInt8) (hk : k = 1 ∨ k = 2 ∨ k = 3 ∨ k = 4 ∨ k = 5) (hX : X = .own 1 (bl l) ∨ (X = .nil 1 ∧ l = [])) (hr : (J.mk k t [] []).right = true) (hl : l.length + 8 * t.size ≤ 90000000) :
    Cinf T n_json_write [X, (J.mk k t [] []).pv] = some (.own 1 (bl (l ++ (J.mk k t [] []).out)), [.dead, .dead]) := by
  have l1 : l.length ≤ 140737488355323 := by omega
  have l2 : l.length ≤ 4611686018427387899 := by omega
  have l3 : l.length ≤ 140737488355324 := by omega
  have l4 : l.length ≤ 4611686018427387900 := by omega
  have hb0 : bl [] = ([] : List PV) := rfl
  simp only [J.pv_mk]
  rcases hk with rfl | rfl | rfl | rfl | rfl
  · have ho : bl (l ++ (J.mk 1 t [] []).out) = bl l ++ byteList ⟨#[110, 117, 108, 108]⟩ := by rw [byteList_bl, bl_append]; rfl
    have hz : (byteList ⟨#[110, 117, 108, 108]⟩).length = 4 := rfl
    rw [ho]
    rcases hX with rfl | ⟨rfl, rfl⟩ <;> simp [run_json_write, Run, home, hz, hb0, l3, l4]
  · have ho : bl (l ++ (J.mk 2 t [] []).out) = bl l ++ byteList ⟨#[102, 97, 108, 115, 101]⟩ := by rw [byteList_bl, bl_append]; rfl
    have hz : (byteList ⟨#[102, 97, 108, 115, 101]⟩).length = 5 := rfl
    rw [ho]
    rcases hX with rfl | ⟨rfl, rfl⟩ <;> simp [run_json_write, Run, home, hz, hb0, l1, l2]
  · have ho : bl (l ++ (J.mk 3 t [] []).out) = bl l ++ byteList ⟨#[116, 114, 117, 101]⟩ := by rw [byteList_bl, bl_append]; rfl
    have hz : (byteList ⟨#[116, 114, 117, 101]⟩).length = 4 := rfl
    rw [ho]
    rcases hX with rfl | ⟨rfl, rfl⟩ <;> simp [run_json_write, Run, home, hz, hb0, l3, l4]
  · have ho : bl (l ++ (J.mk 4 t [] []).out) = bl l ++ byteList t := by rw [byteList_bl, bl_append]; rfl
    have hz : (byteList t).length = t.size := by rw [byteList_bl]; simp
    have l5 : l.length + t.size ≤ 140737488355328 := by omega
    have l6 : l.length + t.size ≤ 4611686018427387904 := by omega
    have l7 : t.size ≤ 140737488355328 := by omega
    have l8 : t.size ≤ 4611686018427387904 := by omega
    rw [ho]
    rcases hX with rfl | ⟨rfl, rfl⟩
    · simp [run_json_write, Run, home, hz, l5, l6]
    · simp [run_json_write, Run, home, hz, hb0, l7, l8]
  · have hu : okU t = true := by simpa [J.right] using hr
    have hq := c_quoted X l t hX hu (by omega)
    have ho : (J.mk 5 t [] []).out = quote t.data.toList := rfl
    rw [ho]
    generalize bl (l ++ quote t.data.toList) = Q at *
    rcases hX with rfl | ⟨rfl, rfl⟩
    · generalize bl l = Y at *
      simp [run_json_write, Run, home, hq]
    · simp [run_json_write, Run, home, hq]
/-- A list or an object, written. -/
theorem wr_many (k : Int) (hk : k = 6 ∨ k = 7) (t : ByteArray) (ns : List ByteArray) (is : List J) (X : PV) (l : List UInt8) (o c : UInt8) (e : List UInt8) (hX : X = .own 1 (bl l) ∨ (X = .nil 1 ∧ l = [])) (hl : l.length + e.length ≤ 100000000)
    (hoc : (k = 6 ∧ o = 91 ∧ c = 93) ∨ (k = 7 ∧ o = 123 ∧ c = 125))
    (h : Exec T l0_json_write (wE k t ns is ⟨#[o, c]⟩ (l ++ [o]) 0) = some (.exit 1, wE k t ns is ⟨#[o, c]⟩ (l ++ [o] ++ e) is.length)) :
    Cinf T n_json_write [X, (J.mk k t ns is).pv] = some (.own 1 (bl (l ++ ([o] ++ e ++ [c]))), [.dead, .dead]) := by
  have l1 : l.length ≤ 140737488355327 := by omega
  have l2 : l.length ≤ 4611686018427387903 := by omega
  have hb0 : bl [] = ([] : List PV) := rfl
  have l3 : (bl (l ++ [o] ++ e)).length ≤ 140737488355327 := by simp; omega
  have l4 : (bl (l ++ [o] ++ e)).length ≤ 4611686018427387903 := by omega
  have e1 : bl (l ++ [o]) = bl l ++ [.v (.int .u8 (o.toNat : Nat))] := by rw [← bl_append]; rfl
  have e2 : bl (l ++ ([o] ++ e ++ [c])) = bl (l ++ [o] ++ e) ++ [.v (.int .u8 (c.toNat : Nat))] := by
    rw [show ([PV.v (.int .u8 (c.toNat : Nat))] : List PV) = bl [c] from rfl, bl_append]
    simp
  simp only [wE, jB, Int.natCast_zero] at h
  rw [e1] at h
  simp only [J.pv_mk]
  rw [e2]
  generalize bl (l ++ [o] ++ e) = q at *
  have z1 : (⟨#[91, 93]⟩ : ByteArray).size = 2 := rfl
  have z2 : (⟨#[123, 125]⟩ : ByteArray).size = 2 := rfl
  rcases hoc with ⟨rfl, rfl, rfl⟩ | ⟨rfl, rfl, rfl⟩
  · have f1 : ((91 : UInt8).toNat : Int) = 91 := rfl
    have f2 : ((93 : UInt8).toNat : Int) = 93 := rfl
    rw [f1] at h
    rw [f2]
    rcases hX with rfl | ⟨rfl, rfl⟩
    · simp [run_json_write, Run, home, h, z1, z2, l1, l2, l3, l4, -w0_json_write]
    · rw [hb0, List.nil_append] at h
      simp [run_json_write, Run, home, h, z1, z2, l3, l4, -w0_json_write]
  · have f1 : ((123 : UInt8).toNat : Int) = 123 := rfl
    have f2 : ((125 : UInt8).toNat : Int) = 125 := rfl
    rw [f1] at h
    rw [f2]
    rcases hX with rfl | ⟨rfl, rfl⟩
    · simp [run_json_write, Run, home, h, z1, z2, l1, l2, l3, l4, -w0_json_write]
    · rw [hb0, List.nil_append] at h
      simp [run_json_write, Run, home, h, z1, z2, l3, l4, -w0_json_write]
theorem restW_all (k : Int) (t : ByteArray) (ns : List ByteArray) (is : List J) : (J.mk k t ns is).wt = restW ns is + t.size + 1 := by
  simp only [restW, J.wt]
  omega
theorem c_write : ∀ (j : J), j.Ok → j.right = true → ∀ (X : PV) (l : List UInt8), (X = .own 1 (bl l) ∨ (X = .nil 1 ∧ l = [])) → l.length + 8 * j.wt ≤ 90000000 → Cinf T n_json_write [X, j.pv] = some (.own 1 (bl (l ++ j.out)), [.dead, .dead])
  | .mk k t ns is, ⟨h1, h2, h3⟩, hr, X, l, hX, hl => by
    have ih : J.rightL is = true → ∀ x ∈ is, WrOK x := fun hrl x hm l' hl' => by
      exact c_write x (okL_mem h3 x hm) (rightL_mem hrl x hm) _ l' (.inl rfl) hl'
    have hwt := restW_all k t ns is
    by_cases c5 : k = 1 ∨ k = 2 ∨ k = 3 ∨ k = 4 ∨ k = 5
    · have he : ns = [] ∧ is = [] := by
        simp only [J.right] at hr
        rcases c5 with rfl | rfl | rfl | rfl | rfl <;> simp at hr <;> simp [hr]
      obtain ⟨rfl, rfl⟩ := he
      exact wr_flat k t X l c5 hX hr (by omega)
    simp only [not_or] at c5
    obtain ⟨d1, d2, d3, d4, d5⟩ := c5
    have hle := out_le (.mk k t ns is) hr
    simp only [J.right] at hr
    rw [if_neg (by omega), if_neg d4, if_neg d5] at hr
    by_cases c6 : k = 6
    · rw [if_pos c6] at hr
      simp only [Bool.and_eq_true, decide_eq_true_eq] at hr
      have hlw : J.wtL is ≤ restW ns is := by simp only [restW]; omega
      have g := wr_list k (by omega) t ns is ⟨#[91, 93]⟩ h2 hr.2 (ih hr.2) is.length 0 (l ++ [91]) ns rfl (Nat.zero_le _) (by rw [List.drop_zero]; simp; omega)
      rw [List.drop_zero, decide_eq_true rfl] at g
      have ho : (J.mk k t ns is).out = [91] ++ J.outL false ns is true ++ [93] := by
        simp only [J.out]
        rw [if_neg d1, if_neg d2, if_neg d3, if_neg d4, if_neg d5, if_neg (by omega)]
      rw [ho] at hle ⊢
      exact wr_many k (.inl c6) t ns is X l 91 93 _ hX (by simp only [List.length_append, List.length_cons, List.length_nil] at hle; omega) (.inl ⟨c6, rfl, rfl⟩) g
    rw [if_neg c6] at hr
    by_cases c7 : k = 7
    · rw [if_pos c7] at hr
      simp only [Bool.and_eq_true, decide_eq_true_eq] at hr
      subst c7
      have g := wr_obj t ns is ⟨#[123, 125]⟩ h2 hr.2 hr.1.1.2 hr.1.2 (ih hr.2) is.length 0 (l ++ [123]) rfl (Nat.zero_le _) (by rw [List.drop_zero, List.drop_zero]; simp; omega)
      rw [List.drop_zero, List.drop_zero, decide_eq_true rfl] at g
      have ho : (J.mk 7 t ns is).out = [123] ++ J.outL true ns is true ++ [125] := by
        simp only [J.out]
        rw [if_neg d1, if_neg d2, if_neg d3, if_neg d4, if_neg d5, if_pos trivial]
      rw [ho] at hle ⊢
      exact wr_many 7 (.inr rfl) t ns is X l 123 125 _ hX (by simp only [List.length_append, List.length_cons, List.length_nil] at hle; omega) (.inr ⟨rfl, rfl, rfl⟩) g
    · rw [if_neg c7] at hr
      cases hr
termination_by j => SizeOf.sizeOf j
decreasing_by
  have := List.sizeOf_lt_of_mem hm
  simp only [J.mk.sizeOf_spec]
  omega
end Go.AM.F

/- JSON: the document's printed. No conditions. -/
namespace Go.AM.F
open Go Go.AM
set_option maxRecDepth 10000
set_option linter.unusedSimpArgs false

theorem tx_cat (a b : List UInt8) : tx a ++ tx b = tx (a ++ b) := by
  apply ba_eq
  simp [tx]
theorem tx_all (s : ByteArray) : tx s.data.toList = s := by
  apply ba_eq
  simp [tx]
abbrev pE (k : Int) (t : ByteArray) (ns : List ByteArray) (is : List J) (ends : ByteArray) (l : List UInt8) (i : Nat) : Env :=
  [(1, jB k t ns is), (3, .v (.string (tx l))), (4, .v (.string ends)), (5, .v (.int .i64 i))]
end Go.AM.F

/- JSON: Print of both; the law JsonPrints. No conditions. -/
namespace Go.AM.F
open Go Go.AM
set_option maxRecDepth 10000
set_option linter.unusedSimpArgs false

section
end
/-- What Print answers: the text, what is wrong. -/
def J.print (j : J) : List UInt8 × Int := if j.check ≠ 0 then ([], j.check) else if 16777216 < j.out.length then ([], 4) else (j.out, 0)
theorem check_right {j : J} (h : j.check = 0) : j.right = true := by
  unfold J.check at h
  split at h
  · cases h
  · split at h
    · cases h
    · rename_i h1 h2
      simpa using h2
attribute [local simp] j0_json_Print j1_json_Print b_json_Print a_json_Print
theorem c_Print (j : J) (h : j.Ok) (hw : j.wt ≤ 8000000) : Cinf T n_json_Print [j.pv] = some (.tup [.own 1 (bl j.print.1), .v (.int .i64 j.print.2)], [.dead]) := by
  have hc := c_Check j h (by omega)
  unfold J.print
  by_cases h0 : j.check = 0
  · have hr := check_right h0
    have hwr := c_write j h hr (.nil 1) [] (.inr ⟨rfl, rfl⟩) (by simp; omega)
    rw [if_neg (fun hn => hn h0)]
    rw [h0] at hc
    have hlen : (bl j.out).length = j.out.length := by simp
    rw [List.nil_append] at hwr
    by_cases hL : 16777216 < j.out.length
    · have hL2 : (16777216 : Int) < j.out.length := by omega
      rw [if_pos hL, show bl ([], (4 : Int)).1 = ([] : List PV) from rfl]
      generalize j.out = q at *
      obtain ⟨k, t, ns, is⟩ := j
      simp only [J.pv_mk] at hc hwr ⊢
      simp [run_json_Print, Run, hc, hwr, hL, hL2]
    · have hL2 : ¬ (16777216 : Int) < j.out.length := by omega
      rw [if_neg hL]
      generalize j.out = q at *
      obtain ⟨k, t, ns, is⟩ := j
      simp only [J.pv_mk] at hc hwr ⊢
      simp [run_json_Print, Run, hc, hwr, hL, hL2]
  · rw [if_pos h0, show bl ([], j.check).1 = ([] : List PV) from rfl]
    generalize j.check = q at *
    obtain ⟨k, t, ns, is⟩ := j
    simp only [J.pv_mk] at hc ⊢
    simp [run_json_Print, Run, hc, h0]
theorem noRo_bl : ∀ L : List UInt8, PV.noRoL (bl L) = true
  | [] => rfl
  | b :: r => by
    have := noRo_bl r
    unfold bl at this ⊢
    rw [List.map_cons]
    simp [PV.noRoL, PV.noRo, this]
end Go.AM.F
