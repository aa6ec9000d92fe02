/- Fields joined, by the program. No conditions. -/
import Derived.Test.YtfnhfjpoeacoaaaDoorS27
import Derived.Lib.ReplaceLaws
namespace Go.AM.F
open Go Go.AM
set_option maxRecDepth 10000
set_option linter.unusedSimpArgs false
attribute [local simp] j0_scan_Join j1_scan_Join w0_scan_Join j2_scan_Join j3_scan_Join j4_scan_Join j5_scan_Join w1_scan_Join j6_scan_Join j7_scan_Join j8_scan_Join j9_scan_Join b_scan_Join a_scan_Join
theorem pq_iff (t : ByteArray) (h : 1 ≤ t.size) : t.extract 0 1 = ⟨#[34]⟩ ↔ ch t 0 = 34 := by
  constructor
  · intro k
    have h0 := ch_extract t 0 1 0 (by omega) h
    rw [k] at h0
    exact h0.symm
  · intro k0
    apply bytes_ext
    · rw [extract_size _ _ _ (by omega) h]; rfl
    · intro i hi
      rw [extract_size _ _ _ (by omega) h] at hi
      rw [ch_extract t 0 1 i (by omega) h, Nat.zero_add]
      match i, hi with
      | 0, _ => exact k0
theorem c_lprefixQ (t : ByteArray) : Cinf T n_stringslite_HasPrefix [.v (.string t), .v (.string ⟨#[34]⟩)] = some (.v (.bool (decide (0 < t.size) && decide (ch t 0 = 34))), [.dead, .dead]) := by
  have e2 : ByteArray.size ⟨#[34]⟩ = 1 := rfl
  by_cases h : 1 ≤ t.size
  · have h0 : 0 < t.size := h
    simp [run_stringslite_HasPrefix, Run, a_stringslite_HasPrefix, b_stringslite_HasPrefix, e2, h, h0, pq_iff t h]
  · have h0 : t.size = 0 := by omega
    simp [run_stringslite_HasPrefix, Run, a_stringslite_HasPrefix, b_stringslite_HasPrefix, e2, h0]
theorem c_prefixQ (t : ByteArray) : Cinf T n_strings_HasPrefix [.v (.string t), .v (.string ⟨#[34]⟩)] = some (.v (.bool (decide (0 < t.size) && decide (ch t 0 = 34))), [.dead, .dead]) := by
  simp [run_strings_HasPrefix, Run, a_strings_HasPrefix, b_strings_HasPrefix, c_lprefixQ]
theorem byB_mem (f : ByteArray) (y : Nat) : ∀ (n k : Nat), k + n = f.size → byB f y n k = ((bs f).drop k).contains y
  | 0, k, h => by rw [List.drop_of_length_le (by simp; omega)]; rfl
  | n + 1, k, h => by
    have hk : k < (bs f).length := by simp; omega
    rw [byB, byB_mem f y n (k + 1) (by omega), List.drop_eq_getElem_cons hk, bs_get f k hk, List.contains_cons]
    congr 1
    by_cases h2 : ch f k = y
    · rw [h2]
      simp
    · rw [decide_eq_false h2]
      exact (beq_eq_false_iff_ne.2 (Ne.symm h2)).symm
def u8s (l : List Nat) : List UInt8 := l.map UInt8.ofNat
theorem u8s_app (a b : List Nat) : u8s (a ++ b) = u8s a ++ u8s b := by simp [u8s]
theorem u8s_bs (f : ByteArray) : f.data.toList = u8s (bs f) := by
  have h := congrArg (fun t : ByteArray => t.data.toList) (bytesOf_bs f)
  simp [bytesOf] at h
  exact h.symm
theorem bs_ext_u8 {a b : ByteArray} (h : a.data.toList = b.data.toList) : a = b := by
  apply bs_ext
  unfold bs
  rw [h]
theorem u8s_len (l : List Nat) : (u8s l).length = l.length := by simp [u8s]
theorem rplK (new : List UInt8) (c : UInt8) : ∀ (l : List UInt8), Lib.replaceK [c] new (Lib.count l [c]) l = l.flatMap fun b => if b = c then new else [b]
  | [] => by
    rw [Lib.count_one]
    rfl
  | b :: l => by
    have ih := rplK new c l
    by_cases h : b = c
    · subst h
      have hix : Lib.index (b :: l) [b] = ((0 : Nat) : Int) := by rw [Lib.index]; simp [List.isPrefixOf]
      rw [Lib.count_cons_eq, Nat.add_comm, Lib.replaceK_hit _ _ _ _ 0 hix]
      simp [ih]
    · rw [Lib.count_cons_ne b c l h, List.flatMap_cons, if_neg h, ← ih]
      cases hc : Lib.count l [c] with
      | zero => rfl
      | succ k =>
        obtain ⟨i, hi⟩ := Lib.index_of_count (s := l) (old := [c]) (by omega)
        have hp : ([c] : List UInt8).isPrefixOf (b :: l) = false := by simp [List.isPrefixOf, Ne.symm h]
        have hix : Lib.index (b :: l) [c] = ((i + 1 : Nat) : Int) := by
          rw [Lib.index, hp, hi]
          simp
        rw [Lib.replaceK_hit _ _ _ _ _ hix, Lib.replaceK_hit _ _ _ _ _ hi]
        simp
theorem rpl_dbl : ∀ (l : List Nat), (∀ c ∈ l, c < 256) → (u8s l).flatMap (fun b => if b = (34 : UInt8) then [(34 : UInt8), 34] else [b]) = u8s (dblN l)
  | [], _ => rfl
  | c :: r, h => by
    have hc := h c (by simp)
    have ih := rpl_dbl r (fun d hd => h d (by simp [hd]))
    have e : u8s (c :: r) = UInt8.ofNat c :: u8s r := rfl
    rw [e, List.flatMap_cons, ih, dblN, u8s_app]
    congr 1
    by_cases h34 : c = 34
    · subst h34; rfl
    · have : ¬ UInt8.ofNat c = (34 : UInt8) := by
        intro he
        have := congrArg UInt8.toNat he
        rw [UInt8.toNat_ofNat', Nat.mod_eq_of_lt (by omega)] at this
        exact h34 this
      rw [if_neg this, if_neg h34]
      rfl
theorem c_rplQ (f : ByteArray) (hf : f.size ≤ 67108864) : Cinf T n_strings_ReplaceAll [.v (.string f), .v (.string ⟨#[34]⟩), .v (.string ⟨#[34, 34]⟩)] = some (.v (.string (bytesOf (dblN (bs f)))), [.dead, .dead, .dead]) := by
  refine x_strings_ReplaceAll _ ?_
  have hc := Lib.countB_le ⟨#[34]⟩ (by decide) f.size f (Nat.le_refl _)
  have hz : ByteArray.size ⟨#[34, 34]⟩ = 2 := rfl
  have hz1 : ByteArray.size ⟨#[34]⟩ = 1 := rfl
  simp only [xReplaceAll]
  rw [if_pos ⟨by rw [hz1]; exact Nat.le_refl _, by omega, by rw [hz]; omega⟩]
  have he : Lib.replaceAll f.data.toList (ByteArray.mk #[34]).data.toList (ByteArray.mk #[34, 34]).data.toList = u8s (dblN (bs f)) := by
    change Lib.replaceAll f.data.toList [34] [34, 34] = _
    unfold Lib.replaceAll Lib.replace Lib.replaceNum
    rw [if_neg (by decide), if_pos (.inl (by decide)), rplK [34, 34] 34, u8s_bs, rpl_dbl _ (bs_lt f)]
  rw [he]
  rfl
theorem bytesOf_app (a b : List Nat) : bytesOf (a ++ b) = bytesOf a ++ bytesOf b := by
  apply bs_ext_u8
  simp [bytesOf]
theorem sj_nl (l : List ByteArray) (hl : lenB l ≤ 67108864) (y : PV) : ∀ (n k : Nat), l.length - k = n → k ≤ l.length →
    Exec T l0_scan_Join [(0, .ro 1 (tl l)), (1, y), (13, .ro 1 (tl l)), (14, .v (.int .i64 l.length)), (15, .v (.int .i64 k))] = if nlAny (l.drop k) = true then some (.ret, [(4, .v (.string ⟨#[]⟩)), (5, .v (.int .i64 30))]) else some (.exit 0, [(0, .ro 1 (tl l)), (1, y), (13, .ro 1 (tl l)), (14, .v (.int .i64 l.length)), (15, .v (.int .i64 l.length))]) := by
  intro n
  induction n with
  | zero =>
    intro k hn hk
    obtain rfl : k = l.length := by omega
    rw [ex0_scan_Join]
    simp [nlAny]
  | succ n ih =>
    intro k hn hk
    have hlt : k < l.length := by omega
    have hll := lenB_len l
    have hw := wrap_succ hlt (by omega)
    have h0 := ih (k + 1) (by omega) (by omega)
    rw [succ_cast] at h0
    obtain ⟨f, hv⟩ : ∃ f, l[k] = f := ⟨_, rfl⟩
    have hf : f.size ≤ lenB l := lenB_all l f (by rw [← hv]; exact List.getElem_mem hlt)
    have hd : l.drop k = f :: l.drop (k + 1) := by rw [List.drop_eq_getElem_cons hlt, hv]
    have h1 := c_ContainsAny f (by omega)
    have hg : (tl l)[k]'(by rw [tl_length]; exact hlt) = .v (.string f) := by simp [tl, hv]
    rw [ex0_scan_Join, hd, nlAny, List.any_cons]
    change _ = if (nlB f f.size 0 || nlAny (l.drop (k + 1))) = true then _ else _
    cases hb : nlB f f.size 0 with
    | true =>
      rw [hb] at h1
      simp [hlt, hg, h1]
    | false =>
      rw [hb] at h1
      rw [Bool.false_or, ← h0]
      simp [hlt, hg, h1, hw]
def sjE (l : List ByteArray) (y : Nat) (acc : List Nat) (k : Nat) : Env := [(0, .ro 1 (tl l)), (1, .v (.int .u8 y)), (8, .bld 60 5 (u8s acc)), (25, .ro 1 (tl l)), (26, .v (.int .i64 l.length)), (27, .v (.int .i64 k))]
theorem sj_loop (l : List ByteArray) (hl : lenB l ≤ 67108864) (y : Nat) (hy : y < 256) : ∀ (n k : Nat) (acc : List Nat), l.length - k = n → k ≤ l.length → acc.length + lenB (l.drop k) ≤ 67108864 →
    Exec T l1_scan_Join (sjE l y acc k) = some (.exit 2, sjE l y (joinA y (decide (k = 0)) acc (l.drop k)) l.length) := by
  intro n
  induction n with
  | zero =>
    intro k acc hn hk ha
    obtain rfl : k = l.length := by omega
    rw [ex1_scan_Join]
    simp [sjE, joinA]
  | succ n ih =>
    intro k acc hn hk ha
    have hlt : k < l.length := by omega
    have hll := lenB_len l
    have hw := wrap_succ hlt (by omega)
    obtain ⟨f, hv⟩ : ∃ f, l[k] = f := ⟨_, rfl⟩
    have hf : f.size ≤ lenB l := lenB_all l f (by rw [← hv]; exact List.getElem_mem hlt)
    have hd : l.drop k = f :: l.drop (k + 1) := by rw [List.drop_eq_getElem_cons hlt, hv]
    have hg : (tl l)[k]'(by rw [tl_length]; exact hlt) = .v (.string f) := by simp [tl, hv]
    rw [hd, lenB] at ha
    rw [hd, joinA]
    obtain ⟨acc1, ha1⟩ : ∃ a, (if decide (k = 0) = true then acc else acc ++ [y]) = a := ⟨_, rfl⟩
    have hlen : acc1.length ≤ acc.length + 1 := by rw [← ha1]; split <;> simp
    have ho := outF_len y f
    have h0 := ih (k + 1) (acc1 ++ outF y f) (by omega) (by omega) (by rw [List.length_append]; omega)
    rw [show (decide (k + 1 = 0)) = false from rfl] at h0
    rw [ha1, ← h0, ex1_scan_Join]
    -- the byte between
    have wb := x_strings_Builder_WriteByte [.bld 60 5 (u8s acc), .v (.int .u8 y)] (r := (.v .nilIface, [.bld 60 5 (u8s (acc ++ [y])), .dead])) (by
      simp only [xWriteByte]
      rw [if_pos ⟨trivial, trivial, by omega, by omega, by rw [u8s_len]; omega⟩, u8s_app]
      rfl)
    -- the text
    have ws : ∀ t : List Nat, (∀ c ∈ t, c < 256) → t.length ≤ 134217730 → Cinf T n_strings_Builder_WriteString [.bld 60 5 (u8s acc1), .v (.string (bytesOf t))] = some (.tup [.v (.int .i64 (bytesOf t).size), .v .nilIface], [.bld 60 5 (u8s (acc1 ++ t)), .dead]) := by
      intro t _ htl
      refine x_strings_Builder_WriteString _ ?_
      have hz : (bytesOf t).size = t.length := by simp [bytesOf, ByteArray.size]
      simp only [xWriteString]
      rw [if_pos ⟨trivial, trivial, by rw [u8s_len, hz]; omega⟩, u8s_app]
      rfl
    have hq := c_prefixQ f
    have hi := c_IndexByte f y
    have hh := firstIdx_has f ((y : Int)).toNat.toUInt8
    have hyy : ((y : Int)).toNat.toUInt8.toNat = y := by simp; omega
    rw [hyy] at hh
    have hbm := byB_mem f y f.size 0 (by omega)
    rw [List.drop_zero, ← hh] at hbm
    have hst : ∀ a : List Nat, a = acc1 → Exec T j3_scan_Join [(0, .ro 1 (tl l)), (1, .v (.int .u8 y)), (8, .bld 60 5 (u8s a)), (10, .v (.string f)), (25, .ro 1 (tl l)), (26, .v (.int .i64 l.length)), (27, .v (.int .i64 k))] =
        some (.normal, [(0, .ro 1 (tl l)), (1, .v (.int .u8 y)), (8, .bld 60 5 (u8s (acc1 ++ outF y f))), (25, .ro 1 (tl l)), (26, .v (.int .i64 l.length)), (27, .v (.int .i64 k))]) := by
      rintro a rfl
      have hr := c_rplQ f (by omega)
      have hdl := dblN_len (bs f)
      rw [bs_length] at hdl
      have hz1 : ByteArray.size ⟨#[34]⟩ = 1 := rfl
      have hz2 : (bytesOf (dblN (bs f))).size = (dblN (bs f)).length := by simp [bytesOf, ByteArray.size]
      have wq := ws (34 :: (dblN (bs f) ++ [34])) (by
        intro c hc
        simp only [List.mem_cons, List.mem_append, List.not_mem_nil, or_false] at hc
        rcases hc with rfl | hc | rfl
        · decide
        · have : ∀ (t : List Nat), (∀ c ∈ t, c < 256) → ∀ c ∈ dblN t, c < 256 := by
            intro t
            induction t with
            | nil => intro _ c h; simp [dblN] at h
            | cons d r ih =>
              intro h c hc
              rw [dblN, List.mem_append] at hc
              rcases hc with hc | hc
              · split at hc
                · simp at hc; omega
                · simp at hc; subst hc; exact h c (by simp)
              · exact ih (fun e he => h e (by simp [he])) c hc
          exact this _ (bs_lt f) c hc
        · decide) (by simp only [List.length_cons, List.length_append, List.length_nil]; omega)
      have wp := ws (bs f) (bs_lt f) (by rw [bs_length]; omega)
      rw [bytesOf_bs] at wp
      rw [show (34 :: (dblN (bs f) ++ [34]) : List Nat) = ([34] ++ dblN (bs f)) ++ [34] by simp, bytesOf_app, bytesOf_app, show bytesOf [34] = ⟨#[34]⟩ from rfl] at wq
      have a1 : 1 + (bytesOf (dblN (bs f))).size ≤ 9223372036854775807 := by omega
      have a2 : 1 + (bytesOf (dblN (bs f))).size + 1 ≤ 9223372036854775807 := by omega
      have hout : outF y f = if inQ y f = true then ([34] ++ dblN (bs f)) ++ [34] else bs f := by
        unfold outF
        split <;> simp
      rw [hout]
      unfold inQ
      rw [hbm]
      cases b1 : decide (0 ≤ firstIdx f ((y : Int)).toNat.toUInt8) with
      | true =>
        have b1 := of_decide_eq_true b1
        generalize firstIdx f ((y : Int)).toNat.toUInt8 = z at hi b1
        simp [hi, b1, hr, wq, binStr, hz1, ByteArray.size_append, a1, a2]
      | false =>
        have b1 := of_decide_eq_false b1
        have b1' : firstIdx f ((y : Int)).toNat.toUInt8 < 0 := by omega
        generalize firstIdx f ((y : Int)).toNat.toUInt8 = z at hi b1 b1'
        cases b2 : (decide (0 < f.size) && decide (ch f 0 = 34)) with
        | true =>
          rw [b2] at hq
          simp [hi, b1, b1', hq, hr, wq, binStr, hz1, ByteArray.size_append, a1, a2]
        | false =>
          rw [b2] at hq
          simp [hi, b1, b1', hq, wp]
    by_cases hk0 : k = 0
    · subst hk0
      have hst := hst acc (by rw [← ha1]; rfl)
      simp only [Int.natCast_zero] at hst
      simp [sjE, hlt, hg, hst, -j3_scan_Join]
    · have hst := hst (acc ++ [y]) (by rw [← ha1]; simp [hk0])
      have hkp : 0 < k := by omega
      simp [sjE, hlt, hg, hkp, hst, wb, -j3_scan_Join, hw]
theorem c_Join (l : List ByteArray) (hl : lenB l ≤ 67108864) (y : Nat) (hy : y < 256) : Cinf T n_scan_Join [.ro 1 (tl l), .v (.int .u8 y)] = some (joinR y l, [.dead, .dead]) := by
  have hll := lenB_len l
  have hb := c_badBy y
  have h1 := sj_nl l hl (.v (.int .u8 y)) l.length 0 rfl (Nat.zero_le _)
  have h2 := sj_loop l hl y hy l.length 0 [] rfl (Nat.zero_le _) (by rw [List.drop_zero]; simpa using hl)
  simp only [Int.natCast_zero, List.drop_zero, sjE, show u8s [] = [] from rfl] at h1 h2
  have hs := x_strings_Builder_String [.bld 60 5 (u8s (joinA y true [] l))] (r := (.v (.string (bytesOf (joinA y true [] l))), [.dead])) (by
    simp only [xStringE]
    rw [if_pos ⟨trivial, trivial⟩]
    rfl)
  rw [run_scan_Join]
  unfold joinR
  cases b1 : badB y with
  | true =>
    rw [b1] at hb
    simp [Run, hb]
  | false =>
    rw [b1] at hb
    cases hn : nlAny l with
    | true =>
      rw [hn] at h1
      simp [Run, hb, h1]
    | false =>
      rw [hn] at h1
      by_cases hz : l.length = 0
      · obtain rfl : l = [] := List.eq_nil_of_length_eq_zero hz
        simp at h1
        simp [Run, hb, h1]
      · simp [hz] at h2
        simp [Run, hb, h1, hz, h2, hs]
end Go.AM.F
