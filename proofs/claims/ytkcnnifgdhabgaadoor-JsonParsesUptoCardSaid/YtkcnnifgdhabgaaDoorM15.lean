/- JSON: the document's reader: objects, every value, Parse. No conditions. -/
import Derived.Test.YtkcnnifgdhabgaaDoorM14
namespace Go.AM.F
open Go Go.AM
set_option maxRecDepth 10000
set_option linter.unusedSimpArgs false

attribute [local simp] j5_thicketref10_reading_object j6_thicketref10_reading_object w0_thicketref10_reading_object j7_thicketref10_reading_object j8_thicketref10_reading_object b_thicketref10_reading_object a_thicketref10_reading_object
theorem obj_colon (L : List UInt8) (hl : L.length ≤ 16777216) (d : Nat) (ns : List ByteArray) (acc : List J) (s : ByteArray) (j k : Nat) (u : Unit) (hj : j ≤ L.length) (h : pWant sColon L (skip blank L j) = .ok k u) :
    Exec T j5_thicketref10_reading_object [(0, .ref 100000 []), (1, .v (.int .i64 d)), (4, z4), (5, oB ns acc), (7, .v (.string s)), (100000, rg L j 0 0)] = Exec T j4_thicketref10_reading_object [(0, .ref 100000 []), (1, .v (.int .i64 d)), (4, z4), (5, oB ns acc), (7, .v (.string s)), (100000, rg L k 0 0)] := by
  have hb := c_rblanks L j 0 0 hj hl
  have hs := skip_le blank L hj
  have hm := c_must L (skip blank L j) sColon hs.2 hl (by decide)
  have ho := c_rok0 L k 0
  have hC : (⟨#[58]⟩ : ByteArray) = sColon := rfl
  rw [h] at hm
  simp only [Rg, rg_eq, Int.natCast_zero, unitPV_eq] at hb hm ho
  simp [oB, hb, hm, hC, ho]
theorem obj_colon_bad (L : List UInt8) (hl : L.length ≤ 16777216) (d : Nat) (ns : List ByteArray) (acc : List J) (s : ByteArray) (j w a : Nat) (hj : j ≤ L.length) (h : pWant sColon L (skip blank L j) = .bad w a) :
    w ≠ 0 ∧ ∃ i e', i ≤ L.length ∧ Exec T j5_thicketref10_reading_object [(0, .ref 100000 []), (1, .v (.int .i64 d)), (4, z4), (5, oB ns acc), (7, .v (.string s)), (100000, rg L j 0 0)] = some (.exit 0, e') ∧ e'.get 4 = z4 ∧ e'.get 5 = oB ns acc ∧ e'.get 100000 = rg L i w a := by
  have hb := c_rblanks L j 0 0 hj hl
  have hs := skip_le blank L hj
  have hm := c_must L (skip blank L j) sColon hs.2 hl (by decide)
  have hC : (⟨#[58]⟩ : ByteArray) = sColon := rfl
  rw [h] at hm
  obtain ⟨g1, i, u, g2, hm⟩ := hm
  have ho := c_rokN L i a g1
  simp only [rg_eq, Int.natCast_zero, unitPV_eq] at hb hm ho
  refine ⟨g1, i, [(0, .ref 100000 []), (1, .v (.int .i64 d)), (4, z4), (5, oB ns acc), (7, .v (.string s)), (100000, rg L i w a)], g2, ?_, by simp, by simp, by simp⟩
  simp [oB, hb, hm, hC, ho]
/-- The loop's beginning: up to the colon. -/
theorem obj_head (L : List UInt8) (hl : L.length ≤ 16777216) (d i p j w b k' : Nat) (w' b' : Nat) (ns : List ByteArray) (acc : List J) (s : ByteArray) (hi : i ≤ L.length) (hp : skip blank L i = p)
    (ht : Cinf T n_thicketref10_reading_text [rg L p 0 0] = some (.v (.string s), [rg L j w b]))
    (htw : Exec T l1_thicketref10_reading_object (twE L d ns acc p s 0 j w b) = some (.exit 2, twE L d ns acc p s k' j w' b')) :
    Exec T l0_thicketref10_reading_object (obE L d ns acc i 0 0) = andThen (inBlock 1 (Exec T j5_thicketref10_reading_object [(0, .ref 100000 []), (1, .v (.int .i64 d)), (4, z4), (5, oB ns acc), (7, .v (.string s)), (100000, rg L j w' b')])) (Exec T l0_thicketref10_reading_object) := by
  have hb := c_rblanks L i 0 0 hi hl
  have ho := c_rok0 L i 0
  rw [hp] at hb
  simp only [twE, oB, rg_eq, Int.natCast_zero] at hb ho ht htw
  rw [ex0_thicketref10_reading_object]
  simp [obE, oB, hb, ho, ht, htw, -j5_thicketref10_reading_object]
theorem robj_loop (L : List UInt8) (hl : L.length ≤ 16777216) (f : Nat) (hV : RValOK L f) (hI : RObjOK L f) : RObjOK L (f + 1) := by
  intro d i ns acc r hr hi hd ha hn
  have hs := skip_le blank L hi
  obtain ⟨p, hp⟩ : ∃ p, skip blank L i = p := ⟨_, rfl⟩
  have ht := c_rtext L p (by omega) hl
  have hr2 : (match pText0 L p with
      | .bad w b => some (.bad w b)
      | .ok j s =>
        if seen s ns = true then some (.bad 102 p)
        else match pWant sColon L (skip blank L j) with
          | .bad w b => some (.bad w b)
          | .ok k _ => match pV L f d (skip blank L k) with
            | none => none
            | some (.bad w b) => some (.bad w b)
            | some (.ok m v) =>
              if tk sStop L (skip blank L m) then some (.ok (skip blank L m + 1) (.mk 7 eS (ns ++ [s]) (acc ++ [v])))
              else match pWant sComma L (skip blank L m) with
                | .bad w b => some (.bad w b)
                | .ok q _ => pMembers L f d q (ns ++ [s]) (acc ++ [v])) = some r := by
    simp only [pMembers] at hr
    rw [hp] at hr
    unfold pText0
    split at hr
    · rename_i hc
      rw [if_pos hc]
      exact hr
    · rename_i hc
      rw [if_neg hc]
      exact hr
  clear hr
  have bad : ∀ {w b j : Nat} {s : ByteArray} {e' : Env} {q : Nat}, w ≠ 0 → q ≤ L.length → Exec T l0_thicketref10_reading_object (obE L d ns acc i 0 0) = andThen (inBlock 1 (some (.exit 0, e'))) (Exec T l0_thicketref10_reading_object) → e'.get 4 = z4 → e'.get 5 = oB ns acc → e'.get 100000 = rg L q w b →
      ColEnd L (Exec T l0_thicketref10_reading_object (obE L d ns acc i 0 0)) (.bad w b) := by
    intro w b j s e' q h1 h2 h3 h4 h5 h6
    refine ⟨h1, q, .mk 7 eS ns acc, e', h2, ?_, h4, h5, h6⟩
    rw [h3]
    simp
  cases hpt : pText0 L p with
  | bad w a =>
    rw [hpt] at hr2 ht
    simp only [Option.some.injEq] at hr2
    subst hr2
    obtain ⟨g1, j, s, g2, ht⟩ := ht
    have hh := obj_head L hl d i p j w a 0 w a ns acc s hi hp ht (tw_out L d ns acc p s 0 j w a g1)
    obtain ⟨e', h1, h4, h5, h6⟩ := obj_name_bad L hl d ns acc s j w a g2 g1
    rw [h1] at hh
    exact bad (j := j) (s := s) g1 (skip_le blank L g2).2 hh h4 h5 h6
  | ok j s =>
    rw [hpt] at hr2 ht
    simp only at hr2
    have k1 : p < j ∧ j ≤ L.length := by
      unfold pText0 at hpt
      split at hpt
      · have := pTx_le (show p + 1 ≤ L.length by omega) hpt
        omega
      · cases hpt
    obtain ⟨k', htw⟩ := tw_loop L d ns acc p s j (by omega) ns.length 0 rfl (Nat.zero_le _)
    rw [List.drop_zero] at htw
    by_cases hse : seen s ns = true
    · rw [if_pos hse] at hr2 htw
      simp only [Option.some.injEq] at hr2
      subst hr2
      have hh := obj_head L hl d i p j 0 0 k' 102 p ns acc s hi hp ht htw
      obtain ⟨e', h1, h4, h5, h6⟩ := obj_name_bad L hl d ns acc s j 102 p k1.2 (by decide)
      rw [h1] at hh
      exact bad (j := j) (s := s) (by decide) (skip_le blank L k1.2).2 hh h4 h5 h6
    · rw [if_neg hse] at hr2 htw
      have hh := obj_head L hl d i p j 0 0 k' 0 0 ns acc s hi hp ht htw
      cases hw : pWant sColon L (skip blank L j) with
      | bad w a =>
        rw [hw] at hr2
        simp only [Option.some.injEq] at hr2
        subst hr2
        obtain ⟨g1, q, e', g2, h1, h4, h5, h6⟩ := obj_colon_bad L hl d ns acc s j w a k1.2 hw
        rw [h1] at hh
        exact bad (j := j) (s := s) g1 g2 hh h4 h5 h6
      | ok k u =>
        rw [hw] at hr2
        simp only at hr2
        have k2 := skip_le blank L k1.2
        have k3 := pWant_le k2.2 hw
        rw [obj_colon L hl d ns acc s j k u k1.2 hw] at hh
        rw [hh]
        exact obj_value L hl f hV hI d k ns acc s r k3.2 hd (by omega) (by omega) hr2
theorem col_object (L : List UInt8) (hl : L.length ≤ 16777216) (f : Nat) (hI : RObjOK L f) (d i : Nat) (r : PR J) (hr : pObject L f d i = some r) (hi : i ≤ L.length) (hd : d ≤ 256) :
    Rg L 1 J.copied (Cinf T n_thicketref10_reading_object [rg L i 0 0, .v (.int .i64 d)]) r := by
  have hs := skip_le blank L hi
  have b1 := c_rblanks L i 0 0 hi hl
  unfold pObject at hr
  generalize skip blank L i = p at *
  have hn := c_rnext L p 0 0
  simp only [rg_eq, Int.natCast_zero] at b1 hn
  rw [tk_stop] at hr
  by_cases ht : lt L p = 125
  · rw [if_pos (by simp [ht]), Option.some.injEq] at hr
    subst hr
    have hq : p < L.length := lt_pos (fun h => by omega)
    have hw := wrap_succ hq (by omega)
    simp [Rg, run_thicketref10_reading_object, Run, home, b1, hn, ht, hw, J.copied, J.parts, eS]
  · rw [if_neg (by simp [ht])] at hr
    have h0 := hI d p [] [] r hr hs.2 hd (by simp) (by simp)
    simp only [obE, oB, rg_eq, Int.natCast_zero, List.map_nil] at h0
    cases r with
    | ok j v =>
      obtain ⟨k0, t0, ns0, is0⟩ := v
      simp only [ColEnd, rg_eq, Int.natCast_zero, J.boxed, J.parts] at h0
      simp [Rg, run_thicketref10_reading_object, Run, home, b1, hn, ht, h0, J.copied, J.parts, -w0_thicketref10_reading_object]
    | bad w a =>
      obtain ⟨g1, j, ⟨k0, t0, ns0, is0⟩, e', g2, h0, h4, h5, h6⟩ := h0
      simp only [rg_eq, J.boxed, J.parts] at h4 h5 h6
      refine ⟨g1, j, .mk k0 t0 ns0 is0, g2, ?_⟩
      simp [run_thicketref10_reading_object, Run, home, b1, hn, ht, h0, h4, h5, h6, Env.keep, J.copied, J.parts, -w0_thicketref10_reading_object]
theorem rall_ok (L : List UInt8) (hl : L.length ≤ 16777216) : ∀ f : Nat, RValOK L f ∧ RListOK L f ∧ RObjOK L f
  | 0 => ⟨fun _ _ _ h => by simp [pV] at h, fun _ _ _ _ h => by simp [pItems] at h, fun _ _ _ _ _ h => by simp [pMembers] at h⟩
  | f + 1 => by
    obtain ⟨h1, h2, h3⟩ := rall_ok L hl f
    refine ⟨fun d i r hr hi hd => ?_, rlist_loop L hl f h1 h2, robj_loop L hl f h1 h3⟩
    simp only [pV] at hr
    obtain ⟨p, hp⟩ : ∃ p, skip blank L i = p := ⟨_, rfl⟩
    have hs := skip_le blank L hi
    rw [hp] at hr hs
    by_cases hlt : p < L.length
    · rw [if_pos hlt] at hr
      by_cases hc : lt L p = 91 ∨ lt L p = 123
      · rw [if_pos hc] at hr
        by_cases hd2 : d = 256
        · subst hd2
          rw [if_pos rfl, Option.some.injEq] at hr
          subst hr
          exact rv_deep L i p hi hl hp hlt hc
        · rw [if_neg hd2] at hr
          by_cases hc2 : lt L p = 91
          · rw [if_pos hc2] at hr
            exact rv_list L i p d r hi hl hp hlt (by omega) hc2 (col_list L hl f h2 (d + 1) (p + 1) r hr (by omega) (by omega))
          · rw [if_neg hc2] at hr
            exact rv_object L i p d r hi hl hp hlt (by omega) (hc.resolve_left hc2) (col_object L hl f h3 (d + 1) (p + 1) r hr (by omega) (by omega))
      · rw [if_neg hc, Option.some.injEq] at hr
        subst hr
        exact rv_flat L i p d hi hl hp hlt hc
    · rw [if_neg hlt, Option.some.injEq] at hr
      subst hr
      have := rv_end L i d hi hl (by rw [hp]; exact hlt)
      rw [hp] at this
      exact this
attribute [local simp] j0_thicketref10_Parse j1_thicketref10_Parse j2_thicketref10_Parse b_thicketref10_Parse a_thicketref10_Parse
theorem c_rParse (L : List UInt8) (f : Nat) (r : J × Nat × Nat) (hr : pParse L f = some r) (hL : L.length ≤ 140737488355328) : Cinf T n_thicketref10_Parse [.ro 1 (bl L)] = some (told r, [.dead]) := by
  unfold pParse at hr
  by_cases hl : 16777216 < L.length
  · rw [if_pos hl, Option.some.injEq] at hr
    subst hr
    simp [run_thicketref10_Parse, Run, hl, told, zeroJ, J.copied, J.parts, eS]
  · rw [if_neg hl] at hr
    have hl2 : L.length ≤ 16777216 := by omega
    cases hv : pV L f 0 (skip blank L 0) with
    | none => rw [hv] at hr; cases hr
    | some q =>
      rw [hv, Option.map_some, Option.some.injEq] at hr
      subst hr
      have hs := skip_le blank L (Nat.zero_le L.length)
      have hc := (rall_ok L hl2 f).1 0 0 q hv (Nat.zero_le _) (by omega)
      cases q with
      | bad w a =>
        obtain ⟨g1, i, ⟨k0, tt0, ns0, is0⟩, g2, hc⟩ := hc
        have ho := c_rokN L i a g1
        simp only [rg_eq, Int.natCast_zero, J.copied, J.parts] at hc ho
        simp [run_thicketref10_Parse, Run, hl, told, zeroJ, J.copied, J.parts, eS, hc, ho, pEnd]
      | ok j v =>
        have k1 := (p_le L f).1 _ _ _ _ hs.2 hv
        have b2 := c_rblanks L j 0 0 k1.2 hl2
        have ho1 := c_rok0 L j 0
        have k2 := skip_le blank L k1.2
        unfold pEnd
        simp only
        generalize skip blank L j = i at *
        have hf := c_rfail L i 100 i
        have ho := c_rok0 L i 0
        have ho3 := c_rokN L i i (show 100 ≠ 0 by decide)
        obtain ⟨k0, tt0, ns0, is0⟩ := v
        simp only [Rg, rg_eq, Int.natCast_zero, J.copied, J.parts, h100] at hc b2 hf ho ho1 ho3
        by_cases hi : i < L.length
        · rw [if_pos hi]
          simp [run_thicketref10_Parse, Run, hl, told, zeroJ, J.copied, J.parts, eS, hc, b2, hi, hf, ho, ho1, ho3]
        · rw [if_neg hi]
          simp [run_thicketref10_Parse, Run, hl, told, J.copied, J.parts, hc, b2, hi, ho, ho1, imm_strs, imm_pvs]
end Go.AM.F
