/- JSON: JsonCuts: the law. No conditions. -/
import Derived.Test.YtkcnnifgdhabgaaDoorC2
namespace Go.AM.F
open Go Go.AM
set_option maxRecDepth 10000
set_option linter.unusedSimpArgs false

theorem v_cut {L : List UInt8} {k i d f j : Nat} {v : J} (hk : k ≤ L.length) (hi : i ≤ k) (hc : lt L i = 91 ∨ lt L i = 123 ∨ lt L i = 34) (h : pV L f d i = some (.ok j v)) (hj : k < j) {f' : Nat} (hf : f + 2 ≤ f') : CutB L k (pV (L.take k) f' d i) := by
  cases f with
  | zero => simp [pV] at h
  | succ f =>
    obtain ⟨g, rfl⟩ : ∃ g, f' = g + 3 := ⟨f' - 3, by omega⟩
    obtain ⟨h1, h2, h3⟩ := p_cut hk f
    by_cases hik : i = k
    · subst hik
      rw [v_end hk]
      exact ⟨i, rfl, .inl rfl⟩
    rw [pV] at h ⊢
    rw [take_len hk, if_pos (by omega), lt_take (by omega)]
    rw [if_pos (by omega)] at h
    have hs := skip_le blank L (show i + 1 ≤ L.length by omega)
    split at h
    · rename_i hc
      rw [if_pos hc]
      split at h
      · cases h
      · rename_i hd
        rw [if_neg hd]
        split at h
        · rename_i h91
          rw [if_pos h91]
          by_cases ha : k ≤ skip blank L (i + 1)
          · rw [skip_cut hk (by omega) ha, tk_take_end hk]
            simp only [Bool.false_eq_true, if_false]
            rw [items_end hk]
            exact ⟨k, rfl, .inl rfl⟩
          · rw [skip_keep hk (by omega) (by omega), tk_take hk (by omega)]
            split at h
            · rename_i ht
              cases h
              omega
            · rename_i ht
              rw [if_neg ht]
              exact h2 _ _ _ _ _ (by omega) h hj (g + 2) (by omega)
        · rename_i h91
          rw [if_neg h91]
          by_cases ha : k ≤ skip blank L (i + 1)
          · rw [skip_cut hk (by omega) ha, tk_take_end hk]
            simp only [Bool.false_eq_true, if_false]
            rw [members_end hk]
            exact ⟨k, rfl, .inl rfl⟩
          · rw [skip_keep hk (by omega) (by omega), tk_take hk (by omega)]
            split at h
            · rename_i ht
              cases h
              omega
            · rename_i ht
              rw [if_neg ht]
              exact h3 _ _ _ _ _ _ (by omega) h hj (g + 2) (by omega)
    · rename_i hc2
      rw [if_neg hc2]
      simp only [Option.some.injEq] at h
      have h34 : lt L i = 34 := by omega
      have a1 : ¬ lt L i = 110 := by omega
      have a2 : ¬ lt L i = 102 := by omega
      have a3 : ¬ lt L i = 116 := by omega
      unfold pFlat at h ⊢
      rw [lt_take (by omega), if_neg a1, if_neg a2, if_neg a3, if_pos h34]
      rw [if_neg a1, if_neg a2, if_neg a3, if_pos h34] at h
      cases hp : pText L i with
      | bad w a => rw [hp] at h; cases h
      | ok e s =>
        rw [hp, PR.bind_ok] at h
        cases h
        obtain ⟨p, q1, q2⟩ := ptext_cut hk hp (by omega) hj
        rw [q1]
        exact ⟨p, rfl, q2⟩
/-- A shorter beginning of what is written of a list, an object, a text. -/
theorem parse_cut {j : J} (hr : j.right = true) (ht : j.twin = false) (hd : j.depth ≤ 256) (hl : j.out.length ≤ 16777216) (hc : lt j.out 0 = 91 ∨ lt j.out 0 = 123 ∨ lt j.out 0 = 34) {k : Nat} (hk : k < j.out.length) :
    ∃ p, Cinf T n_json_Parse [.ro 1 (bl (j.out.take k))] = some (told (zeroJ, 100, p), [.dead]) ∧ Cut j.out k p := by
  have hv := v_back j hr ht j.out 0 0 (2 * j.out.length + 1) (Has.self _) (fun _ _ _ _ _ _ => by
    rw [Nat.zero_add, lt_end (by omega)]
    rfl) (by omega) (Nat.le_refl _)
  rw [Nat.zero_add] at hv
  have hk2 : k ≤ j.out.length := by omega
  obtain ⟨p, h1, h2⟩ := v_cut hk2 (Nat.zero_le k) hc hv hk (Nat.le_refl _)
  refine ⟨p, ?_, h2⟩
  have hsk : skip blank (j.out.take k) 0 = 0 := by
    by_cases h0 : k = 0
    · subst h0
      exact skip_end blank _ (by simp)
    · refine skip_none ?_
      rw [lt_take (by omega)]
      rcases hc with hc | hc | hc <;> rw [hc] <;> rfl
  have hz := take_len hk2
  refine c_Parse (j.out.take k) (2 * j.out.length + 1 + 2) (zeroJ, 100, p) ?_ (by omega)
  unfold pParse
  rw [if_neg (by omega), hsk, h1]
  rfl
attribute [local simp] j0_thicketlaw10_JsonCuts j1_thicketlaw10_JsonCuts w0_thicketlaw10_JsonCuts j2_thicketlaw10_JsonCuts j3_thicketlaw10_JsonCuts j4_thicketlaw10_JsonCuts j5_thicketlaw10_JsonCuts b_thicketlaw10_JsonCuts a_thicketlaw10_JsonCuts
/-- Where the loop stands. -/
abbrev cE (M : List UInt8) (k p i : Nat) (x y z : PV) : Env := [(5, .own 1 (bl M)), (7, .v (.int .i64 k)), (9, .v (.int .i64 p)), (10, .v (.int .i64 i)), (13, x), (15, y), (16, z)]
theorem cut_on (M : List UInt8) (k p i : Nat) (x y z : PV) (hi : i < 4) (hik : i ≤ k) (hp : p ≠ k - i) (hk : k ≤ 16777216) : Exec T l0_thicketlaw10_JsonCuts (cE M k p i x y z) = Exec T l0_thicketlaw10_JsonCuts (cE M k p (i + 1) x y z) := by
  have hw : IntKind.i64.wrap ((k : Int) - i) = ((k - i : Nat) : Int) := by
    rw [show (k : Int) - i = ((k - i : Nat) : Int) by omega]
    exact wrap_nat (by omega)
  have hw2 := wrap_succ hi (by omega)
  have h1 : ¬ (p : Int) = ((k - i : Nat) : Int) := by omega
  have h4 : (i : Int) < 4 := by omega
  have hle : (i : Int) ≤ k := by omega
  simp only [cE]
  rw [ex0_thicketlaw10_JsonCuts, succ_cast]
  generalize k - i = q at *
  simp [hw, hw2, h1, hi, h4, hle, hik]
theorem cut_off (M : List UInt8) (k p i : Nat) (x y z : PV) (hi : i < 4) (hik : i ≤ k) (hp : p = k - i) (hk : k < M.length) (hl : M.length ≤ 16777216) (hb : i = 0 ∨ 192 ≤ lt M p) : Exec T l0_thicketlaw10_JsonCuts (cE M k p i x y z) = some (.ret, [(4, .v (.bool true))]) := by
  have hw : IntKind.i64.wrap ((k : Int) - i) = ((k - i : Nat) : Int) := by
    rw [show (k : Int) - i = ((k - i : Nat) : Int) by omega]
    exact wrap_nat (by omega)
  have h4 : (i : Int) < 4 := by omega
  have hle : (i : Int) ≤ k := by omega
  have hlen : p < M.length := by omega
  have hg := bl_getE hlen
  simp only [cE]
  rw [ex0_thicketlaw10_JsonCuts]
  rw [← hp] at hw
  rcases hb with hb | hb
  · subst hb
    rw [Nat.sub_zero] at hp
    subst hp
    have hz : ((0 : Nat) : Int) = 0 := rfl
    rw [hz] at hw ⊢
    rw [Int.sub_zero] at hw
    simp [hw]
  · have hbi : (192 : Int) ≤ lt M p := by omega
    by_cases hi0 : i = 0
    · subst hi0
      rw [Nat.sub_zero] at hp
      subst hp
      have hz : ((0 : Nat) : Int) = 0 := rfl
      rw [hz] at hw ⊢
      rw [Int.sub_zero] at hw
      simp [hw]
    · have hi0' : ¬ (i : Int) = 0 := by omega
      simp [hw, hi, h4, hle, hik, hi0, hi0', hlen, hg, hb, hbi]
theorem cut_loop (M : List UInt8) (k p : Nat) (x y z : PV) (h : Cut M k p) (hk : k < M.length) (hl : M.length ≤ 16777216) : Exec T l0_thicketlaw10_JsonCuts (cE M k p 0 x y z) = some (.ret, [(4, .v (.bool true))]) := by
  rcases h with rfl | ⟨h1, h2, h3⟩
  · exact cut_off M p p 0 x y z (by omega) (Nat.zero_le _) rfl hk hl (.inl rfl)
  · have ht : p = k - 1 ∨ p = k - 2 ∨ p = k - 3 := by omega
    rw [cut_on M k p 0 x y z (by omega) (by omega) (by omega) (by omega), Nat.zero_add]
    by_cases c1 : p = k - 1
    · exact cut_off M k p 1 x y z (by omega) (by omega) c1 hk hl (.inr h3)
    rw [cut_on M k p 1 x y z (by omega) (by omega) c1 (by omega)]
    by_cases c2 : p = k - 2
    · exact cut_off M k p 2 x y z (by omega) (by omega) c2 hk hl (.inr h3)
    rw [cut_on M k p 2 x y z (by omega) (by omega) c2 (by omega)]
    exact cut_off M k p 3 x y z (by omega) (by omega) (by omega) hk hl (.inr h3)
theorem out_many {j : J} (hr : j.right = true) {k : Int} {t : ByteArray} {ns : List ByteArray} {is : List J} (hj : j = .mk k t ns is) (hk : k = 5 ∨ k = 6 ∨ k = 7) : lt j.out 0 = 91 ∨ lt j.out 0 = 123 ∨ lt j.out 0 = 34 := by
  subst hj
  rcases hk with rfl | rfl | rfl
  · right; right; rfl
  · left; rfl
  · right; left; rfl
theorem u64_some (z : Int) : ∃ a : Nat, IntKind.u64.wrap z = (a : Int) := by
  refine ⟨(IntKind.u64.wrap z).toNat, ?_⟩
  have : 0 ≤ IntKind.u64.wrap z := by
    unfold IntKind.wrap
    simp only [IntKind.signed, Bool.false_and, Bool.false_eq_true, if_false]
    exact Int.emod_nonneg _ (by simp [IntKind.bits])
  omega
theorem c_JsonCuts (j : J) (z : Int) (h : j.Ok) (hw : j.wt ≤ 8000000) : Cinf T n_thicketlaw10_JsonCuts [j.pv, .v (.int .i64 z)] = some (.v (.bool true), [.dead, .dead]) := by
  have hg := c_begins
  have hp := c_Print j h hw
  by_cases h0 : j.print.2 = 0
  case neg =>
    have hno := noRo_bl j.print.1
    generalize j.print.1 = q at *
    generalize j.print.2 = w at *
    obtain ⟨k, t, ns, is⟩ := j
    simp only [J.pv_mk] at hp ⊢
    simp [run_thicketlaw10_JsonCuts, Run, hg, hp, h0, hno]
  have hc0 : j.check = 0 := by
    unfold J.print at h0
    split at h0
    · exact h0
    · rename_i hn
      exact Classical.byContradiction hn
  have hl : j.out.length ≤ 16777216 := by
    unfold J.print at h0
    rw [hc0, if_neg (by decide)] at h0
    split at h0
    · cases h0
    · omega
  have hpr : j.print = (j.out, 0) := by
    unfold J.print
    rw [hc0, if_neg (by decide), if_neg (by omega)]
  obtain ⟨g1, g2, g3⟩ := check_facts hc0
  rw [hpr] at hp
  have hno := noRo_bl j.out
  have hpos := out_pos g2
  obtain ⟨k, t, ns, is⟩ := j
  by_cases hk : k = 5 ∨ k = 6 ∨ k = 7
  case neg =>
    simp only [not_or] at hk
    obtain ⟨n5, n6, n7⟩ := hk
    generalize (J.mk k t ns is).out = q at *
    simp only [J.pv_mk] at hp ⊢
    simp [run_thicketlaw10_JsonCuts, Run, hg, hp, hno, n5, n6, n7]
  obtain ⟨a, ha⟩ := u64_some z
  have hm := out_many g2 rfl hk
  have hmod : a % (J.mk k t ns is).out.length < (J.mk k t ns is).out.length := Nat.mod_lt _ hpos
  obtain ⟨p, hpc, hcut⟩ := parse_cut g2 g3 g1 hl hm hmod
  have hloop := fun x y w => cut_loop (J.mk k t ns is).out (a % (J.mk k t ns is).out.length) p x y w hcut hmod hl
  have hz := c_rsame zeroJ zeroJ zero_ok
  rw [J.eq_refl] at hz
  have hlen : (bl (J.mk k t ns is).out).length = (J.mk k t ns is).out.length := by simp
  have htake : bl ((J.mk k t ns is).out.take (a % (J.mk k t ns is).out.length)) = (bl (J.mk k t ns is).out).take (a % (J.mk k t ns is).out.length) := (bl_take _ _).symm
  rw [htake] at hpc
  simp only [cE, Int.natCast_zero] at hloop
  generalize (J.mk k t ns is).out = M at *
  have hn0 : ¬ M.length = 0 := by omega
  have hw1 : IntKind.u64.wrap (M.length : Int) = (M.length : Int) := by
    unfold IntKind.wrap
    simp [IntKind.signed, IntKind.bits]
    omega
  have hrem : (a : Int).tmod (M.length : Int) = ((a % M.length : Nat) : Int) := rfl
  obtain ⟨K, hK⟩ : ∃ K, a % M.length = K := ⟨_, rfl⟩
  rw [hK] at hrem hmod hpc hloop
  have hw2 : IntKind.i64.wrap (K : Int) = (K : Int) := wrap_nat (by omega)
  have hKM : (K : Int) ≤ M.length := by omega
  have hKM2 : K ≤ M.length := by omega
  simp only [told, zeroJ, J.copied, J.parts, J.pv_mk, List.map_nil, eS] at hp hpc hz ⊢
  rcases hk with rfl | rfl | rfl <;> simp [run_thicketlaw10_JsonCuts, Run, hg, hp, hno, ha, hw1, hn0, hrem, hw2, hKM, hKM2, hpc, hz, hloop, -w0_thicketlaw10_JsonCuts]
end Go.AM.F
