/- FixedBack. No conditions. -/
import Derived.Test.YtbghahcgjnlnlaaGreatDoorRb
import Derived.Test.YtbghahcgjnlnlaaGreatDoorD0
/- What is printed is read as it was: plain law. No conditions. -/
namespace Go.AM.F
open Go Go.AM
set_option maxRecDepth 10000
set_option linter.unusedSimpArgs false

theorem chL (A : List UInt8) (x : UInt8) (C : List UInt8) : ch (tx (A ++ x :: C)) A.length = x.toNat := by
  rw [ch_tx]
  simp
/-- Where digits end that stand amid others. -/
theorem dgE_list : ∀ (B A C : List UInt8), AllD B → (∀ x C', C = x :: C' → x.toNat < 48 ∨ 57 < x.toNat) → dgE (tx (A ++ (B ++ C))) A.length = A.length + B.length
  | [], A, C, _, hC => by
    rw [List.nil_append, List.length_nil, Nat.add_zero]
    cases C with
    | nil => exact dgE_end _ (by simp)
    | cons x C' =>
      refine dgE_here _ (by simp) ?_
      unfold badDig
      rw [chL]
      have := hC x C' rfl
      simp
      omega
  | b :: B, A, C, hB, hC => by
    have h1 := hB b (by simp)
    have hb : badDig (tx (A ++ (b :: B ++ C))) A.length = false := by
      unfold badDig
      rw [List.cons_append, chL]
      simp
      omega
    rw [dgE_next _ (by simp) hb]
    have h2 := dgE_list B (A ++ [b]) C (fun x hx => hB x (by simp [hx])) hC
    rw [List.append_assoc, List.singleton_append, List.length_append, List.length_singleton] at h2
    rw [List.cons_append, h2, List.length_cons]
    omega
theorem sub_list (A B C : List UInt8) : sub (tx (A ++ (B ++ C))) A.length (A.length + B.length) = B := by
  unfold sub
  rw [tx_data, ← List.append_assoc, List.take_append_of_le_length (by simp), List.take_of_length_le (by simp), List.drop_left]
theorem dV_inj : ∀ {l l' : List UInt8}, AllD l → AllD l' → l.length = l'.length → dV l = dV l' → l = l'
  | [], [], _, _, _, _ => rfl
  | [], _ :: _, _, _, h, _ => by simp at h
  | _ :: _, [], _, _, h, _ => by simp at h
  | x :: l, y :: l', hl, hl', h, hv => by
    have hlen : l.length = l'.length := by simpa using h
    have h1 : AllD l := fun z hz => hl z (by simp [hz])
    have h2 : AllD l' := fun z hz => hl' z (by simp [hz])
    have hx := hl x (by simp)
    have hy := hl' y (by simp)
    rw [dV_cons, dV_cons, hlen] at hv
    have l1 := dV_lt h1
    have l2 := dV_lt h2
    rw [hlen] at l1
    have hp : 0 < 10 ^ l'.length := Nat.pow_pos (by decide)
    obtain ⟨K, hK⟩ : ∃ K, 10 ^ l'.length = K := ⟨_, rfl⟩
    rw [hK] at hv l1 l2 hp
    have e1 : (K * (x.toNat - 48) + dV l) / K = x.toNat - 48 := by rw [Nat.mul_add_div hp, Nat.div_eq_of_lt l1]; rfl
    have e2 : (K * (y.toNat - 48) + dV l') / K = y.toNat - 48 := by rw [Nat.mul_add_div hp, Nat.div_eq_of_lt l2]; rfl
    rw [hv, e2] at e1
    have e3 : x = y := UInt8.toNat_inj.1 (by omega)
    subst e3
    rw [dV_inj h1 h2 hlen (by omega)]
theorem rtrim_zeros_end (l : List UInt8) (n : Nat) : rtrim (l ++ List.replicate n 48) = rtrim l := by
  rcases split_zeros l with ⟨r, b, m, hb, rfl⟩ | ⟨m, rfl⟩
  · rw [List.append_assoc, List.cons_append, List.replicate_append_replicate, rtrim_eq r b hb, rtrim_eq r b hb]
  · rw [List.replicate_append_replicate, rtrim_zeros, rtrim_zeros]
theorem rtrim_len (l : List UInt8) : (rtrim l).length ≤ l.length := by
  unfold rtrim
  rw [List.length_reverse]
  have := (List.dropWhile_sublist (· == 48) (l := l.reverse)).length_le
  simpa using this
theorem rtrim_back (l : List UInt8) : rtrim l ++ List.replicate (l.length - (rtrim l).length) 48 = l := by
  rcases split_zeros l with ⟨r, b, m, hb, rfl⟩ | ⟨m, rfl⟩
  · rw [rtrim_eq r b hb]
    have : (r ++ b :: List.replicate m 48).length - (r ++ [b]).length = m := by simp; omega
    rw [this, List.append_assoc, List.singleton_append]
  · rw [rtrim_zeros]
    simp
theorem rtrim_all {l : List UInt8} (h : AllD l) : AllD (rtrim l) := by
  have h1 := rtrim_back l
  intro x hx
  exact h x (by rw [← h1]; simp [hx])
theorem pad6_all (n : Nat) : AllD (pad6 n) := (AllD.zeros _).append (digs_all n)
theorem pad6_val (n : Nat) : dV (pad6 n) = n := by
  unfold pad6
  rw [dV_append, dV_zeros, digs_val, Nat.mul_zero, Nat.zero_add]
theorem pad6_len {n : Nat} (h : n < 1000000) : (pad6 n).length = 6 := by
  have := digs_len 6 n (by decide) h
  unfold pad6
  simp
  omega
/-- What is read of a sign, digits and no point. -/
theorem rd4_plain (neg : Bool) (D : List UInt8) (hD : AllD D) (h0 : D ≠ []) (hl : D.length ≤ 4000) : rd4 (tx ((if neg then [45] else []) ++ D)) = valF neg (dV (D ++ List.replicate 6 48)) := by
  obtain ⟨S, hS⟩ : ∃ S : List UInt8, (if neg then [45] else []) = S := ⟨_, rfl⟩
  have hS1 : S.length ≤ 1 := by rw [← hS]; cases neg <;> simp
  have hneg : negT (tx (S ++ D)) = neg := by
    rw [← hS]
    cases neg with
    | false => exact decide_eq_false (first_dig hD)
    | true => exact decide_eq_true ⟨by simp, by rw [ch_tx]; rfl⟩
  rw [hS]
  have hfr : fr (tx (S ++ D)) = S.length := by
    unfold fr
    rw [hneg, ← hS]
    cases neg <;> rfl
  have hd := dgE_list D S [] hD (fun _ _ h => by cases h)
  rw [List.append_nil] at hd
  have hw : wE (tx (S ++ D)) = S.length + D.length := by
    unfold wE
    rw [hfr]
    exact hd
  have hsz : (tx (S ++ D)).size = S.length + D.length := by simp
  have hdot : dotT (tx (S ++ D)) = false := by
    unfold dotT
    refine decide_eq_false ?_
    rw [hw, hsz]
    omega
  have hwl : wL (tx (S ++ D)) = D := by
    unfold wL
    rw [hfr, hw]
    have := sub_list S D []
    rwa [List.append_nil] at this
  have hpl : pL (tx (S ++ D)) = [] := by unfold pL; rw [hdot]; rfl
  have hdl : 0 < D.length := by cases D with
    | nil => exact (h0 rfl).elim
    | cons => simp
  unfold rd4 rdU
  rw [hwl, hpl, hneg, hfr, hw, hsz, if_neg (by omega), if_neg (by omega), hdot, if_neg (by simp), if_neg (by omega), List.append_nil]
  rfl
theorem rd4_point (neg : Bool) (D F : List UInt8) (hD : AllD D) (h0 : D ≠ []) (hl : D.length ≤ 4000) (hF : AllD F) (f0 : F ≠ []) (f6 : F.length ≤ 6) : rd4 (tx ((if neg then [45] else []) ++ (D ++ 46 :: F))) = valF neg (dV (D ++ (F ++ List.replicate (6 - F.length) 48))) := by
  obtain ⟨S, hS⟩ : ∃ S : List UInt8, (if neg then [45] else []) = S := ⟨_, rfl⟩
  have hS1 : S.length ≤ 1 := by rw [← hS]; cases neg <;> simp
  have hdl : 0 < D.length := by cases D with
    | nil => exact (h0 rfl).elim
    | cons => simp
  have hfl : 0 < F.length := by cases F with
    | nil => exact (f0 rfl).elim
    | cons => simp
  have hneg : negT (tx (S ++ (D ++ 46 :: F))) = neg := by
    rw [← hS]
    cases neg with
    | false =>
      refine decide_eq_false ?_
      rintro ⟨_, h2⟩
      cases D with
      | nil => exact h0 rfl
      | cons x D =>
        have h3 := hD x (by simp)
        rw [ch_tx] at h2
        simp at h2
        omega
    | true => exact decide_eq_true ⟨by simp, by rw [ch_tx]; rfl⟩
  rw [hS]
  have hfr : fr (tx (S ++ (D ++ 46 :: F))) = S.length := by
    unfold fr
    rw [hneg, ← hS]
    cases neg <;> rfl
  have hw : wE (tx (S ++ (D ++ 46 :: F))) = S.length + D.length := by
    unfold wE
    rw [hfr]
    exact dgE_list D S (46 :: F) hD (fun x C' h => by cases h; decide)
  have hsz : (tx (S ++ (D ++ 46 :: F))).size = S.length + D.length + 1 + F.length := by simp; omega
  have hc : ch (tx (S ++ (D ++ 46 :: F))) (S.length + D.length) = 46 := by
    have := chL (S ++ D) 46 F
    rw [List.append_assoc, List.length_append] at this
    exact this
  have hdot : dotT (tx (S ++ (D ++ 46 :: F))) = true := by
    unfold dotT
    refine decide_eq_true ?_
    rw [hw, hsz]
    exact ⟨by omega, hc⟩
  have hp : pE (tx (S ++ (D ++ 46 :: F))) = S.length + D.length + 1 + F.length := by
    unfold pE
    rw [hw]
    have := dgE_list F (S ++ D ++ [46]) [] hF (fun _ _ h => by cases h)
    rw [List.append_nil] at this
    simp only [List.append_assoc, List.singleton_append, List.length_append, List.length_singleton] at this
    rw [← Nat.add_assoc S.length D.length 1] at this
    exact this
  have hwl : wL (tx (S ++ (D ++ 46 :: F))) = D := by
    unfold wL
    rw [hfr, hw]
    exact sub_list S D (46 :: F)
  have hpl : pL (tx (S ++ (D ++ 46 :: F))) = F := by
    unfold pL
    rw [hdot, if_pos rfl, hw, hp]
    have := sub_list (S ++ D ++ [46]) F []
    rw [List.append_nil] at this
    simp only [List.append_assoc, List.singleton_append, List.length_append, List.length_singleton] at this
    rw [← Nat.add_assoc S.length D.length 1] at this
    exact this
  unfold rd4 rdU
  rw [hwl, hpl, hneg, hfr, hw, hp, hsz, hdot, if_neg (by omega), if_neg (by omega), if_pos rfl, if_neg (by omega), if_neg (by omega), if_neg (by omega), List.append_assoc]
theorem valF_back {v : Int} (h1 : -9223372036854775808 ≤ v) (h2 : v < 9223372036854775808) : valF (decide (v < 0)) v.natAbs = .tup [.v (.int .i64 v), .v (.int .i64 0), .v (.int .i64 0)] := by
  unfold valF
  by_cases h : v < 0
  · rw [decide_eq_true h, if_neg (by rintro (k | ⟨_, k⟩); omega; cases k), if_pos rfl]
    have : -(v.natAbs : Int) = v := by omega
    rw [this]
  · rw [decide_eq_false h, if_neg (by omega), if_neg (by decide)]
    have : (v.natAbs : Int) = v := by omega
    rw [this]
theorem prL_len {v : Int} (h1 : -9223372036854775808 ≤ v) (h2 : v < 9223372036854775808) : (digs (v.natAbs / 1000000)).length ≤ 20 := by
  refine digs_len 20 _ (by decide) (Nat.lt_of_le_of_lt (show v.natAbs / 1000000 ≤ 9223372036854775808 by omega) (by decide))
theorem read_back {v : Int} (h1 : -9223372036854775808 ≤ v) (h2 : v < 9223372036854775808) : rd4 (tx (prL v)) = .tup [.v (.int .i64 v), .v (.int .i64 0), .v (.int .i64 0)] := by
  have hlen := prL_len h1 h2
  rw [← valF_back h1 h2]
  unfold prL
  have hs : (if v < 0 then [45] else ([] : List UInt8)) = if decide (v < 0) then [45] else [] := by
    by_cases h : v < 0
    · rw [if_pos h, decide_eq_true h]; rfl
    · rw [if_neg h, decide_eq_false h]; rfl
  rw [hs]
  obtain ⟨n, hn⟩ : ∃ n, v.natAbs = n := ⟨_, rfl⟩
  rw [hn] at hlen ⊢
  by_cases hz : n % 1000000 = 0
  · rw [if_pos hz, List.append_nil, rd4_plain _ _ (digs_all _) (digs_ne _) (by omega), dV_append, dV_zeros, digs_val]
    congr 1
    simp
    omega
  · rw [if_neg hz]
    have hlt : n % 1000000 < 1000000 := Nat.mod_lt _ (by decide)
    have hb := rtrim_back (pad6 (n % 1000000))
    have h6 := pad6_len hlt
    rw [h6] at hb
    have hr := rtrim_len (pad6 (n % 1000000))
    rw [h6] at hr
    have hne : rtrim (pad6 (n % 1000000)) ≠ [] := by
      intro h
      rw [h, List.nil_append, List.length_nil] at hb
      have h3 := congrArg dV hb
      rw [dV_zeros, pad6_val] at h3
      omega
    rw [rd4_point _ _ _ (digs_all _) (digs_ne _) (by omega) (rtrim_all (pad6_all _)) hne hr, hb, dV_append, digs_val, pad6_val, h6]
    congr 1
    omega
/-- What is read, if nothing is wrong. -/
theorem rd4_ok {s : ByteArray} {v k : Int} (h : rd4 s = .tup [.v (.int .i64 v), .v (.int .i64 0), .v (.int .i64 k)]) :
    ¬ 4096 < s.size ∧ wE s ≠ fr s ∧ (dotT s = true → pE s ≠ wE s + 1 ∧ pE s ≤ wE s + 7 ∧ pE s = s.size) ∧ (dotT s = false → wE s = s.size) ∧ valF (negT s) (dV (rdU s)) = .tup [.v (.int .i64 v), .v (.int .i64 0), .v (.int .i64 k)] := by
  have hbad : ∀ q, badF q ≠ .tup [.v (.int .i64 v), .v (.int .i64 0), .v (.int .i64 k)] := by
    intro q hq
    unfold badF at hq
    simp at hq
  unfold rd4 at h
  by_cases c0 : 4096 < s.size
  · rw [if_pos c0] at h
    simp at h
  rw [if_neg c0] at h
  by_cases c1 : wE s = fr s
  · rw [if_pos c1] at h
    exact (hbad _ h).elim
  rw [if_neg c1] at h
  cases hd : dotT s with
  | true =>
    rw [hd, if_pos rfl] at h
    by_cases c3 : pE s = wE s + 1
    · rw [if_pos c3] at h
      exact (hbad _ h).elim
    rw [if_neg c3] at h
    by_cases c4 : wE s + 7 < pE s
    · rw [if_pos c4] at h
      exact (hbad _ h).elim
    rw [if_neg c4] at h
    by_cases c5 : pE s < s.size
    · rw [if_pos c5] at h
      exact (hbad _ h).elim
    rw [if_neg c5] at h
    have := pE_le hd
    exact ⟨c0, c1, fun _ => ⟨c3, by omega, by omega⟩, (by intro h; cases h), h⟩
  | false =>
    rw [hd, if_neg (by simp)] at h
    by_cases c5 : wE s < s.size
    · rw [if_pos c5] at h
      exact (hbad _ h).elim
    rw [if_neg c5] at h
    have := wE_le s
    exact ⟨c0, c1, (by intro h; cases h), fun _ => by omega, h⟩
theorem rd4_wrong {s : ByteArray} {v e k : Int} (h : rd4 s = .tup [.v (.int .i64 v), .v (.int .i64 e), .v (.int .i64 k)]) (he : e ≠ 0) : v = 0 := by
  have hbad : ∀ q, badF q = .tup [.v (.int .i64 v), .v (.int .i64 e), .v (.int .i64 k)] → v = 0 := by
    intro q hq
    unfold badF at hq
    simp at hq
    omega
  have hval : ∀ b m, valF b m = .tup [.v (.int .i64 v), .v (.int .i64 e), .v (.int .i64 k)] → v = 0 := by
    intro b m hq
    unfold valF at hq
    by_cases c : 9223372036854775808 < m ∨ (m = 9223372036854775808 ∧ b = false)
    · rw [if_pos c] at hq
      simp at hq
      omega
    · rw [if_neg c] at hq
      simp at hq
      omega
  unfold rd4 at h
  by_cases c0 : 4096 < s.size
  · rw [if_pos c0] at h
    simp at h
    omega
  rw [if_neg c0] at h
  by_cases c1 : wE s = fr s
  · rw [if_pos c1] at h
    exact hbad _ h
  rw [if_neg c1] at h
  by_cases c2 : dotT s = true
  · rw [if_pos c2] at h
    by_cases c3 : pE s = wE s + 1
    · rw [if_pos c3] at h
      exact hbad _ h
    rw [if_neg c3] at h
    by_cases c4 : wE s + 7 < pE s
    · rw [if_pos c4] at h
      exact hbad _ h
    rw [if_neg c4] at h
    by_cases c5 : pE s < s.size
    · rw [if_pos c5] at h
      exact hbad _ h
    rw [if_neg c5] at h
    exact hval _ _ h
  · rw [if_neg c2] at h
    by_cases c5 : wE s < s.size
    · rw [if_pos c5] at h
      exact hbad _ h
    rw [if_neg c5] at h
    exact hval _ _ h
theorem dV_rdU (s : ByteArray) : dV (rdU s) = nD s * 10 ^ (6 - (pL s).length) := by
  unfold rdU nD
  rw [dV_append, dV_zeros, List.length_replicate, Nat.add_zero, Nat.mul_comm]
/-- What Read says, Rounded says. -/
theorem rounded_same {s : ByteArray} {v k : Int} (h : rd4 s = .tup [.v (.int .i64 v), .v (.int .i64 0), .v (.int .i64 k)]) : dcm s = .tup [.v (.int .i64 v), .v (.int .i64 0), .v (.int .i64 k)] := by
  obtain ⟨c0, c1, c2, c3, c4⟩ := rd4_ok h
  have he0 : e0 s = s.size := by
    unfold e0
    cases hd : dotT s
    · exact c3 hd
    · exact (c2 hd).2.2
  have het : eT s = false := by
    unfold eT
    refine decide_eq_false ?_
    rw [he0]
    omega
  have hf : fD s = none := by
    unfold fD fT
    rw [if_neg c1, if_neg (fun k => (c2 k.1).1 k.2), het, he0, if_neg (by simp), if_neg (by omega)]
  have hpl : (pL s).length ≤ 6 := by
    unfold pL
    cases hd : dotT s with
    | false => simp
    | true =>
      rw [if_pos rfl, sub_len s (pE_le hd).2]
      have := (c2 hd).2.1
      omega
  have hpw : pwL s = [] := by unfold pwL; rw [het]; rfl
  have hpI : pwI s = 0 := by
    unfold pwI pwN
    rw [hpw]
    have hsg : sgT s = .none := by unfold sgT; rw [het]; rfl
    rw [hsg]
    rfl
  have hp : pD s = ((6 - (pL s).length : Nat) : Int) := by
    unfold pD
    rw [hpI]
    omega
  unfold dcm dcmI
  rw [if_neg c0, hf]
  show valF (negT s) (rdec (nD s) (pD s)) = _
  rw [hp]
  unfold rdec
  rw [if_pos (by omega), Int.toNat_natCast, ← dV_rdU]
  exact c4
/-- It is written no longer. -/
theorem no_longer {s : ByteArray} {v k : Int} (h : rd4 s = .tup [.v (.int .i64 v), .v (.int .i64 0), .v (.int .i64 k)]) : ((prL v).length ≤ s.size ∨ v = 0) ∧ k = 0 ∧ -9223372036854775808 ≤ v ∧ v < 9223372036854775808 := by
  obtain ⟨c0, c1, c2, c3, c4⟩ := rd4_ok h
  have hwl := wL_len s
  have hwe := wE_le s
  obtain ⟨m, hm⟩ : ∃ m, dV (rdU s) = m := ⟨_, rfl⟩
  rw [hm] at c4
  have hmv : dV (wL s) * 1000000 + dV (pL s ++ List.replicate (6 - (pL s).length) 48) = m := by
    rw [← hm]
    unfold rdU
    rw [List.append_assoc, dV_append (wL s)]
    have h6 : (pL s ++ List.replicate (6 - (pL s).length) 48).length = 6 := by
      have hpl : (pL s).length ≤ 6 := by
        unfold pL
        cases hd : dotT s with
        | false => simp
        | true =>
          rw [if_pos rfl, sub_len s (pE_le hd).2]
          have := (c2 hd).2.1
          omega
      simp
      omega
    rw [h6, Nat.mul_comm]
  unfold valF at c4
  by_cases hbig : 9223372036854775808 < m ∨ (m = 9223372036854775808 ∧ negT s = false)
  · rw [if_pos hbig] at c4
    simp at c4
  rw [if_neg hbig] at c4
  simp at c4
  obtain ⟨hv, hk⟩ := c4
  have hv1 : v.natAbs = m ∧ (v < 0 → negT s = true) ∧ -9223372036854775808 ≤ v ∧ v < 9223372036854775808 := by
    cases hN : negT s with
    | true =>
      rw [hN, if_pos rfl] at hv
      have : ¬ 9223372036854775808 < m := fun h => hbig (.inl h)
      exact ⟨by omega, fun _ => rfl, by omega, by omega⟩
    | false =>
      rw [hN, if_neg (by simp)] at hv
      have h1 : ¬ 9223372036854775808 < m := fun h => hbig (.inl h)
      have h2 : ¬ m = 9223372036854775808 := fun h => hbig (.inr ⟨h, hN⟩)
      exact ⟨by omega, fun h => by omega, by omega, by omega⟩
  refine ⟨?_, by omega, hv1.2.2.1, hv1.2.2.2⟩
  by_cases hv0 : v = 0
  · exact .inr hv0
  left
  have hpl : (pL s).length ≤ 6 := by
    unfold pL
    cases hd : dotT s with
    | false => simp
    | true =>
      rw [if_pos rfl, sub_len s (pE_le hd).2]
      have := (c2 hd).2.1
      omega
  have hall : AllD (pL s ++ List.replicate (6 - (pL s).length) 48) := (pL_all s).append (AllD.zeros _)
  have hl6 : (pL s ++ List.replicate (6 - (pL s).length) 48).length = 6 := by simp; omega
  have hlt := dV_lt hall
  rw [hl6] at hlt
  obtain ⟨low, hlow⟩ : ∃ low, dV (pL s ++ List.replicate (6 - (pL s).length) 48) = low := ⟨_, rfl⟩
  rw [hlow] at hlt hmv
  have hq : m / 1000000 = dV (wL s) := by omega
  have hr : m % 1000000 = low := by omega
  have hwpos : 0 < (wL s).length := by omega
  have hdig : (digs (dV (wL s))).length ≤ (wL s).length := digs_len _ _ hwpos (dV_lt (wL_all s))
  have hpad : pad6 low = pL s ++ List.replicate (6 - (pL s).length) 48 := by
    refine dV_inj (pad6_all _) hall ?_ ?_
    · rw [hl6, pad6_len hlt]
    · rw [pad6_val, hlow]
  have htl : (rtrim (pad6 low)).length ≤ (pL s).length := by
    rw [hpad, rtrim_zeros_end]
    exact rtrim_len _
  have hfr : v < 0 → fr s = 1 := fun h => by unfold fr; rw [hv1.2.1 h]; rfl
  unfold prL
  rw [hv1.1, hq, hr]
  have hs1 : (if v < 0 then [45] else ([] : List UInt8)).length ≤ fr s := by
    by_cases h : v < 0
    · rw [if_pos h, hfr h]; simp
    · rw [if_neg h]; simp
  rw [List.length_append, List.length_append]
  cases hd : dotT s with
  | true =>
    have h1 := c2 hd
    have h2 := pE_le hd
    have h3 : (pL s).length = pE s - (wE s + 1) := by unfold pL; rw [hd, if_pos rfl, sub_len s h2.2]
    by_cases hz : low = 0
    · rw [if_pos hz]
      simp only [List.length_nil]
      omega
    · rw [if_neg hz, List.length_cons]
      omega
  | false =>
    have h1 := c3 hd
    have h3 : pL s = [] := by unfold pL; rw [hd]; rfl
    have hz : low = 0 := by
      rw [← hlow, h3, List.nil_append, dV_zeros]
    rw [if_pos hz]
    simp only [List.length_nil]
    omega
end Go.AM.F

/- FixedBack: it answers true at every input. No conditions. -/
namespace Go.AM.F
open Go Go.AM
set_option maxRecDepth 10000
set_option linter.unusedSimpArgs false
attribute [local simp] j0_thicketlaw04_FixedBack j1_thicketlaw04_FixedBack j2_thicketlaw04_FixedBack j3_thicketlaw04_FixedBack b_thicketlaw04_FixedBack a_thicketlaw04_FixedBack
theorem c_FixedBack (v : Int) (s : ByteArray) (h1 : -9223372036854775808 ≤ v) (h2 : v < 9223372036854775808) (hs : s.size ≤ 4611686018427387903) : ∃ backs, Cinf T n_thicketlaw04_FixedBack [.v (.int .i64 v), .v (.string s)] = some (.v (.bool true), backs) := by
  have p1 := c_fPrint v h1 h2
  have r1 := c_fRead (tx (prL v)) (by
    have hl := prL_len h1 h2
    have hr := rtrim_len (pad6 (v.natAbs % 1000000))
    rw [pad6_len (Nat.mod_lt _ (by decide))] at hr
    rw [tx_size]
    unfold prL
    rw [List.length_append, List.length_append]
    have e1 : (if v < 0 then [45] else ([] : List UInt8)).length ≤ 1 := by split <;> simp
    have e2 : (if v.natAbs % 1000000 = 0 then [] else 46 :: rtrim (pad6 (v.natAbs % 1000000))).length ≤ 7 := by
      split
      · simp
      · rw [List.length_cons]; omega
    omega)
  rw [read_back h1 h2] at r1
  have r2 := c_fRead s hs
  have d1 := c_fRounded s
  obtain ⟨a, e, k, hr⟩ := rd4_tup s
  rw [hr] at r2
  rw [run_thicketlaw04_FixedBack]
  obtain ⟨t, ht⟩ : ∃ t, tx (prL v) = t := ⟨_, rfl⟩
  rw [ht] at p1 r1
  by_cases he : e = 0
  · subst he
    obtain ⟨hlen, rfl, a1, a2⟩ := no_longer hr
    rw [rounded_same hr] at d1
    have p2 := c_fPrint a a1 a2
    have r3 := c_fRead (tx (prL a)) (by
      have hl := prL_len a1 a2
      have hr := rtrim_len (pad6 (a.natAbs % 1000000))
      rw [pad6_len (Nat.mod_lt _ (by decide))] at hr
      rw [tx_size]
      unfold prL
      rw [List.length_append, List.length_append]
      have e1 : (if a < 0 then [45] else ([] : List UInt8)).length ≤ 1 := by split <;> simp
      have e2 : (if a.natAbs % 1000000 = 0 then [] else 46 :: rtrim (pad6 (a.natAbs % 1000000))).length ≤ 7 := by
        split
        · simp
        · rw [List.length_cons]; omega
      omega)
    rw [read_back a1 a2] at r3
    have hlen2 : (tx (prL a)).size ≤ s.size ∨ a = 0 := by rw [tx_size]; exact hlen
    obtain ⟨u, hu⟩ : ∃ u, tx (prL a) = u := ⟨_, rfl⟩
    rw [hu] at p2 r3 hlen2
    rcases hlen2 with hl | hl
    · exact ⟨_, by simp [Run, c_begins, p1, r1, r2, d1, p2, r3, hl]; rfl⟩
    · subst hl
      by_cases hl2 : u.size ≤ s.size
      · exact ⟨_, by simp [Run, c_begins, p1, r1, r2, d1, p2, r3, hl2]; rfl⟩
      · exact ⟨_, by simp [Run, c_begins, p1, r1, r2, d1, p2, r3, hl2]; rfl⟩
  · have ha := rd4_wrong hr he
    subst ha
    exact ⟨_, by simp [Run, c_begins, p1, r1, r2, he]; rfl⟩
end Go.AM.F
