/- The operations, continued: cuts of rows, loads, literals, rows made and grown. No conditions. -/
import Derived.Test.YtfkgoofipbbhpaaDoorAmOps2
import Derived.Great.BuildSlice
import Derived.Laws.BytesArg
namespace Go.AM
open Go

section
variable {P : Program} {B : Base} {a : Act} {H : Nat → Value} {e e' : Env} {w w' : World} {I : Nat → Prop} {blk : Nat → List Nat} {fl : List Nat}

/-! ### Cuts of rows -/
theorem bound_all {x : PV} {n j : Nat} {V : Value} {q : PV → Value → Prop} {bs : List Nat} (hR : R w I q x V bs) (h : bound x n = some j) (y : Nat) (hy : n ≤ y) (c : BoundsCode) : (∀ w2, (Instr.sliceBound V y c).run P w2 = .ok j w2) ∧ j ≤ n :=
  ⟨fun w2 => (bound_ok (P := P) (w2 := w2) hR h y hy c).1, (bound_ok (P := P) (w2 := w) hR h y hy c).2⟩
theorem run_sliceSl (h : Inv B e (refOK e (valOf a H) w) (valOf a H) w I blk []) {o : Oper} {t el : TypeId} {sz : Nat} {x : Opd} {lo hi mx : Option Opd} (hx : x.ok B.glob) (hlo : ∀ z ∈ lo, z.ok B.glob) (hhi : ∀ z ∈ hi, z.ok B.glob) (hmx : ∀ z ∈ mx, z.ok B.glob)
    (ho : o.op = .slice t x.op (lo.map (·.op)) (hi.map (·.op)) (mx.map (·.op))) (ht : P.underlying t = some (.slice el)) {ti : TypeInfo} (hti : P.info? el = some ti) (hsz : ti.size = sz)
    {y : PV} (hy : sliceSl e sz (x.ev e) (optPV e lo) (optPV e hi) (optPV e mx) = some y) :
    ∃ V, RunsF P o a V ∧ Yields B (valOf a H) e y V w := by
  have h1 := ev_ok h hx
  unfold sliceSl at hy
  simp only [Option.bind_eq_some_iff] at hy
  obtain ⟨⟨sz', l0⟩, hel, hy⟩ := hy
  simp only at hy
  split at hy
  · simp at hy
  · rename_i hc
    simp only [not_or, Decidable.not_not] at hc
    obtain ⟨rfl, hc⟩ := hc
    simp only [Option.bind_eq_some_iff] at hy
    obtain ⟨m, hm, hh, hhh, l, hl, hw⟩ := hy
    have hsl := elems_ok h h1 hel
    obtain ⟨hs, ad, cap, vs, hV, hcap, hr, hcells⟩ := id hsl
    -- the bounds
    obtain ⟨M, hM, hmM, hMcap⟩ : ∃ M, (∀ w2, (Instr.sliceBounds true l0.length cap ((lo.map (·.op)).map a.eval) ((hi.map (·.op)).map a.eval) ((mx.map (·.op)).map a.eval)).run P w2 = .ok (l, hh, M) w2) ∧ hh ≤ l0.length ∧ (l ≤ hh ∧ hh ≤ M ∧ M ≤ cap) := by
      have bl : ∀ z c, lo = some z → (∀ w2, (Instr.sliceBound (a.eval z.op) hh c).run P w2 = .ok l w2) ∧ l ≤ hh := by
        intro z c e2
        subst e2
        exact bound_all (ev_ok h (hlo z rfl)) hl hh (Nat.le_refl _) _
      have l0' : lo = none → l = 0 := by
        intro e2
        subst e2
        simpa [optPV, boundOr] using hl.symm
      cases mx with
      | none =>
        simp only [optPV, boundOr, Option.some.injEq] at hm
        subst hm
        cases hi with
        | none =>
          simp only [optPV, boundOr, Option.some.injEq] at hhh
          subst hhh
          cases lo with
          | none => obtain rfl := l0' rfl; exact ⟨cap, fun _ => by simp [Instr.sliceBounds], Nat.le_refl _, Nat.zero_le _, hcap, Nat.le_refl _⟩
          | some z =>
            obtain ⟨b1, b2⟩ := bl z .sliceB rfl
            exact ⟨cap, fun _ => by simp [Instr.sliceBounds, b1], Nat.le_refl _, b2, hcap, Nat.le_refl _⟩
        | some z' =>
          obtain ⟨c1, c2⟩ := bound_all (P := P) (ev_ok h (hhi z' rfl)) hhh cap hcap .sliceAcap
          cases lo with
          | none => obtain rfl := l0' rfl; exact ⟨cap, fun _ => by simp [Instr.sliceBounds, c1], c2, Nat.zero_le _, by omega, Nat.le_refl _⟩
          | some z =>
            obtain ⟨b1, b2⟩ := bl z .sliceB rfl
            exact ⟨cap, fun _ => by simp [Instr.sliceBounds, c1, b1], c2, b2, by omega, Nat.le_refl _⟩
      | some zm =>
        obtain ⟨d1, d2⟩ := bound_all (P := P) (ev_ok h (hmx zm rfl)) hm cap hcap .slice3Acap
        cases hi with
        | none => simp [optPV] at hc
        | some z' =>
          obtain ⟨c1, c2⟩ := bound_all (P := P) (ev_ok h (hhi z' rfl)) hhh m (Nat.le_refl _) .slice3B
          cases lo with
          | none => obtain rfl := l0' rfl; exact ⟨m, fun _ => by simp [Instr.sliceBounds, d1, c1], by omega, Nat.zero_le _, c2, by omega⟩
          | some z =>
            obtain ⟨b1, b2⟩ := bl z .slice3C rfl
            exact ⟨m, fun _ => by simp [Instr.sliceBounds, d1, c1, b1], by omega, b2, c2, by omega⟩
    have hrun : RunsF P o a (.slice (if M = l then ad else ad.map (·.add (l * sz'))) (hh - l) (M - l)) := by
      intro w2
      subst hsz
      simp only [execOp, ho, Instr.sliceAt, Instr.slice, hV, Sem.run_bind, run_underlying ht, Result.andThen_ok, hM, sizeOf, typeInfo, run_program, hti, Sem.run_pure]
    have hrel : (l = 0 → (if M = l then ad else ad.map (·.add (l * sz'))) = ad) ∧ (l < hh → (if M = l then ad else ad.map (·.add (l * sz'))) = ad.map (·.add (l * sz'))) := by
      by_cases e2 : M = l
      · exact ⟨fun _ => if_pos e2, fun g => by omega⟩
      · refine ⟨fun g => ?_, fun _ => if_neg e2⟩
        rw [if_neg e2, g]
        cases ad <;> simp [Addr.add]
    generalize (if M = l then ad else ad.map (·.add (l * sz'))) = ad' at hrun hrel
    refine ⟨_, hrun, ?_⟩
    have hlen : ((l0.take hh).drop l).length = hh - l := by simp; omega
    unfold window at hw
    split at hw
    · rename_i sz2 xs e1
      cases hw
      rw [e1] at hel h1
      simp only [elems, Option.some.injEq, Prod.mk.injEq] at hel
      obtain ⟨rfl, rfl⟩ := hel
      obtain ⟨_, _, ad2, cap2, hV2, _, h6⟩ := h1
      rw [hV] at hV2
      cases hV2
      refine Yields.of h rfl ⟨rfl, (hs.take hh).drop l, ad', M - l, by rw [hlen], by omega, ?_⟩
      by_cases he : hh = l
      · left
        apply List.eq_nil_of_length_eq_zero
        omega
      · right
        rcases h6 with rfl | ⟨A, vs2, rfl, hA, hIA, hr2, hcells2⟩
        · simp at hmM; omega
        · refine ⟨A.add (l * sz2), (vs2.take hh).drop l, hrel.2 (by omega), spot_add _ _ hA, by rw [block_add]; exact hIA, (hr2.take0 hh).drop0 l, ?_⟩
          have hsz2 := SzOk.sizes hs hr2
          rw [← flatV_drop (fun v hv => hsz2 v (List.mem_of_mem_take hv)), ← flatV_take hsz2]
          exact (hcells2.take _).drop hA _
    · rename_i sz2 e1
      cases hw
      rw [e1] at hel h1
      simp only [elems, Option.some.injEq, Prod.mk.injEq] at hel
      obtain ⟨rfl, rfl⟩ := hel
      simp only [List.length_nil] at hmM
      have h1' := h1.1
      rw [hV] at h1'
      simp only [Value.slice.injEq] at h1'
      obtain ⟨rfl, _, rfl⟩ := h1'
      refine Yields.of h rfl ⟨?_, rfl⟩
      rw [hrel.1 (by omega)]
      congr 1 <;> omega
    · rename_i s p e1
      cases hw
      rw [e1] at h1
      have h1' := h1.2
      simp only [refOK] at h1'
      refine Yields.of h rfl ⟨rfl, rfl, fun ob => ⟨ad, l0.length, cap, ad', M - l, ?_, rfl, hMcap.1, hmM, by omega, by omega, hrel⟩⟩
      rw [h1'.2 ob, hV]
    · rename_i s p sw lo' hi' e1
      cases hw
      rw [e1] at h1 hel
      have h1' := h1.2
      simp only [refOK] at h1'
      simp only [elems] at hel
      split at hel
      · rename_i sz3 l3 hat
        split at hel
        · rename_i hc3
          subst hc3
          simp only [Option.some.injEq, Prod.mk.injEq] at hel
          obtain ⟨rfl, hl0⟩ := hel
          refine Yields.of h rfl ⟨rfl, rfl, fun ob => ?_⟩
          obtain ⟨ad0, n0, cap0, ad1, cap1, g1, g2, g3, g4, g5, g6, g7⟩ := h1'.2 ob
          rw [hV] at g2
          simp only [Value.slice.injEq] at g2
          obtain ⟨rfl, g2, rfl⟩ := g2
          refine ⟨ad0, n0, cap0, ad', M - l, g1, by congr 1; omega, by omega, by omega, by omega, by omega, fun k => ?_, fun k => ?_⟩
          · rw [hrel.1 (by omega), g7.1 (by omega)]
          · rw [hrel.2 (by omega), g7.2 (by omega)]
            cases ad0 with
            | none => rfl
            | some A0 =>
              simp only [Option.map_some]
              congr 1
              unfold Addr.add
              repeat' split
              all_goals simp_all [Nat.add_mul, Nat.add_assoc]
              all_goals omega
        · simp at hel
      · simp at hel
    · simp at hw
end
end Go.AM
