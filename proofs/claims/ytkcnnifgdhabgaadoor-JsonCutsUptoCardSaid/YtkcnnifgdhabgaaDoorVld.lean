/- unicode/utf8.ValidString: what it answers, from the kit's contract. No conditions. -/
import Derived.Test.YtkcnnifgdhabgaaDoorAmVal
import Derived.Test.YtkcnnifgdhabgaaDoorChecked
import Derived.Shelf.Unicode.ValidAny
import Derived.WalkKit
set_option linter.unusedVariables false
namespace Go.AM.F
open Go Go.AM Go.Proofs

set_option maxRecDepth 100000
def vldRen : Go.Shelf.Ren := ⟨fun | 196 => 54 | 259 => 68 | n => n, fun | 0 => 0 | 3 => 3 | 4 => 4 | 5 => 5 | 9 => 9 | 12 => 12 | 46 => 74 | 53 => 40 | 119 => 79 | 138 => 81 | 139 => 82 | n => n, fun | 3 => 0 | 4 => 1 | n => n⟩
theorem vldLay : Lays.n196 Tryd.prog vldRen where
  mixed := by kernel_rfl
  f196 := Tryd.func54.trans (congrArg some (by kernel_rfl))
  f259 := Tryd.func68.trans (congrArg some (by kernel_rfl))
  t0 := Tryd.underlying0
  a0 := Tryd.isAgg0
  z0 := Tryd.sizeOf0
  v0 := Tryd.zeroValue0
  t3 := Tryd.underlying3
  a3 := Tryd.isAgg3
  z3 := Tryd.sizeOf3
  v3 := Tryd.zeroValue3
  t4 := Tryd.underlying4
  a4 := Tryd.isAgg4
  z4 := Tryd.sizeOf4
  v4 := Tryd.zeroValue4
  t5 := Tryd.underlying5
  a5 := Tryd.isAgg5
  z5 := Tryd.sizeOf5
  v5 := Tryd.zeroValue5
  t9 := Tryd.underlying9
  a9 := Tryd.isAgg9
  z9 := Tryd.sizeOf9
  v9 := Tryd.zeroValue9
  t12 := Tryd.underlying12
  a12 := Tryd.isAgg12
  z12 := Tryd.sizeOf12
  v12 := Tryd.zeroValue12
  t46 := Tryd.underlying74
  a46 := Tryd.isAgg74
  z46 := Tryd.sizeOf74
  v46 := Tryd.zeroValue74
  t53 := Tryd.underlying40
  a53 := Tryd.isAgg40
  z53 := Tryd.sizeOf40
  v53 := Tryd.zeroValue40
  t119 := Tryd.underlying79
  a119 := Tryd.isAgg79
  z119 := Tryd.sizeOf79
  t138 := Tryd.underlying81
  a138 := Tryd.isAgg81
  z138 := Tryd.sizeOf81
  v138 := Tryd.zeroValue81
  t139 := Tryd.underlying82
  a139 := Tryd.isAgg82
  z139 := Tryd.sizeOf82
  v139 := Tryd.zeroValue82
  g3 := by kernel_rfl
  g4 := by kernel_rfl
def tabF : List Int := (List.range 256).map fun c => (Lib.firstT c : Int)
def tabA : List Int := (List.range 32).map fun j => if j % 2 = 0 then (Lib.accLo (j / 2) : Int) else (Lib.accHi (j / 2) : Int)
theorem ints_us {w : World} {I : Nat → Prop} {q : PV → Value → Prop} {k : IntKind} : ∀ (zs : List Int) (us : List Value), Rs w I q (zs.map fun z => .v (.int k z)) us [] → us = zs.map fun z => .int k z
  | [], us, h => h.1
  | z :: zs, us, h => by
    obtain ⟨v, us', b1, b2, rfl, e, ⟨rfl, _, _⟩, h2⟩ := h
    obtain ⟨rfl, rfl⟩ : b1 = [] ∧ b2 = [] := by simpa using e.symm
    rw [ints_us zs us' h2]
    rfl
theorem tab_cell {w : World} {I : Nat → Prop} {g : Nat} {zs : List Int} (h : R w I nope (.raddr (zs.map fun z => .v (.int .u8 z))) (.pointer (some ⟨g, 0, none⟩)) []) (j : Nat) (z : Int) (hz : zs[j]? = some z) : w.cell? ⟨g, j, none⟩ = some (.int .u8 z) := by
  obtain ⟨_, A, us, hA, _, hIA, hus, hc⟩ := h
  cases hA
  have hus := ints_us zs us hus
  subst hus
  have := hc j (.int .u8 z) (by rw [List.getElem?_map, hz]; rfl)
  have e2 : (⟨g, 0, none⟩ : Addr).add j = ⟨g, j, none⟩ := by
    cases j with
    | zero => rfl
    | succ j => simp [Addr.add]
  rw [e2] at this
  exact this
theorem valid_ok : ∀ xs y backs, xValidString xs = some (y, backs) → ∀ (w : World) (I : Nat → Prop) (vs : List Value) (bss : List Nat), (∀ b, I b → b < w.heap.size) → R w I nope (.raddr (tabF.map fun z => .v (.int .u8 z))) (.pointer (some ⟨0, 0, none⟩)) [] → R w I nope (.raddr (tabA.map fun z => .v (.int .u8 z))) (.pointer (some ⟨1, 0, none⟩)) [] → Rs w I nope xs vs bss →
    Calls Tryd.prog 54 vs.toArray w fun e w' => ∃ V, e = ends y V ∧ Left w I bss vs w' y V backs := by
  intro xs y backs h w I vs bss hI hF hA hx
  have htab : Lib.Utf8Tabs (vldRen.g 3) (vldRen.g 4) w := by
    refine ⟨fun c hc => ?_, fun i hi => ⟨?_, ?_⟩⟩
    · exact tab_cell hF c _ (by simp [tabF, hc])
    · refine tab_cell hA (2 * i) (Lib.accLo i : Int) ?_
      have h1 : 2 * i < 32 := by omega
      have h2 : 2 * i / 2 = i := by omega
      simp [tabA, h1, h2]
    · refine tab_cell hA (2 * i + 1) (Lib.accHi i : Int) ?_
      have h1 : 2 * i + 1 < 32 := by omega
      have h2 : (2 * i + 1) / 2 = i := by omega
      have h3 : (2 * i + 1) % 2 = 1 := by omega
      simp [tabA, h1, h2, h3]
  unfold xValidString at h
  split at h
  · rename_i s
    split at h
    · rename_i hc
      simp only [Option.some.injEq, Prod.mk.injEq] at h
      obtain ⟨rfl, rfl⟩ := h
      obtain ⟨u, us, b1, b2, rfl, rfl, ⟨rfl, _, rfl⟩, rfl, rfl⟩ := hx
      refine (Any.utf8_ValidString vldLay s w hc htab).mono ?_
      rintro e w' ⟨rfl, hB⟩
      exact ⟨_, rfl, I, [], [], fun _ h => h, fun _ h => .inl h, fun k hk => Nat.lt_of_lt_of_le (hI k hk) hB.size, hB.os, hB.tape, hB.output, hB.size, fun k hk _ => hB.block k hk, ⟨rfl, rfl, rfl⟩, ⟨_, _, [], [], rfl, rfl, rfl, rfl, rfl⟩, List.nodup_nil, fun k hk => by simp at hk⟩
    · cases h
  · cases h
end Go.AM.F
