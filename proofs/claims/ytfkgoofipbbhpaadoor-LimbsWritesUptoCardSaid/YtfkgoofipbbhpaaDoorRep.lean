/- strings.Repeat: what it answers, from the kit's contract. No conditions. -/
import Derived.Test.YtfkgoofipbbhpaaDoorAmBld
import Derived.Test.YtfkgoofipbbhpaaDoorChecked
import Derived.Shelf.Strings.Repeat
import Derived.WalkKit
set_option linter.unusedVariables false
namespace Go.AM.F
open Go Go.AM Go.Proofs

set_option maxRecDepth 100000
def repRen : Go.Shelf.Ren := ⟨fun | 99 => 93 | 105 => 84 | 165 => 94 | 166 => 70 | 169 => 72 | 170 => 95 | 206 => 102 | 212 => 92 | 240 => 85 | 241 => 103 | 263 => 100 | 264 => 101 | 276 => 96 | 277 => 106 | n => n, fun | 0 => 0 | 3 => 3 | 4 => 4 | 5 => 5 | 9 => 9 | 20 => 20 | 37 => 70 | 46 => 68 | 51 => 49 | 53 => 33 | 70 => 69 | 72 => 72 | 75 => 74 | 76 => 75 | 80 => 78 | 109 => 98 | 127 => 95 | 146 => 96 | 148 => 110 | 164 => 103 | n => n, fun n => n⟩
theorem repLay : Lays.n105 Tryd.prog repRen where
  mixed := by kernel_rfl
  f99 := Tryd.func93.trans (congrArg some (by kernel_rfl))
  f105 := Tryd.func84.trans (congrArg some (by kernel_rfl))
  f165 := Tryd.func94.trans (congrArg some (by kernel_rfl))
  f166 := Tryd.func70.trans (congrArg some (by kernel_rfl))
  f169 := Tryd.func72.trans (congrArg some (by kernel_rfl))
  f170 := Tryd.func95.trans (congrArg some (by kernel_rfl))
  f206 := Tryd.func102.trans (congrArg some (by kernel_rfl))
  f212 := Tryd.func92.trans (congrArg some (by kernel_rfl))
  f240 := Tryd.func85.trans (congrArg some (by kernel_rfl))
  f241 := Tryd.func103.trans (congrArg some (by kernel_rfl))
  f263 := Tryd.func100.trans (congrArg some (by kernel_rfl))
  f264 := Tryd.func101.trans (congrArg some (by kernel_rfl))
  f276 := Tryd.func96.trans (congrArg some (by kernel_rfl))
  f277 := Tryd.func106.trans (congrArg some (by kernel_rfl))
  t0 := Tryd.underlying0
  a0 := Tryd.isAgg0
  z0 := Tryd.sizeOf0
  v0 := Tryd.zeroValue0
  t3 := Tryd.underlying3
  a3 := Tryd.isAgg3
  z3 := Tryd.sizeOf3
  v3 := Tryd.zeroValue3
  t4 := Tryd.underlying4
  a4 := Tryd.isAgg4
  z4 := Tryd.sizeOf4
  v4 := Tryd.zeroValue4
  t5 := Tryd.underlying5
  a5 := Tryd.isAgg5
  z5 := Tryd.sizeOf5
  v5 := Tryd.zeroValue5
  t9 := Tryd.underlying9
  a9 := Tryd.isAgg9
  z9 := Tryd.sizeOf9
  v9 := Tryd.zeroValue9
  t20 := Tryd.underlying20
  a20 := Tryd.isAgg20
  z20 := Tryd.sizeOf20
  v20 := Tryd.zeroValue20
  t37 := Tryd.underlying70
  a37 := Tryd.isAgg70
  z37 := Tryd.sizeOf70
  v37 := Tryd.zeroValue70
  t46 := Tryd.underlying68
  a46 := Tryd.isAgg68
  z46 := Tryd.sizeOf68
  v46 := Tryd.zeroValue68
  t51 := Tryd.underlying49
  a51 := Tryd.isAgg49
  z51 := Tryd.sizeOf49
  v51 := Tryd.zeroValue49
  t53 := Tryd.underlying33
  a53 := Tryd.isAgg33
  z53 := Tryd.sizeOf33
  v53 := Tryd.zeroValue33
  t70 := Tryd.underlying69
  a70 := Tryd.isAgg69
  z70 := Tryd.sizeOf69
  v70 := Tryd.zeroValue69
  t72 := Tryd.underlying72
  a72 := Tryd.isAgg72
  z72 := Tryd.sizeOf72
  v72 := Tryd.zeroValue72
  t75 := Tryd.underlying74
  a75 := Tryd.isAgg74
  z75 := Tryd.sizeOf74
  v75 := Tryd.zeroValue74
  t76 := Tryd.underlying75
  a76 := Tryd.isAgg75
  z76 := Tryd.sizeOf75
  v76 := Tryd.zeroValue75
  t109 := Tryd.underlying98
  a109 := Tryd.isAgg98
  z109 := Tryd.sizeOf98
  v109 := Tryd.zeroValue98
  t127 := Tryd.underlying95
  a127 := Tryd.isAgg95
  z127 := Tryd.sizeOf95
  v127 := Tryd.zeroValue95
  t146 := Tryd.underlying96
  a146 := Tryd.isAgg96
  z146 := Tryd.sizeOf96
  v146 := Tryd.zeroValue96
  t148 := Tryd.underlying110
  a148 := Tryd.isAgg110
  z148 := Tryd.sizeOf110
  v148 := Tryd.zeroValue110
  t164 := Tryd.underlying103
  a164 := Tryd.isAgg103
  z164 := Tryd.sizeOf103
  v164 := Tryd.zeroValue103
theorem repExtra : Builder.Extra Tryd.prog repRen where
  sizeBuilder := by kernel_rfl
  liesBuilder := by kernel_rfl
  t5 := Tryd.underlying5
  a5 := Tryd.isAgg5
  z5 := Tryd.sizeOf5
  v5 := Tryd.zeroValue5
  infoByte := by kernel_rfl
  cellsByte := by kernel_rfl
  sizeByte := by kernel_rfl
  neB5 := by decide
theorem repL_eq (l : List UInt8) : ∀ c, Lib.repeatL l c = repL l c
  | 0 => rfl
  | c + 1 => by rw [Lib.repeatL, repL, repL_eq l c]
theorem repeat_ok : ∀ xs y backs, xRepeat xs = some (y, backs) → ∀ (w : World) (I : Nat → Prop) (vs : List Value) (bss : List Nat), (∀ b, I b → b < w.heap.size) → bss.Nodup → (∀ b, b ∈ bss → ¬ I b) → Rs w I nope xs vs bss →
    Calls Tryd.prog 84 vs.toArray w fun e w' => ∃ V, e = .returned V ∧ Left w I bss vs w' y V backs := by
  intro xs y backs h w I vs bss hI hnd hni hx
  unfold xRepeat at h
  split at h
  · rename_i s c
    split at h
    · rename_i hc
      obtain ⟨h0, h1, h2⟩ := hc
      simp only [Option.some.injEq, Prod.mk.injEq] at h
      obtain ⟨rfl, rfl⟩ := h
      obtain ⟨n, rfl⟩ : ∃ n : Nat, c = n := ⟨c.toNat, by omega⟩
      rw [Int.toNat_natCast] at h2 ⊢
      obtain ⟨u, us, b1, b2, rfl, rfl, ⟨rfl, _, rfl⟩, u2, us2, b3, b4, rfl, rfl, ⟨rfl, _, rfl⟩, rfl, rfl⟩ := hx
      refine (Any.strings_Repeat repLay repExtra s n w (by omega) h2).mono ?_
      rintro e w' ⟨rfl, hB⟩
      refine ⟨_, rfl, I, [], [], fun _ h => h, fun _ h => .inl h, fun k hk => Nat.lt_of_lt_of_le (hI k hk) hB.size, hB.os, hB.tape, hB.output, hB.size, fun k hk _ => hB.block k hk, ?_, ⟨_, _, [], [], rfl, rfl, rfl, _, _, [], [], rfl, rfl, rfl, rfl, rfl⟩, List.nodup_nil, fun k hk => by simp at hk⟩
      rw [repL_eq]
      exact ⟨rfl, rfl, rfl⟩
    · cases h
  · cases h
end Go.AM.F
