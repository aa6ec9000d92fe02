/- strings.Repeat: what it answers, from the kit's contract. No conditions. -/
import Derived.Test.YtbghahcgjnlnlaaDoorAmBld
import Derived.Test.YtbghahcgjnlnlaaDoorChecked
import Derived.Shelf.Strings.Repeat
import Derived.WalkKit
set_option linter.unusedVariables false
namespace Go.AM.F
open Go Go.AM Go.Proofs

set_option maxRecDepth 100000
def repRen : Go.Shelf.Ren := ⟨fun | 99 => 75 | 105 => 78 | 165 => 97 | 166 => 98 | 169 => 100 | 170 => 99 | 206 => 93 | 212 => 96 | 240 => 110 | 241 => 111 | 263 => 108 | 264 => 109 | 276 => 119 | 277 => 120 | n => n, fun | 0 => 0 | 3 => 3 | 4 => 4 | 5 => 5 | 9 => 9 | 20 => 20 | 37 => 127 | 46 => 78 | 51 => 52 | 53 => 22 | 70 => 126 | 72 => 129 | 75 => 132 | 76 => 133 | 80 => 136 | 109 => 124 | 127 => 146 | 146 => 115 | 148 => 36 | 164 => 157 | n => n, fun n => n⟩
theorem repLay : Lays.n105 Tryd.prog repRen where
  mixed := by kernel_rfl
  f99 := Tryd.func75.trans (congrArg some (by kernel_rfl))
  f105 := Tryd.func78.trans (congrArg some (by kernel_rfl))
  f165 := Tryd.func97.trans (congrArg some (by kernel_rfl))
  f166 := Tryd.func98.trans (congrArg some (by kernel_rfl))
  f169 := Tryd.func100.trans (congrArg some (by kernel_rfl))
  f170 := Tryd.func99.trans (congrArg some (by kernel_rfl))
  f206 := Tryd.func93.trans (congrArg some (by kernel_rfl))
  f212 := Tryd.func96.trans (congrArg some (by kernel_rfl))
  f240 := Tryd.func110.trans (congrArg some (by kernel_rfl))
  f241 := Tryd.func111.trans (congrArg some (by kernel_rfl))
  f263 := Tryd.func108.trans (congrArg some (by kernel_rfl))
  f264 := Tryd.func109.trans (congrArg some (by kernel_rfl))
  f276 := Tryd.func119.trans (congrArg some (by kernel_rfl))
  f277 := Tryd.func120.trans (congrArg some (by kernel_rfl))
  t0 := Tryd.underlying0
  a0 := Tryd.isAgg0
  z0 := Tryd.sizeOf0
  v0 := Tryd.zeroValue0
  t3 := Tryd.underlying3
  a3 := Tryd.isAgg3
  z3 := Tryd.sizeOf3
  v3 := Tryd.zeroValue3
  t4 := Tryd.underlying4
  a4 := Tryd.isAgg4
  z4 := Tryd.sizeOf4
  v4 := Tryd.zeroValue4
  t5 := Tryd.underlying5
  a5 := Tryd.isAgg5
  z5 := Tryd.sizeOf5
  v5 := Tryd.zeroValue5
  t9 := Tryd.underlying9
  a9 := Tryd.isAgg9
  z9 := Tryd.sizeOf9
  v9 := Tryd.zeroValue9
  t20 := Tryd.underlying20
  a20 := Tryd.isAgg20
  z20 := Tryd.sizeOf20
  v20 := Tryd.zeroValue20
  t37 := Tryd.underlying127
  a37 := Tryd.isAgg127
  z37 := Tryd.sizeOf127
  v37 := Tryd.zeroValue127
  t46 := Tryd.underlying78
  a46 := Tryd.isAgg78
  z46 := Tryd.sizeOf78
  v46 := Tryd.zeroValue78
  t51 := Tryd.underlying52
  a51 := Tryd.isAgg52
  z51 := Tryd.sizeOf52
  v51 := Tryd.zeroValue52
  t53 := Tryd.underlying22
  a53 := Tryd.isAgg22
  z53 := Tryd.sizeOf22
  v53 := Tryd.zeroValue22
  t70 := Tryd.underlying126
  a70 := Tryd.isAgg126
  z70 := Tryd.sizeOf126
  v70 := Tryd.zeroValue126
  t72 := Tryd.underlying129
  a72 := Tryd.isAgg129
  z72 := Tryd.sizeOf129
  v72 := Tryd.zeroValue129
  t75 := Tryd.underlying132
  a75 := Tryd.isAgg132
  z75 := Tryd.sizeOf132
  v75 := Tryd.zeroValue132
  t76 := Tryd.underlying133
  a76 := Tryd.isAgg133
  z76 := Tryd.sizeOf133
  v76 := Tryd.zeroValue133
  t109 := Tryd.underlying124
  a109 := Tryd.isAgg124
  z109 := Tryd.sizeOf124
  v109 := Tryd.zeroValue124
  t127 := Tryd.underlying146
  a127 := Tryd.isAgg146
  z127 := Tryd.sizeOf146
  v127 := Tryd.zeroValue146
  t146 := Tryd.underlying115
  a146 := Tryd.isAgg115
  z146 := Tryd.sizeOf115
  v146 := Tryd.zeroValue115
  t148 := Tryd.underlying36
  a148 := Tryd.isAgg36
  z148 := Tryd.sizeOf36
  v148 := Tryd.zeroValue36
  t164 := Tryd.underlying157
  a164 := Tryd.isAgg157
  z164 := Tryd.sizeOf157
  v164 := Tryd.zeroValue157
theorem repExtra : Builder.Extra Tryd.prog repRen where
  sizeBuilder := by kernel_rfl
  liesBuilder := by kernel_rfl
  t5 := Tryd.underlying5
  a5 := Tryd.isAgg5
  z5 := Tryd.sizeOf5
  v5 := Tryd.zeroValue5
  infoByte := by kernel_rfl
  cellsByte := by kernel_rfl
  sizeByte := by kernel_rfl
  neB5 := by decide
theorem repL_eq (l : List UInt8) : ∀ c, Lib.repeatL l c = repL l c
  | 0 => rfl
  | c + 1 => by rw [Lib.repeatL, repL, repL_eq l c]
theorem repeat_ok : ∀ xs y backs, xRepeat xs = some (y, backs) → ∀ (w : World) (I : Nat → Prop) (vs : List Value) (bss : List Nat), (∀ b, I b → b < w.heap.size) → bss.Nodup → (∀ b, b ∈ bss → ¬ I b) → Rs w I nope xs vs bss →
    Calls Tryd.prog 78 vs.toArray w fun e w' => ∃ V, e = .returned V ∧ Left w I bss vs w' y V backs := by
  intro xs y backs h w I vs bss hI hnd hni hx
  unfold xRepeat at h
  split at h
  · rename_i s c
    split at h
    · rename_i hc
      obtain ⟨h0, h1, h2⟩ := hc
      simp only [Option.some.injEq, Prod.mk.injEq] at h
      obtain ⟨rfl, rfl⟩ := h
      obtain ⟨n, rfl⟩ : ∃ n : Nat, c = n := ⟨c.toNat, by omega⟩
      rw [Int.toNat_natCast] at h2 ⊢
      obtain ⟨u, us, b1, b2, rfl, rfl, ⟨rfl, _, rfl⟩, u2, us2, b3, b4, rfl, rfl, ⟨rfl, _, rfl⟩, rfl, rfl⟩ := hx
      refine (Any.strings_Repeat repLay repExtra s n w (by omega) h2).mono ?_
      rintro e w' ⟨rfl, hB⟩
      refine ⟨_, rfl, I, [], [], fun _ h => h, fun _ h => .inl h, fun k hk => Nat.lt_of_lt_of_le (hI k hk) hB.size, hB.os, hB.tape, hB.output, hB.size, fun k hk _ => hB.block k hk, ?_, ⟨_, _, [], [], rfl, rfl, rfl, _, _, [], [], rfl, rfl, rfl, rfl, rfl⟩, List.nodup_nil, fun k hk => by simp at hk⟩
      rw [repL_eq]
      exact ⟨rfl, rfl, rfl⟩
    · cases h
  · cases h
end Go.AM.F
