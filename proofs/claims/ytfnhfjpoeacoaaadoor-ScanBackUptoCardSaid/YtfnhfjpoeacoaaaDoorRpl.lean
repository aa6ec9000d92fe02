/- strings.ReplaceAll: what it answers, from the kit's contract. No conditions. -/
import Derived.Test.YtfnhfjpoeacoaaaDoorAmBld
import Derived.Test.YtfnhfjpoeacoaaaDoorChecked
import Derived.Shelf.Strings.Replace
import Derived.WalkKit
set_option linter.unusedVariables false
namespace Go.AM.F
open Go Go.AM Go.Proofs

set_option maxRecDepth 100000
def rplRen : Go.Shelf.Ren := ⟨fun | 138 => 60 | 143 => 62 | 154 => 52 | 155 => 43 | 165 => 61 | 166 => 44 | 169 => 45 | 195 => 68 | 197 => 63 | 217 => 51 | 218 => 69 | 219 => 71 | 224 => 66 | 225 => 67 | 240 => 50 | 241 => 70 | 260 => 72 | 266 => 59 | 267 => 74 | 276 => 58 | 277 => 73 | 314 => 75 | n => n, fun | 0 => 0 | 3 => 3 | 4 => 4 | 5 => 5 | 9 => 9 | 20 => 20 | 21 => 21 | 37 => 56 | 46 => 57 | 51 => 100 | 70 => 58 | 72 => 60 | 75 => 62 | 76 => 66 | 80 => 68 | 105 => 87 | 119 => 96 | 127 => 75 | 138 => 98 | 139 => 99 | 146 => 101 | 164 => 84 | n => n, fun | 1 => 1 | 3 => 2 | 4 => 3 | n => n⟩
theorem rplLay : Lays.n155 Tryd.prog rplRen where
  mixed := by kernel_rfl
  f138 := Tryd.func60.trans (congrArg some (by kernel_rfl))
  f143 := Tryd.func62.trans (congrArg some (by kernel_rfl))
  f154 := Tryd.func52.trans (congrArg some (by kernel_rfl))
  f155 := Tryd.func43.trans (congrArg some (by kernel_rfl))
  f165 := Tryd.func61.trans (congrArg some (by kernel_rfl))
  f166 := Tryd.func44.trans (congrArg some (by kernel_rfl))
  f169 := Tryd.func45.trans (congrArg some (by kernel_rfl))
  f195 := Tryd.func68.trans (congrArg some (by kernel_rfl))
  f197 := Tryd.func63.trans (congrArg some (by kernel_rfl))
  f217 := Tryd.func51.trans (congrArg some (by kernel_rfl))
  f218 := Tryd.func69.trans (congrArg some (by kernel_rfl))
  f219 := Tryd.func71.trans (congrArg some (by kernel_rfl))
  f224 := Tryd.func66.trans (congrArg some (by kernel_rfl))
  f225 := Tryd.func67.trans (congrArg some (by kernel_rfl))
  f240 := Tryd.func50.trans (congrArg some (by kernel_rfl))
  f241 := Tryd.func70.trans (congrArg some (by kernel_rfl))
  f260 := Tryd.func72.trans (congrArg some (by kernel_rfl))
  f266 := Tryd.func59.trans (congrArg some (by kernel_rfl))
  f267 := Tryd.func74.trans (congrArg some (by kernel_rfl))
  f276 := Tryd.func58.trans (congrArg some (by kernel_rfl))
  f277 := Tryd.func73.trans (congrArg some (by kernel_rfl))
  f314 := Tryd.func75.trans (congrArg some (by kernel_rfl))
  t0 := Tryd.underlying0
  a0 := Tryd.isAgg0
  z0 := Tryd.sizeOf0
  v0 := Tryd.zeroValue0
  t3 := Tryd.underlying3
  a3 := Tryd.isAgg3
  z3 := Tryd.sizeOf3
  v3 := Tryd.zeroValue3
  t4 := Tryd.underlying4
  a4 := Tryd.isAgg4
  z4 := Tryd.sizeOf4
  v4 := Tryd.zeroValue4
  t5 := Tryd.underlying5
  a5 := Tryd.isAgg5
  z5 := Tryd.sizeOf5
  v5 := Tryd.zeroValue5
  t9 := Tryd.underlying9
  a9 := Tryd.isAgg9
  z9 := Tryd.sizeOf9
  v9 := Tryd.zeroValue9
  t20 := Tryd.underlying20
  a20 := Tryd.isAgg20
  z20 := Tryd.sizeOf20
  v20 := Tryd.zeroValue20
  t21 := Tryd.underlying21
  a21 := Tryd.isAgg21
  z21 := Tryd.sizeOf21
  v21 := Tryd.zeroValue21
  t37 := Tryd.underlying56
  a37 := Tryd.isAgg56
  z37 := Tryd.sizeOf56
  v37 := Tryd.zeroValue56
  t46 := Tryd.underlying57
  a46 := Tryd.isAgg57
  z46 := Tryd.sizeOf57
  v46 := Tryd.zeroValue57
  t51 := Tryd.underlying100
  a51 := Tryd.isAgg100
  z51 := Tryd.sizeOf100
  v51 := Tryd.zeroValue100
  t70 := Tryd.underlying58
  a70 := Tryd.isAgg58
  z70 := Tryd.sizeOf58
  v70 := Tryd.zeroValue58
  t72 := Tryd.underlying60
  a72 := Tryd.isAgg60
  z72 := Tryd.sizeOf60
  v72 := Tryd.zeroValue60
  t75 := Tryd.underlying62
  a75 := Tryd.isAgg62
  z75 := Tryd.sizeOf62
  v75 := Tryd.zeroValue62
  t76 := Tryd.underlying66
  a76 := Tryd.isAgg66
  z76 := Tryd.sizeOf66
  v76 := Tryd.zeroValue66
  t105 := Tryd.underlying87
  a105 := Tryd.isAgg87
  z105 := Tryd.sizeOf87
  v105 := Tryd.zeroValue87
  t119 := Tryd.underlying96
  a119 := Tryd.isAgg96
  z119 := Tryd.sizeOf96
  t127 := Tryd.underlying75
  a127 := Tryd.isAgg75
  z127 := Tryd.sizeOf75
  v127 := Tryd.zeroValue75
  t138 := Tryd.underlying98
  a138 := Tryd.isAgg98
  z138 := Tryd.sizeOf98
  v138 := Tryd.zeroValue98
  t139 := Tryd.underlying99
  a139 := Tryd.isAgg99
  z139 := Tryd.sizeOf99
  v139 := Tryd.zeroValue99
  t146 := Tryd.underlying101
  a146 := Tryd.isAgg101
  z146 := Tryd.sizeOf101
  v146 := Tryd.zeroValue101
  t164 := Tryd.underlying84
  a164 := Tryd.isAgg84
  z164 := Tryd.sizeOf84
  v164 := Tryd.zeroValue84
  g1 := by kernel_rfl
  g3 := by kernel_rfl
  g4 := by kernel_rfl
theorem strLay : Lays.n169 Tryd.prog rplRen where
  mixed := by kernel_rfl
  f169 := Tryd.func45.trans (congrArg some (by kernel_rfl))
  t0 := Tryd.underlying0
  a0 := Tryd.isAgg0
  z0 := Tryd.sizeOf0
  v0 := Tryd.zeroValue0
  t3 := Tryd.underlying3
  a3 := Tryd.isAgg3
  z3 := Tryd.sizeOf3
  v3 := Tryd.zeroValue3
  t9 := Tryd.underlying9
  a9 := Tryd.isAgg9
  z9 := Tryd.sizeOf9
  v9 := Tryd.zeroValue9
  t37 := Tryd.underlying56
  a37 := Tryd.isAgg56
  z37 := Tryd.sizeOf56
  v37 := Tryd.zeroValue56
  t70 := Tryd.underlying58
  a70 := Tryd.isAgg58
  z70 := Tryd.sizeOf58
  v70 := Tryd.zeroValue58
  t72 := Tryd.underlying60
  a72 := Tryd.isAgg60
  z72 := Tryd.sizeOf60
  v72 := Tryd.zeroValue60
  t127 := Tryd.underlying75
  a127 := Tryd.isAgg75
  z127 := Tryd.sizeOf75
  v127 := Tryd.zeroValue75
theorem rplExtra : Builder.Extra Tryd.prog rplRen where
  sizeBuilder := by kernel_rfl
  liesBuilder := by kernel_rfl
  t5 := Tryd.underlying5
  a5 := Tryd.isAgg5
  z5 := Tryd.sizeOf5
  v5 := Tryd.zeroValue5
  infoByte := by kernel_rfl
  cellsByte := by kernel_rfl
  sizeByte := by kernel_rfl
  neB5 := by decide
theorem replaceAll_ok : ∀ xs y backs, xReplaceAll xs = some (y, backs) → ∀ (w : World) (I : Nat → Prop) (vs : List Value) (bss : List Nat), (∀ b, I b → b < w.heap.size) → R w I nope (.raddr [.selfp]) (.pointer (some ⟨1, 0, none⟩)) [] → Rs w I nope xs vs bss →
    Calls Tryd.prog 43 vs.toArray w fun e w' => ∃ V, e = .returned V ∧ Left w I bss vs w' y V backs := by
  intro xs y backs h w I vs bss hI hG hx
  obtain ⟨_, A, us, hA, _, hIA, hus, hc⟩ := hG
  cases hA
  obtain ⟨v, us', b1, b2, rfl, _, ⟨_, m, rfl⟩, rfl, _⟩ := hus
  have hm : w.cell? ⟨1, 0, none⟩ = some (.int .i64 m) := hc 0 _ rfl
  unfold xReplaceAll at h
  split at h
  · rename_i s old new
    split at h
    · rename_i hc2
      obtain ⟨h1, h2, h3⟩ := hc2
      simp only [Option.some.injEq, Prod.mk.injEq] at h
      obtain ⟨rfl, rfl⟩ := h
      obtain ⟨v1, us1, c1, c2, rfl, rfl, ⟨rfl, _, rfl⟩, v2, us2, c3, c4, rfl, rfl, ⟨rfl, _, rfl⟩, v3, us3, c5, c6, rfl, rfl, ⟨rfl, _, rfl⟩, rfl, rfl⟩ := hx
      refine (Any.strings_ReplaceAll rplLay rplExtra s old new m w h2 hm h1 h3).mono ?_
      rintro e w' ⟨rfl, hB⟩
      exact ⟨_, rfl, I, [], [], fun _ h => h, fun _ h => .inl h, fun k hk => Nat.lt_of_lt_of_le (hI k hk) hB.size, hB.os, hB.tape, hB.output, hB.size, fun k hk _ => hB.block k hk, ⟨rfl, rfl, rfl⟩, ⟨_, _, [], [], rfl, rfl, rfl, _, _, [], [], rfl, rfl, rfl, _, _, [], [], rfl, rfl, rfl, rfl, rfl⟩, List.nodup_nil, fun k hk => by simp at hk⟩
    · cases h
  · cases h
end Go.AM.F
