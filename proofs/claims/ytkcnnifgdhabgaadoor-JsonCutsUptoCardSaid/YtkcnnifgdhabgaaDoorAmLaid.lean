/- A table that a row lists, as the abstract machine has it. No conditions. -/
import Derived.Test.YtkcnnifgdhabgaaDoorAmRow
import Derived.Lib.LaidTab
namespace Go.AM
open Go

theorem tab_R {P : Program} {W : World} {name : String} {k : IntKind} {zs : List Int} {g : Nat} (h : Lib.TabIs P W name k zs) (hg : P.globalNamed name = some g) (hz : zs ≠ []) :
    R W (fun b => b < W.heap.size) nope (.raddr (zs.map fun z => .v (.int k z))) (.pointer (some ⟨g, 0, none⟩)) [] := by
  have hc : ∀ i, i < zs.length → W.cell? ⟨g, i, none⟩ = some (.int k (zs.getD i 0)) := fun i hi => h.cell hg i hi
  have hlen : 0 < zs.length := List.length_pos_iff.2 hz
  refine ⟨rfl, ⟨g, 0, none⟩, zs.map (Value.int k), rfl, rfl, (cell_first (hc 0 hlen)).2, ?_, ?_⟩
  · clear hc hlen hz h
    induction zs with
    | nil => exact ⟨rfl, rfl⟩
    | cons z r ih => exact ⟨_, _, [], [], rfl, rfl, ⟨rfl, rfl, rfl⟩, ih⟩
  · intro j u hu
    rw [List.getElem?_map, Option.map_eq_some_iff] at hu
    obtain ⟨z, hz, rfl⟩ := hu
    obtain ⟨hj, hz⟩ := List.getElem?_eq_some_iff.1 hz
    have h1 := hc j hj
    have e1 : zs.getD j 0 = z := by simp [List.getD_eq_getElem?_getD, hj, hz]
    rw [e1] at h1
    have e2 : (⟨g, 0, none⟩ : Addr).add j = ⟨g, j, none⟩ := by
      cases j with
      | zero => rfl
      | succ j => simp [Addr.add]
    rw [e2]
    exact h1
end Go.AM
