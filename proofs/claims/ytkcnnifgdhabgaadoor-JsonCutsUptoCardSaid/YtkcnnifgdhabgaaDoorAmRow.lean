/- A row's arguments, read as the abstract machine's values; its end. No conditions. -/
import Derived.Test.YtkcnnifgdhabgaaDoorRows
import Derived.Test.YtkcnnifgdhabgaaDoorAmSim
import Derived.Test.YtkcnnifgdhabgaaDoorAmChk
import Derived.Below
import Derived.OpenShut
import Derived.Laws.Cover2
namespace Go.AM
open Go

section
variable {H : Type} {enc : TypeId × Value → H} {P : Program} {w : World} {sp : Nat → Bool} {held : Bool} {S : List TypeId}

def wholeB (P : Program) (t : TypeId) : Bool := match P.underlying t with
  | some d => TypeDesc.whole d
  | none => false
/-- A value's cells as one value. -/
def mkPV (b : Bool) (c : List PV) : PV := if b then .agg c else c.headD .dead
/-- A struct's fields stand one behind the other. -/
def rowB (P : Program) (S : List TypeId) : List Field → Nat → Nat → Bool
  | [], o, n => o == n
  | f :: r, o, n => f.offset == o && S.contains f.type && rowB P S r (o + P.cellsOf f.type) n
/-- Plain types: numbers, texts, rows and structs of plain types. -/
def kindB (P : Program) (S : List TypeId) (t : TypeId) : Bool := match P.underlying t with
  | some .bool => true
  | some (.int _) => true
  | some .string => true
  | some (.float _) => true
  | some (.slice e) => S.contains e && decide (0 < P.cellsOf e) && (wholeB P e || P.cellsOf e == 1)
  | some (.struct fs) => rowB P S fs.toList 0 (P.cellsOf t)
  | _ => false
/-- What a value of a type looks like. -/
def Shape (P : Program) : Nat → TypeId → List PV → Prop
  | 0, _, _ => False
  | n + 1, t, xs => match P.underlying t with
    | some .bool => ∃ b, xs = [.v (.bool b)]
    | some (.int k) => ∃ m, xs = [.v (.int k m)] ∧ (Lit.int k m).wf = true
    | some .string => ∃ s, xs = [.v (.string s)]
    | some (.float k) => ∃ m, xs = [.v (.float k m)] ∧ (Lit.float k m).wf = true
    | some (.slice e) => ∃ l : List (List PV), xs = [.ro (P.cellsOf e) (l.map (mkPV (wholeB P e)))] ∧ ∀ c ∈ l, c.length = P.cellsOf e ∧ Shape P n e c
    | some (.struct fs) => ∀ f ∈ fs.toList, Shape P n f.type ((xs.drop f.offset).take (P.cellsOf f.type))
    | _ => False
mutual
/-- How much a value holds. -/
def bulk : PV → Nat
  | .v (.string s) => s.size + 1
  | .ro _ l => bulkL l + 1
  | .agg l => bulkL l
  | _ => 1
def bulkL : List PV → Nat
  | [] => 0
  | x :: r => bulk x + bulkL r
end
theorem bulkL_append (a b : List PV) : bulkL (a ++ b) = bulkL a + bulkL b := by
  induction a with
  | nil => simp [bulkL]
  | cons x r ih => simp only [List.cons_append, bulkL, ih]; omega
/-- Cells of arguments. -/
def flat : PV → Bool
  | .v _ => true
  | .ro _ _ => true
  | _ => false
theorem flat_imm : ∀ {l : List PV}, l.all flat = true → PV.immL l = true ∧ l.all PV.one = true
  | [], _ => ⟨rfl, rfl⟩
  | x :: r, h => by
    simp only [List.all_cons, Bool.and_eq_true] at h
    obtain ⟨h1, h2⟩ := flat_imm h.2
    cases x <;> simp [flat] at h <;> simp [PV.immL, PV.imm, PV.one, h1, h2]
theorem cell_first {A : Addr} {u : Value} (h : w.cell? A = some u) : A.spot = none ∧ A.block < w.heap.size := by
  unfold World.cell? at h
  split at h
  · rename_i c t fr he
    split at h
    · cases h
    · rename_i hs
      exact ⟨by simpa using hs, (Array.getElem?_eq_some_iff.1 he).1⟩
  · cases h
def Good (P : Program) (w : World) (n : Nat) (t : TypeId) (cs : List Value) (b : Nat) : Prop :=
  ∃ xs, Rs w (fun b => b < w.heap.size) nope xs cs [] ∧ Shape P n t xs ∧ xs.all flat = true ∧ bulkL xs ≤ b
theorem Good.one {n : Nat} {t : TypeId} {v : Value} {b : Nat} (h1 : v.oneCell' = true) (hs : Shape P n t [.v v]) (hb : bulk (.v v) ≤ b) : Good P w n t [v] b :=
  ⟨[.v v], ⟨v, [], [], [], rfl, rfl, ⟨rfl, h1, rfl⟩, rfl, rfl⟩, hs, rfl, by simpa [bulkL] using hb⟩
theorem imm_cells {x : PV} {c : List PV} (hx : x = .agg c ∨ (c = [x])) (hc : c.all flat = true) : x.imm = true ∧ x.cells = c := by
  obtain ⟨h1, h2⟩ := flat_imm hc
  rcases hx with rfl | rfl
  · exact ⟨by simp only [PV.imm, h1, h2, Bool.and_self], rfl⟩
  · simp only [List.all_cons, List.all_nil, Bool.and_true] at hc
    cases x <;> simp [flat] at hc <;> exact ⟨rfl, rfl⟩
/-- A row's elements, one by one. -/
theorem elems_good {e : TypeId} {n : Nat} (ih : ∀ (cs : List Value) (x : DataW H × List MemPlace), DataW.trod enc P w 0 sp held n e cs = some x → Good P w n e cs (Go.Proofs.YtkcnnifgdhabgaaDoor.Rows.uptoBulk x.1)) (hw : wholeB P e = true ∨ P.cellsOf e = 1) (hpos : 0 < P.cellsOf e) {a : Addr} :
    ∀ (els : List (DataW H × List MemPlace)) (k : Nat), (∀ i, i < els.length → (w.cells? 0 (a.add ((k + i) * P.cellsOf e)) (P.cellsOf e)).bind (DataW.trod enc P w 0 sp held n e) = els[i]?) →
      ∃ (l : List (List PV)) (vs : List Value), Rs w (fun b => b < w.heap.size) nope (l.map (mkPV (wholeB P e))) vs [] ∧ l.length = els.length ∧ (∀ c ∈ l, c.length = P.cellsOf e ∧ Shape P n e c ∧ c.all flat = true) ∧
        (els ≠ [] → (a.add (k * P.cellsOf e)).spot = none ∧ a.block < w.heap.size ∧ CellsAt w (a.add (k * P.cellsOf e)) (flatV vs)) ∧ bulkL (l.map (mkPV (wholeB P e))) ≤ Go.Proofs.YtkcnnifgdhabgaaDoor.Rows.uptoBulkAll (els.map (·.1))
  | [], k, _ => ⟨[], [], ⟨rfl, rfl⟩, rfl, fun _ h => (by cases h), fun h => (h rfl).elim, Nat.le_refl _⟩
  | x :: els, k, hel => by
    have h0 := hel 0 (by simp)
    simp only [Nat.add_zero, List.getElem?_cons_zero, Option.bind_eq_some_iff] at h0
    obtain ⟨cs, hcs, hx⟩ := h0
    obtain ⟨_, hlen, hcell⟩ := World.cells?_some hcs
    obtain ⟨c, hR, hS, hf, hb⟩ := ih cs x hx
    obtain ⟨l, vs, r1, r2, r3, r4, r5⟩ := elems_good ih hw hpos els (k + 1) (fun i hi => by
      have := hel (i + 1) (by simpa using hi)
      rw [show k + 1 + i = k + (i + 1) by omega]
      simpa using this)
    have hcl : c.length = P.cellsOf e := by rw [← hlen]; exact hR.length.symm
    have hfirst : ∃ u, w.cell? (a.add (k * P.cellsOf e)) = some u := by
      have := hcell 0 (by omega)
      have e0 : (a.add (k * P.cellsOf e)).add 0 = a.add (k * P.cellsOf e) := rfl
      rw [e0] at this
      rw [this]
      exact ⟨cs[0], List.getElem?_eq_getElem (by omega)⟩
    obtain ⟨u0, hu0⟩ := hfirst
    obtain ⟨hs, hblk⟩ := cell_first hu0
    -- the element as one value
    obtain ⟨v, hv1, hv2⟩ : ∃ v : Value, R w (fun b => b < w.heap.size) nope (mkPV (wholeB P e) c) v [] ∧ v.cells.toList = cs := by
      cases hwe : wholeB P e with
      | true => exact ⟨.agg cs.toArray, ⟨cs, rfl, hR⟩, by simp [Value.cells]⟩
      | false =>
        have hc1 : P.cellsOf e = 1 := by rcases hw with h | h; rw [hwe] at h; cases h; exact h
        rw [hc1] at hcl
        match c, hcl, hR with
        | [y], _, hR =>
          obtain ⟨v, us, b1, b2, rfl, hbs, h1, h2, h3⟩ := hR
          subst h2
          obtain ⟨rfl, rfl⟩ : b1 = [] ∧ b2 = [] := by simpa using hbs.symm
          refine ⟨v, h1, ?_⟩
          simp only [List.all_cons, List.all_nil, Bool.and_true] at hf
          cases y <;> simp [flat] at hf
          · obtain ⟨rfl, h4, _⟩ := h1
            rw [one_cells h4]
          · obtain ⟨_, _, aa, cap, rfl, _⟩ := h1
            rfl
    refine ⟨c :: l, v :: vs, ⟨v, vs, [], [], rfl, rfl, hv1, r1⟩, by simp [r2], ?_, fun _ => ⟨hs, by rw [block_add] at hblk; exact hblk, ?_⟩, ?_⟩
    · intro c' hc'
      rcases List.mem_cons.1 hc' with rfl | hc'
      · exact ⟨hcl, hS, hf⟩
      · exact r3 c' hc'
    · intro j u hu
      simp only [flatV, List.flatMap_cons, hv2] at hu
      rw [List.getElem?_append] at hu
      split at hu
      · rename_i hj
        rw [hcell j (by omega)]
        exact hu
      · rename_i hj
        have hne : els ≠ [] := by
          rintro rfl
          have : l = [] := List.eq_nil_of_length_eq_zero r2
          subst this
          obtain ⟨rfl, _⟩ := r1
          simp at hu
        obtain ⟨s1, _, s2⟩ := r4 hne
        have := s2 (j - cs.length) u hu
        have has : ∀ m, m ≠ 0 ∨ a.spot = none → ∀ i, (a.add m).add i = a.add (m + i) := by
          intro m hm i
          unfold Addr.add
          rcases hm with hm | hm
          · repeat' split
            all_goals simp_all
            all_goals omega
          · obtain ⟨b, o, s⟩ := a
            cases hm
            repeat' split
            all_goals simp_all
            all_goals omega
        have hkk : k * P.cellsOf e ≠ 0 ∨ a.spot = none := by
          by_cases hk0 : k * P.cellsOf e = 0
          · right
            rw [hk0] at hs
            exact hs
          · exact .inl hk0
        have hk1 : (k + 1) * P.cellsOf e ≠ 0 ∨ a.spot = none := .inl (by
          have : 0 < (k + 1) * P.cellsOf e := Nat.mul_pos (by omega) hpos
          omega)
        rw [has _ hk1] at this
        rw [has _ hkk]
        rw [show k * P.cellsOf e + j = (k + 1) * P.cellsOf e + (j - cs.length) by rw [Nat.add_mul]; omega]
        exact this
    · simp only [List.map_cons, bulkL, Go.Proofs.YtkcnnifgdhabgaaDoor.Rows.uptoBulkAll]
      have : bulk (mkPV (wholeB P e) c) ≤ bulkL c := by
        unfold mkPV
        split
        · simp [bulk]
        · match c with
          | [] => simp at hcl; omega
          | y :: r => simp [bulkL]
      omega
/-- A struct's fields, one by one. -/
theorem fields_good {n : Nat} (ih : ∀ (t : TypeId), t ∈ S → ∀ (cs : List Value) (x : DataW H × List MemPlace), DataW.trod enc P w 0 sp held n t cs = some x → Good P w n t cs (Go.Proofs.YtkcnnifgdhabgaaDoor.Rows.uptoBulk x.1)) {cs : List Value} :
    ∀ (fs : List Field) (o : Nat) (xs : List (DataW H × List MemPlace)), rowB P S fs o cs.length = true → xs.length = fs.length → (∀ (i : Nat) (f : Field), fs[i]? = some f → DataW.trod enc P w 0 sp held n f.type ((cs.drop f.offset).take (P.cellsOf f.type)) = xs[i]?) →
      (∀ (t : TypeId) (c : List Value) (x : DataW H × List MemPlace), t ∈ S → DataW.trod enc P w 0 sp held n t c = some x → c.length = P.cellsOf t) →
      ∃ ys, Rs w (fun b => b < w.heap.size) nope ys (cs.drop o) [] ∧ (∀ f ∈ fs, o ≤ f.offset ∧ Shape P n f.type ((ys.drop (f.offset - o)).take (P.cellsOf f.type))) ∧ ys.all flat = true ∧ bulkL ys ≤ Go.Proofs.YtkcnnifgdhabgaaDoor.Rows.uptoBulkAll (xs.map (·.1))
  | [], o, xs, hr, hl, hf, hlen => by
    simp only [rowB, beq_iff_eq] at hr
    refine ⟨[], ?_, fun _ h => (by cases h), rfl, Nat.zero_le _⟩
    rw [hr, List.drop_length]
    exact ⟨rfl, rfl⟩
  | f :: fs, o, [], hr, hl, hf, hlen => by simp at hl
  | f :: fs, o, x :: xs, hr, hl, hf, hlen => by
    simp only [rowB, Bool.and_eq_true, beq_iff_eq] at hr
    obtain ⟨⟨h1, h2⟩, h3⟩ := hr
    have hfS : f.type ∈ S := by simpa using h2
    have hx := hf 0 f rfl
    simp only [List.getElem?_cons_zero] at hx
    obtain ⟨y, hR, hS, hy, hb⟩ := ih f.type hfS _ x hx
    have hyl := hlen _ _ _ hfS hx
    obtain ⟨ys, r1, r2, r3, r4⟩ := fields_good ih fs (o + P.cellsOf f.type) xs h3 (by simpa using hl) (fun i g hg => by
      have := hf (i + 1) g (by simpa using hg)
      simpa using this) hlen
    have hcut : cs.drop o = (cs.drop o).take (P.cellsOf f.type) ++ cs.drop (o + P.cellsOf f.type) := by
      rw [← List.drop_drop, List.take_append_drop]
    have hylen : y.length = P.cellsOf f.type := by rw [← hyl]; exact hR.length.symm
    refine ⟨y ++ ys, ?_, ?_, by simp [hy, r3], ?_⟩
    · rw [hcut]
      rw [h1] at hR
      exact hR.append r1
    · intro g hg
      rcases List.mem_cons.1 hg with rfl | hg
      · refine ⟨by omega, ?_⟩
        rw [h1, Nat.sub_self, List.drop_zero, ← hylen, List.take_left]
        exact hS
      · obtain ⟨k1, k2⟩ := r2 g hg
        refine ⟨by omega, ?_⟩
        rw [show g.offset - o = y.length + (g.offset - (o + P.cellsOf f.type)) by omega, ← List.drop_drop, List.drop_left]
        exact k2
    · rw [bulkL_append]
      simp only [List.map_cons, Go.Proofs.YtkcnnifgdhabgaaDoor.Rows.uptoBulkAll]
      omega
theorem trod_cells (hS : ∀ t ∈ S, kindB P S t = true) (h1 : ∀ t ∈ S, wholeB P t = true ∨ P.cellsOf t = 1) {n : Nat} {t : TypeId} {c : List Value} {x : DataW H × List MemPlace} (ht : t ∈ S) (h : DataW.trod enc P w 0 sp held n t c = some x) : c.length = P.cellsOf t := by
  have hk := hS t ht
  unfold kindB at hk
  have hone : wholeB P t = false → P.cellsOf t = 1 := fun hw => by rcases h1 t ht with h | h; rw [hw] at h; cases h; exact h
  split at hk
  · rename_i hu
    obtain ⟨b, rfl, _⟩ := DataW.trod_bool hu h
    rw [hone (by simp [wholeB, hu, TypeDesc.whole])]; rfl
  · rename_i k hu
    obtain ⟨b, rfl, _⟩ := DataW.trod_int hu h
    rw [hone (by simp [wholeB, hu, TypeDesc.whole])]; rfl
  · rename_i hu
    obtain ⟨b, rfl, _⟩ := DataW.trod_string hu h
    rw [hone (by simp [wholeB, hu, TypeDesc.whole])]; rfl
  · rename_i k hu
    cases n with
    | zero => simp [DataW.trod] at h
    | succ n =>
      unfold DataW.trod at h
      rw [hu] at h
      rw [hone (by simp [wholeB, hu, TypeDesc.whole])]
      split at h <;> simp_all
  · rename_i e hu
    rcases DataW.trod_slice hu h with ⟨rfl, _⟩ | ⟨a, len, cap, elems, rest, m, _, rfl, _⟩ <;> (rw [hone (by simp [wholeB, hu, TypeDesc.whole])]; rfl)
  · rename_i fs hu
    obtain ⟨xs, m, _, _, hl, _⟩ := DataW.trod_struct hu h
    exact hl
  · cases hk
/-- What is read of a plain type. -/
theorem trod_good (hS : ∀ t ∈ S, kindB P S t = true) (h1 : ∀ t ∈ S, wholeB P t = true ∨ P.cellsOf t = 1) : ∀ (n : Nat) (t : TypeId), t ∈ S → ∀ (cs : List Value) (x : DataW H × List MemPlace), DataW.trod enc P w 0 sp held n t cs = some x → Good P w n t cs (Go.Proofs.YtkcnnifgdhabgaaDoor.Rows.uptoBulk x.1)
  | 0, t, ht, cs, x, h => by simp [DataW.trod] at h
  | n + 1, t, ht, cs, x, h => by
    have hk := hS t ht
    unfold kindB at hk
    split at hk
    · rename_i hu
      obtain ⟨b, rfl, rfl⟩ := DataW.trod_bool hu h
      exact Good.one rfl (by simp only [Shape, hu]; exact ⟨b, rfl⟩) (by simp [bulk, Go.Proofs.YtkcnnifgdhabgaaDoor.Rows.uptoBulk])
    · rename_i k hu
      obtain ⟨m, rfl, rfl, hw⟩ := DataW.trod_int hu h
      exact Good.one rfl (by simp only [Shape, hu]; exact ⟨m, rfl, hw⟩) (by simp [bulk, Go.Proofs.YtkcnnifgdhabgaaDoor.Rows.uptoBulk])
    · rename_i hu
      obtain ⟨s, rfl, rfl, _⟩ := DataW.trod_string hu h
      refine Good.one rfl (by simp only [Shape, hu]; exact ⟨s, rfl⟩) ?_
      simp only [bulk, Go.Proofs.YtkcnnifgdhabgaaDoor.Rows.uptoBulk]
      have : s.data.toList.length = s.size := rfl
      omega
    · rename_i k hu
      unfold DataW.trod at h
      rw [hu] at h
      split at h <;> simp_all
      obtain ⟨⟨rfl, hw⟩, rfl⟩ := h
      exact Good.one rfl (by simp only [Shape, hu]; exact ⟨_, rfl, hw⟩) (by simp [bulk, Go.Proofs.YtkcnnifgdhabgaaDoor.Rows.uptoBulk])
    · rename_i e hu
      simp only [Bool.and_eq_true, Bool.or_eq_true, decide_eq_true_eq, beq_iff_eq] at hk
      obtain ⟨⟨k1, k2⟩, k3⟩ := hk
      have heS : e ∈ S := by simpa using k1
      rcases DataW.trod_slice hu h with ⟨rfl, rfl⟩ | ⟨a, len, cap, elems, rest, m, hm, rfl, rfl, hb, hl, hc, hlen, hel, _, _⟩
      · refine ⟨[.ro (P.cellsOf e) []], ⟨_, [], [], [], rfl, rfl, ⟨rfl, fun x hx => (by cases hx), none, 0, rfl, Nat.le_refl _, .inl rfl⟩, rfl, rfl⟩, ?_, rfl, by simp [bulkL, bulk, Go.Proofs.YtkcnnifgdhabgaaDoor.Rows.uptoBulk]⟩
        simp only [Shape, hu]
        exact ⟨[], rfl, fun c hc => (by cases hc)⟩
      · obtain rfl : n = m := by omega
        obtain ⟨l, vs, r1, r2, r3, r4, r5⟩ := elems_good (enc := enc) (sp := sp) (held := held) (a := a) (fun cs x h => trod_good hS h1 n e heS cs x h) k3 k2 elems 0 (fun i hi => by
          rw [Nat.zero_add]
          exact hel i (by omega))
        refine ⟨[.ro (P.cellsOf e) (l.map (mkPV (wholeB P e)))], ⟨_, [], [], [], rfl, rfl, ⟨rfl, ?_, some a, cap, by rw [List.length_map, r2, hlen], by rw [List.length_map, r2, hlen]; exact hl, ?_⟩, rfl, rfl⟩, ?_, rfl, ?_⟩
        · intro x hx
          obtain ⟨c, hc', rfl⟩ := List.mem_map.1 hx
          obtain ⟨c1, _, c3⟩ := r3 c hc'
          have : mkPV (wholeB P e) c = .agg c ∨ c = [mkPV (wholeB P e) c] := by
            unfold mkPV
            cases hwe : wholeB P e with
            | true => exact .inl rfl
            | false =>
              have hc1 : P.cellsOf e = 1 := by rcases k3 with h | h; rw [hwe] at h; cases h; exact h
              rw [hc1] at c1
              match c, c1 with
              | [y], _ => exact .inr rfl
          obtain ⟨i1, i2⟩ := imm_cells this c3
          exact ⟨by rw [i2]; exact c1, i1⟩
        · by_cases hne : elems = []
          · left
            subst hne
            have : l = [] := List.eq_nil_of_length_eq_zero r2
            rw [this]; rfl
          · right
            obtain ⟨s1, s2, s3⟩ := r4 hne
            rw [Nat.zero_mul] at s1 s3
            exact ⟨a, vs, rfl, s1, s2, r1, s3⟩
        · simp only [Shape, hu]
          exact ⟨l, rfl, fun c hc' => ⟨(r3 c hc').1, (r3 c hc').2.1⟩⟩
        · simp only [bulkL, bulk, Go.Proofs.YtkcnnifgdhabgaaDoor.Rows.uptoBulk]
          omega
    · rename_i fs hu
      obtain ⟨xs, m, hm, rfl, hl, hxl, hx⟩ := DataW.trod_struct hu h
      obtain rfl : n = m := by omega
      rw [← hl] at hk
      obtain ⟨ys, r1, r2, r3, r4⟩ := fields_good (S := S) (enc := enc) (sp := sp) (held := held) (fun t ht cs x h => trod_good hS h1 n t ht cs x h) fs.toList 0 xs hk (by simpa using hxl) (fun i f hf => hx i f (by simpa using hf)) (fun t c x ht h => trod_cells hS h1 ht h)
      refine ⟨ys, by simpa using r1, ?_, r3, ?_⟩
      · simp only [Shape, hu]
        exact fun f hf => by simpa using (r2 f hf).2
      · simp only [Go.Proofs.YtkcnnifgdhabgaaDoor.Rows.uptoBulk]
        omega
    · cases hk
end
section
variable {H : Type} {enc : TypeId × Value → H} {P : Program} {W W' : World} {sp : Nat → Bool} {held : Bool} {S : List TypeId}
/-- The arguments, as the abstract machine has them. -/
def ShapeAll (P : Program) : List TypeId → List PV → Prop
  | [], xs => xs = []
  | t :: ts, xs => ∃ x r n c, xs = x :: r ∧ x = mkPV (wholeB P t) c ∧ c.length = P.cellsOf t ∧ Shape P n t c ∧ ShapeAll P ts r
def plainB (P : Program) (S : List TypeId) : Bool := S.all fun t => kindB P S t && (wholeB P t || P.cellsOf t == 1)
theorem arg_good (hS : plainB P S = true) {t : TypeId} (ht : t ∈ S) {base : Nat} {v : Value} (hv : Value.okWide P W .any base t v) {d : DataW H} {p : List MemPlace} (h : DataW.Trod enc P W 0 sp held t v d p) :
    ∃ n c, R W (fun b => b < W.heap.size) nope (mkPV (wholeB P t) c) v [] ∧ c.length = P.cellsOf t ∧ Shape P n t c ∧ bulk (mkPV (wholeB P t) c) ≤ Go.Proofs.YtkcnnifgdhabgaaDoor.Rows.uptoBulk d := by
  have hS1 : ∀ t ∈ S, kindB P S t = true := fun t ht => by have := List.all_eq_true.1 hS t ht; simp only [Bool.and_eq_true] at this; exact this.1
  have hS2 : ∀ t ∈ S, wholeB P t = true ∨ P.cellsOf t = 1 := fun t ht => by have := List.all_eq_true.1 hS t ht; simp only [Bool.and_eq_true, Bool.or_eq_true, beq_iff_eq] at this; exact this.2
  obtain ⟨n, hn⟩ := h
  obtain ⟨c, hR, hSh, hf, hb⟩ := trod_good hS1 hS2 n t ht _ _ hn
  refine ⟨n, c, ?_, by rw [← trod_cells hS1 hS2 ht hn]; exact hR.length.symm, hSh, ?_⟩
  · have one : v.cells.toList = [v] → wholeB P t = false → R W (fun b => b < W.heap.size) nope (mkPV (wholeB P t) c) v [] := by
      intro e hw
      rw [e] at hR
      match c, hR with
      | [y], hR =>
        obtain ⟨v', us, b1, b2, e1, hbs, h1, h2, h3⟩ := hR
        subst h2
        simp only [List.cons.injEq, and_true] at e1
        subst e1
        obtain ⟨rfl, rfl⟩ : b1 = [] ∧ b2 = [] := by simpa using hbs.symm
        rw [hw]
        exact h1
      | [], hR => obtain ⟨h1, _⟩ := hR; cases h1
      | _ :: _ :: _, hR =>
        obtain ⟨_, us, _, b2, e1, _, _, h2⟩ := hR
        obtain ⟨_, _, _, _, e2, _⟩ := h2
        simp only [List.cons.injEq] at e1
        rw [e2] at e1
        cases e1.2
    have hk := hS1 t ht
    unfold kindB at hk
    split at hk
    · rename_i hu
      obtain ⟨b, rfl⟩ := WideShapes.okWide_bool hu hv
      exact one rfl (by simp [wholeB, hu, TypeDesc.whole])
    · rename_i k hu
      obtain ⟨b, rfl⟩ := WideShapes.okWide_int hu hv
      exact one rfl (by simp [wholeB, hu, TypeDesc.whole])
    · rename_i hu
      obtain ⟨b, rfl⟩ := WideShapes.okWide_string hu hv
      exact one rfl (by simp [wholeB, hu, TypeDesc.whole])
    · rename_i k hu
      obtain ⟨b, rfl⟩ := ChangeShapes.okWide_float hu hv
      exact one rfl (by simp [wholeB, hu, TypeDesc.whole])
    · rename_i e hu
      obtain ⟨a, l, cp, rfl⟩ := WideShapes.okWide_slice hu hv
      exact one rfl (by simp [wholeB, hu, TypeDesc.whole])
    · rename_i fs hu
      obtain ⟨cs, rfl, _⟩ := WideShapes.okWide_struct hu hv
      have hw : wholeB P t = true := by simp [wholeB, hu, TypeDesc.whole]
      rw [hw]
      exact ⟨cs.toList, by simp, hR⟩
    · cases hk
  · refine Nat.le_trans ?_ hb
    unfold mkPV
    split
    · simp [bulk]
    · match c, hR with
      | [], hR =>
        have h1 := trod_cells hS1 hS2 ht hn
        have h2 := hR.length
        have h3 : P.cellsOf t = 1 := by rcases hS2 t ht with h | h; exact absurd h (by assumption); exact h
        simp only [List.length_nil] at h2
        omega
      | y :: r, _ => simp [bulkL]
theorem args_good (hS : plainB P S = true) {base : Nat} : ∀ {ts : List TypeId} {vs : List Value} {ds : List (DataW H)} {p : List MemPlace}, (∀ t ∈ ts, t ∈ S) → (∀ (j : Nat) t v, ts[j]? = some t → vs[j]? = some v → Value.okWide P W .any base t v) → DataW.TrodAll enc P W 0 sp held ts vs ds p →
    ∃ xs, Rs W (fun b => b < W.heap.size) nope xs vs [] ∧ ShapeAll P ts xs ∧ bulkL xs ≤ Go.Proofs.YtkcnnifgdhabgaaDoor.Rows.uptoBulkAll ds
  | [], [], [], _, _, _, _ => ⟨[], ⟨rfl, rfl⟩, rfl, Nat.le_refl _⟩
  | t :: ts, v :: vs, d :: ds, _, ht, hv, h => by
    obtain ⟨p, q, h1, h2, _⟩ := h
    obtain ⟨n, c, k1, k0, k2, k3⟩ := arg_good hS (ht t (by simp)) (hv 0 t v rfl rfl) h1
    obtain ⟨xs, k4, k5, k6⟩ := args_good hS (fun t' ht' => ht t' (by simp [ht'])) (fun j t' v' e1 e2 => hv (j + 1) t' v' (by simpa using e1) (by simpa using e2)) h2
    refine ⟨_ :: xs, ⟨v, vs, [], [], rfl, rfl, k1, k4⟩, ⟨_, xs, n, c, rfl, rfl, k0, k2, k5⟩, ?_⟩
    simp only [bulkL, Go.Proofs.YtkcnnifgdhabgaaDoor.Rows.uptoBulkAll]
    omega
  | [], _ :: _, _, _, _, _, h => h.elim
  | [], [], _ :: _, _, _, _, h => h.elim
  | _ :: _, [], _, _, _, _, h => h.elim
  | _ :: _, _ :: _, [], _, _, _, h => h.elim
theorem stays_all (hl : laidOutB P = true) (hb : RowKit.Below W.heap.size W W') : ∀ {ts : List TypeId} {vs : List Value} {ds : List (DataW H)} {p : List MemPlace}, (∀ t ∈ ts, P.readableRec t = true ∧ t < P.types.size) → DataW.TrodAll enc P W 0 (fun _ => true) true ts vs ds p →
    DataW.TrodAll enc P W' 0 (fun b => decide (b < W.heap.size)) true ts vs ds p
  | [], [], [], _, _, h => h
  | t :: ts, v :: vs, d :: ds, _, ht, h => by
    obtain ⟨p, q, h1, h2, rfl⟩ := h
    obtain ⟨r1, r2⟩ := ht t (by simp)
    exact ⟨p, q, RowKit.Below.trod hl r1 r2 h1 hb (fun x hx => by obtain ⟨m, hm⟩ := h1; exact DataW.trod_lt m _ _ _ hm x hx), stays_all hl hb (fun t' ht' => ht t' (by simp [ht'])) h2, rfl⟩
  | [], _ :: _, _, _, _, h => h.elim
  | [], [], _ :: _, _, _, h => h.elim
  | _ :: _, [], _, _, _, h => h.elim
  | _ :: _, _ :: _, [], _, _, h => h.elim
end
/-- A call that lends all its arguments leaves the memory that was there as it was. -/
theorem row_calls {P : Program} {G : Nat → List PV} {C : Oracle} (hC : CallOK P G C) {f : FuncId} {xs : List PV} {u : Value} {backs : List PV} (h : C f xs = some (.v u, backs)) {W : World} {vs : List Value} (hx : Rs W (fun b => b < W.heap.size) nope xs vs [])
    (hG : ∀ n, G n ≠ [] → R W (fun b => b < W.heap.size) nope (.raddr (G n)) (.pointer (some ⟨n, 0, none⟩)) []) : Calls P f vs.toArray W fun e W' => e = .returned u ∧ RowKit.Below W.heap.size W W' := by
  refine (hC f xs _ backs h W (fun b => b < W.heap.size) vs [] (fun _ h => h) List.nodup_nil (fun _ h => by cases h) hG hx).mono ?_
  rintro e W' ⟨V, rfl, I', b1, b2, _, _, _, hos, htape, hout, hsize, hsame, hR, _⟩
  obtain ⟨rfl, _, _⟩ := hR
  exact ⟨rfl, ⟨hos, htape, hout, hsize, fun k hk => hsame k hk (by simp)⟩⟩

/-- A law's contract: what the abstract machine says of it, for all arguments that are not too great. -/
theorem law_calls {P : Program} {G : Nat → List PV} {C : Oracle} (hC : CallOK P G C) {f : FuncId} {fn : Func} {s : ChangeSpec} {S : List TypeId} (hS : plainB P S = true) (hp : fn.params.toList.all S.contains = true) (hl : laidOutB P = true) (hr : fn.params.toList.all (fun t => P.readableRec t && decide (t < P.types.size)) = true)
    {rt : TypeId} (hrt : fn.resultTypes = #[rt]) (hbool : P.underlying rt = some .bool) {H : Type} {enc : TypeId × Value → H} {W : World} (hG : ∀ n, G n ≠ [] → R W (fun b => b < W.heap.size) nope (.raddr (G n)) (.pointer (some ⟨n, 0, none⟩)) [])
    {base : Nat} {args : Array Value} {ds gs : List (DataW H)} {before : List MemPlace} (hspec : ∀ ds : List (DataW H), ds.length = fn.params.size → s.fn H (ds ++ gs) = { results := [.lit (.bool true)], args := ds, vars := gs })
    (hvars : ∀ {W' : World} {q : List MemPlace}, RowKit.Below W.heap.size W W' → DataW.TrodVars enc P W (fun _ => true) s.vars gs q → DataW.TrodVars enc P W' (fun b => decide (b < W.heap.size)) s.vars gs q)
    (hval : ∀ (j : Nat) t v, fn.params[j]? = some t → args[j]? = some v → Value.okWide P W .any base t v) (hW : DataW.Whole enc P fn.params.toList s.vars false W args.toList ds gs before) {B : Nat} (hk : Go.Proofs.YtkcnnifgdhabgaaDoor.Rows.uptoBulkAll ds ≤ B)
    (hmain : ∀ xs, ShapeAll P fn.params.toList xs → bulkL xs ≤ B → ∃ backs, C f xs = some (.v (.bool true), backs)) :
    Calls P f args W fun e W' => ∃ v, e = .returned v ∧ s.post enc P fn false true false false W args v W' := by
  have hW' := hW
  obtain ⟨p, q, hA, hV, rfl, _, _⟩ := hW
  obtain ⟨xs, k1, k2, k3⟩ := args_good hS (fun t ht => by have := List.all_eq_true.1 hp t ht; simpa using this) (fun j t v e1 e2 => hval j t v (by simpa using e1) (by simpa using e2)) hA
  obtain ⟨backs, hc⟩ := hmain xs k2 (Nat.le_trans k3 hk)
  have h3 := row_calls hC hc k1 hG
  rw [show args.toList.toArray = args by simp] at h3
  refine h3.mono fun e W' ⟨he, hb⟩ => ?_
  subst he
  have hlen : ds.length = fn.params.size := by
    have : ∀ {ts : List TypeId} {vs : List Value} {ds : List (DataW H)} {p : List MemPlace}, DataW.TrodAll enc P W 0 (fun _ => true) true ts vs ds p → ds.length = ts.length := by
      intro ts
      induction ts with
      | nil => intro vs ds p h; cases vs <;> cases ds <;> first | rfl | exact h.elim
      | cons t ts ih =>
        intro vs ds p h
        cases vs with
        | nil => exact h.elim
        | cons v vs =>
          cases ds with
          | nil => exact h.elim
          | cons d ds =>
            obtain ⟨p, q, _, h2, _⟩ := h
            simp [ih h2]
    simpa using this hA
  have hsp := hspec ds hlen
  refine ⟨_, rfl, ds, gs, _, [], p, q, hW', ?_, ?_, ?_, hb.frame _, fun h => (by cases h)⟩
  · rw [hsp, hrt]
    exact ChangeShapes.trodAll_mk1 (RowKit.shut_bool hbool true)
  · rw [hsp]
    exact stays_all hl hb (fun t ht => by have := List.all_eq_true.1 hr t ht; simpa using this) hA
  · rw [hsp]
    exact hvars hb hV
end Go.AM
