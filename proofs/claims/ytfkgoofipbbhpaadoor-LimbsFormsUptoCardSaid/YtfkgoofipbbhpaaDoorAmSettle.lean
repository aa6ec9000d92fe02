/- Operands, and what is taken from where they point to. No conditions. -/
import Derived.Test.YtfkgoofipbbhpaaDoorAmTake
namespace Go.AM
open Go

/-! ### Rows of elements -/
section
variable {w : World} {I : Nat → Prop} {q : PV → Value → Prop}
theorem nope_oneCell : ∀ y U, nope y U → U.oneCell' = true := fun _ _ h => h.elim
theorem imm_ne_dead {x : PV} (h : x.imm = true) : x ≠ .dead := by rintro rfl; simp [PV.imm] at h
theorem SzOk.sizes {sz : Nat} {l : List PV} (hs : SzOk sz l) {vs : List Value} (h : Rs w I nope l vs []) : ∀ v ∈ vs, v.cells.size = sz := by
  induction l generalizing vs with
  | nil => obtain ⟨rfl, _⟩ := h; simp
  | cons x r ih =>
    obtain ⟨v, us, b1, b2, rfl, e, h1, h2⟩ := h
    obtain ⟨rfl, rfl⟩ : b1 = [] ∧ b2 = [] := by simpa using e.symm
    intro u hu
    rcases List.mem_cons.1 hu with rfl | hu
    · rw [R.cells_length (imm_ne_dead (hs x (by simp)).2) nope_oneCell h1, (hs x (by simp)).1]
    · exact ih (fun y hy => hs y (by simp [hy])) h2 u hu
theorem flatV_length {sz : Nat} {vs : List Value} (h : ∀ v ∈ vs, v.cells.size = sz) : (flatV vs).length = vs.length * sz := by
  induction vs with
  | nil => simp [flatV]
  | cons v r ih =>
    have := ih (fun u hu => h u (by simp [hu]))
    simp only [flatV, List.flatMap_cons, List.length_append, Array.length_toList, h v (by simp), List.length_cons] at this ⊢
    rw [this, Nat.add_mul]
    omega
theorem flatV_append (a b : List Value) : flatV (a ++ b) = flatV a ++ flatV b := by simp [flatV]
theorem flatV_take {sz : Nat} {vs : List Value} (h : ∀ v ∈ vs, v.cells.size = sz) (n : Nat) : (flatV vs).take (n * sz) = flatV (vs.take n) := by
  induction vs generalizing n with
  | nil => simp [flatV]
  | cons v r ih =>
    have hv := h v (by simp)
    cases n with
    | zero => simp [flatV]
    | succ n =>
      have := ih (fun u hu => h u (by simp [hu])) n
      simp only [flatV, List.flatMap_cons, List.take_succ_cons] at this ⊢
      rw [Nat.add_mul, Nat.one_mul, Nat.add_comm, List.take_append, List.take_of_length_le (by simp [hv]), ← this]
      simp [hv]
theorem flatV_drop {sz : Nat} {vs : List Value} (h : ∀ v ∈ vs, v.cells.size = sz) (n : Nat) : (flatV vs).drop (n * sz) = flatV (vs.drop n) := by
  induction vs generalizing n with
  | nil => simp [flatV]
  | cons v r ih =>
    have hv := h v (by simp)
    cases n with
    | zero => simp [flatV]
    | succ n =>
      have := ih (fun u hu => h u (by simp [hu])) n
      simp only [flatV, List.flatMap_cons, List.drop_succ_cons] at this ⊢
      rw [Nat.add_mul, Nat.one_mul, Nat.add_comm, List.drop_append, List.drop_of_length_le (by simp [hv]), List.nil_append, ← this]
      simp [hv]
theorem flatV_get {sz : Nat} {vs : List Value} (h : ∀ v ∈ vs, v.cells.size = sz) {i : Nat} {v : Value} (hv : vs[i]? = some v) {k : Nat} {u : Value} (hu : v.cells.toList[k]? = some u) : (flatV vs)[i * sz + k]? = some u := by
  have hk : k < sz := by
    have := (List.getElem?_eq_some_iff.1 hu).1
    rw [Array.length_toList, h v (List.mem_of_getElem? hv)] at this
    exact this
  have h1 : ((flatV vs).drop (i * sz))[k]? = some u := by
    rw [flatV_drop h]
    have : vs.drop i = v :: vs.drop (i + 1) := by
      have hlt := (List.getElem?_eq_some_iff.1 hv).1
      rw [List.drop_eq_getElem_cons hlt, (List.getElem?_eq_some_iff.1 hv).2]
    rw [this]
    have hkl := (List.getElem?_eq_some_iff.1 hu).1
    simp only [flatV, List.flatMap_cons]
    rw [List.getElem?_append_left hkl]
    exact hu
  simpa using h1
theorem SzOk.take {sz : Nat} {l : List PV} (h : SzOk sz l) (n : Nat) : SzOk sz (l.take n) := fun x hx => h x (List.mem_of_mem_take hx)
theorem SzOk.drop {sz : Nat} {l : List PV} (h : SzOk sz l) (n : Nat) : SzOk sz (l.drop n) := fun x hx => h x (List.mem_of_mem_drop hx)
theorem SzOk.append {sz : Nat} {l r : List PV} (h : SzOk sz l) (k : SzOk sz r) : SzOk sz (l ++ r) := fun x hx => (List.mem_append.1 hx).elim (h x) (k x)
end

section
variable {w : World} {I : Nat → Prop} {e e' : Env} {val : Nat → Value} {B : Base} {blk : Nat → List Nat} {fl : List Nat} {q : PV → Value → Prop}

/-- The beginning of an owned row, as a value of its own. -/
theorem own_take {sz : Nat} {l : List PV} {U V : Value} {bs : List Nat} {s : Nat} {p : List Nat} {hi : Nat} (h : R w I nope (.own sz l) U bs) (hp : place val w s p = some U)
    (hv : ∃ a n cap a' cap', place val w s p = some (.slice a n cap) ∧ V = .slice a' (hi - 0) cap' ∧ 0 ≤ hi ∧ hi ≤ n ∧ 0 + cap' ≤ cap ∧ hi - 0 ≤ cap' ∧ (0 = 0 → a' = a) ∧ (0 < hi → a' = a.map (·.add (0 * sz)))) :
    R w I nope (.own sz (l.take hi)) V bs := by
  obtain ⟨a, n, cap, a', cap', h1, rfl, _, h3, h4, h5, h6⟩ := hv
  rw [hp] at h1
  obtain rfl := Option.some.inj h1
  have ha : a' = a := h6.1 rfl
  subst ha
  simp only [Nat.sub_zero, Nat.zero_add] at *
  refine ⟨SzOk.take h.1 hi, ?_⟩
  rcases h.2 with ⟨e1, rfl, rfl⟩ | ⟨g, vs, rfl, h7, cap2, cur, t, fr, e1, h8, h9, h10, h11, h12, h13⟩
  · cases e1
    obtain rfl : hi = 0 := by omega
    obtain rfl : cap' = 0 := by omega
    exact .inl ⟨rfl, rfl, rfl⟩
  · cases e1
    have hl : (l.take hi).length = hi := by simp; omega
    refine .inr ⟨g, vs.take hi, rfl, h7.take0 hi, cap', cur, t, fr, by rw [hl], h8, by omega, by omega, Nat.le_trans (Nat.mul_le_mul_right _ h4) h11, ?_, ?_⟩
    · rcases h12 with h12 | h12
      · exact .inl h12
      · exact .inr (Nat.le_trans (Nat.mul_le_mul_right _ h4) h12)
    · rw [hl, ← flatV_take (SzOk.sizes h.1 h7), ← h13, List.take_take]
      congr 1
      exact (Nat.min_eq_left (Nat.mul_le_mul_right _ (by omega))).symm

theorem settle1_ok (h : Inv B e q val w I blk fl) {x : PV} {V : Value} (hx : R w I (refOK e val w) x V []) {y : PV} (hs : settle1 e x = some (y, e')) :
    ∃ blk' bs, Inv B e' q val w I blk' (bs ++ fl) ∧ R w I nope y V bs ∧ Weak e' e := by
  cases x with
  | v x =>
    simp only [settle1, Option.some.injEq, Prod.mk.injEq] at hs
    obtain ⟨rfl, rfl⟩ := hs
    exact ⟨blk, [], h, hx, Weak.refl _⟩
  | ro sz l =>
    simp only [settle1, Option.some.injEq, Prod.mk.injEq] at hs
    obtain ⟨rfl, rfl⟩ := hs
    exact ⟨blk, [], h, hx, Weak.refl _⟩
  | raddr cs =>
    simp only [settle1, Option.some.injEq, Prod.mk.injEq] at hs
    obtain ⟨rfl, rfl⟩ := hs
    exact ⟨blk, [], h, hx, Weak.refl _⟩
  | nil sz =>
    simp only [settle1, Option.some.injEq, Prod.mk.injEq] at hs
    obtain ⟨rfl, rfl⟩ := hs
    exact ⟨blk, [], h, ⟨fun x hx => (by cases hx), .inl ⟨hx.1, rfl, rfl⟩⟩, Weak.refl _⟩
  | ref s p =>
    have hx2 := hx.2
    simp only [refOK] at hx2
    simp only [settle1] at hs
    split at hs
    · rename_i sz l hat
      simp only [Option.some.injEq, Prod.mk.injEq] at hs
      obtain ⟨rfl, rfl⟩ := hs
      have ho : (e.at_ s p).isObj = true := by rw [hat]; rfl
      obtain ⟨U, bs, blk', h1, h2, h3⟩ := h.take ho
      rw [hx2.2 ho] at h1
      obtain rfl := Option.some.inj h1
      rw [hat] at h2
      exact ⟨blk', bs, h3, h2, Weak.setAt rfl (by simp [PV.isObj])⟩
    · rename_i cs hat
      split at hs
      · simp only [Option.some.injEq, Prod.mk.injEq] at hs
        obtain ⟨rfl, rfl⟩ := hs
        have ho : (e.at_ s p).isObj = true := by rw [hat]; rfl
        obtain ⟨U, bs, blk', h1, h2, h3⟩ := h.take ho
        rw [hx2.2 ho] at h1
        obtain rfl := Option.some.inj h1
        rw [hat] at h2
        exact ⟨blk', bs, h3, h2, Weak.setAt rfl (by simp [PV.isObj])⟩
      · simp at hs
    · simp at hs
  | win s p sz lo hi =>
    have hx2 := hx.2
    simp only [refOK] at hx2
    simp only [settle1] at hs
    split at hs
    · rename_i sz' l hat
      split at hs
      · rename_i hc
        obtain ⟨rfl, rfl⟩ := hc
        simp only [Option.some.injEq, Prod.mk.injEq] at hs
        obtain ⟨rfl, rfl⟩ := hs
        have ho : (e.at_ s p).isObj = true := by rw [hat]; rfl
        obtain ⟨U, bs, blk', h1, h2, h3⟩ := h.take ho
        rw [hat] at h2
        exact ⟨blk', bs, h3, own_take h2 h1 (hx2.2 ho), Weak.setAt rfl (by simp [PV.isObj])⟩
      · simp at hs
    · simp at hs
  | _ => simp [settle1] at hs

theorem settleL_ok {l : List PV} : ∀ {e e' : Env} {blk : Nat → List Nat} {fl : List Nat} {vs : List Value} {ys : List PV}, Inv B e q val w I blk fl → Rs w I (refOK e val w) l vs [] → settleL e l = some (ys, e') →
    ∃ blk' bs, Inv B e' q val w I blk' (bs ++ fl) ∧ Rs w I nope ys vs bs ∧ Weak e' e := by
  induction l with
  | nil =>
    intro e e' blk fl vs ys h hx hs
    simp only [settleL, Option.some.injEq, Prod.mk.injEq] at hs
    obtain ⟨rfl, rfl⟩ := hs
    exact ⟨blk, [], h, ⟨hx.1, rfl⟩, Weak.refl _⟩
  | cons x r ih =>
    intro e e' blk fl vs ys h hx hs
    obtain ⟨v, us, b1, b2, rfl, e0, h1, h2⟩ := hx
    obtain ⟨rfl, rfl⟩ : b1 = [] ∧ b2 = [] := by simpa using e0.symm
    simp only [settleL, Option.bind_eq_bind, Option.bind_eq_some_iff, Option.pure_def, Option.some.injEq, Prod.mk.injEq, Prod.exists] at hs
    obtain ⟨y, e1, hs1, ys', e2, hs2, rfl, rfl⟩ := hs
    obtain ⟨blk1, bs1, h3, h4, h5⟩ := settle1_ok h h1 hs1
    obtain ⟨blk2, bs2, h6, h7, h8⟩ := ih h3 (h5.Rs h2) hs2
    refine ⟨blk2, bs1 ++ bs2, h6.fl_perm ?_, ⟨v, us, bs1, bs2, rfl, rfl, h4, h7⟩, h8.trans h5⟩
    rw [show bs2 ++ (bs1 ++ fl) = (bs2 ++ bs1) ++ fl by simp]
    exact List.Perm.append_right _ List.perm_append_comm
theorem settle_ok (h : Inv B e q val w I blk fl) {x : PV} {V : Value} (hx : R w I (refOK e val w) x V []) {y : PV} (hs : settle e x = some (y, e')) :
    ∃ blk' bs, Inv B e' q val w I blk' (bs ++ fl) ∧ R w I nope y V bs ∧ Weak e' e := by
  unfold settle at hs
  split at hs
  · rename_i cs
    simp only [Option.bind_eq_bind, Option.bind_eq_some_iff, Option.pure_def, Option.some.injEq, Prod.mk.injEq, Prod.exists] at hs
    obtain ⟨ys, e1, hs1, rfl, rfl⟩ := hs
    obtain ⟨vs, rfl, hx⟩ := hx
    obtain ⟨blk', bs, h1, h2, h3⟩ := settleL_ok h hx hs1
    exact ⟨blk', bs, h1, ⟨vs, rfl, h2⟩, h3⟩
  · rename_i cs
    simp only [Option.bind_eq_bind, Option.bind_eq_some_iff, Option.pure_def, Option.some.injEq, Prod.mk.injEq, Prod.exists] at hs
    obtain ⟨ys, e1, hs1, rfl, rfl⟩ := hs
    obtain ⟨vs, rfl, hx⟩ := hx
    obtain ⟨blk', bs, h1, h2, h3⟩ := settleL_ok h hx hs1
    exact ⟨blk', bs, h1, ⟨vs, rfl, h2⟩, h3⟩
  · exact settle1_ok h hx hs

/-! ### The elements that a view tells -/
/-- A slice's header and its elements' cells, wherever they lie. -/
def SliceOf (w : World) (I : Nat → Prop) (sz : Nat) (l : List PV) (V : Value) : Prop :=
  SzOk sz l ∧ ∃ a cap vs, V = .slice a l.length cap ∧ l.length ≤ cap ∧ Rs w I nope l vs [] ∧ (l = [] ∨ ∃ A : Addr, a = some A ∧ A.spot = none ∧ A.block < w.heap.size ∧ CellsAt w A (flatV vs))
theorem settleP_ok {l : List PV} : ∀ {e e' : Env} {blk : Nat → List Nat} {fl : List Nat} {vs : List Value} {ys : List PV}, Inv B e q val w I blk fl → Rs w I (refOK e val w) l vs [] → settleP e l = some (ys, e') →
    ∃ blk' bs, Inv B e' q val w I blk' (bs ++ fl) ∧ Rs w I nope ys vs bs ∧ Weak e' e := by
  induction l with
  | nil =>
    intro e e' blk fl vs ys h hx hs
    simp only [settleP, Option.some.injEq, Prod.mk.injEq] at hs
    obtain ⟨rfl, rfl⟩ := hs
    exact ⟨blk, [], h, ⟨hx.1, rfl⟩, Weak.refl _⟩
  | cons x r ih =>
    intro e e' blk fl vs ys h hx hs
    obtain ⟨v, us, b1, b2, rfl, e0, h1, h2⟩ := hx
    obtain ⟨rfl, rfl⟩ : b1 = [] ∧ b2 = [] := by simpa using e0.symm
    simp only [settleP, Option.bind_eq_bind, Option.bind_eq_some_iff, Option.pure_def, Option.some.injEq, Prod.mk.injEq, Prod.exists] at hs
    obtain ⟨y, e1, hs1, ys', e2, hs2, rfl, rfl⟩ := hs
    obtain ⟨blk1, bs1, h3, h4, h5⟩ := settle_ok h h1 hs1
    obtain ⟨blk2, bs2, h6, h7, h8⟩ := ih h3 (h5.Rs h2) hs2
    refine ⟨blk2, bs1 ++ bs2, h6.fl_perm ?_, ⟨v, us, bs1, bs2, rfl, rfl, h4, h7⟩, h8.trans h5⟩
    rw [show bs2 ++ (bs1 ++ fl) = (bs2 ++ bs1) ++ fl by simp]
    exact List.Perm.append_right _ List.perm_append_comm
theorem own_slice {sz : Nat} {l : List PV} {V : Value} {bs : List Nat} (h : R w I q (.own sz l) V bs) : SliceOf w I sz l V := by
  refine ⟨h.1, ?_⟩
  rcases h.2 with ⟨rfl, rfl, rfl⟩ | ⟨g, vs, rfl, h7, cap, cur, t, fr, rfl, h8, h9, h10, h11, h12, h13⟩
  · exact ⟨none, 0, [], rfl, Nat.le_refl _, ⟨rfl, rfl⟩, .inl rfl⟩
  · refine ⟨_, cap, vs, rfl, h9, h7, .inr ⟨_, rfl, rfl, (Array.getElem?_eq_some_iff.1 h8).1, fun j u hu => ?_⟩⟩
    have hadd : (⟨g, 0, none⟩ : Addr).add j = ⟨g, j, none⟩ := by unfold Addr.add; split <;> simp_all
    rw [hadd, cell_of_row w g j cur t fr h8]
    rw [← h13, List.getElem?_take] at hu
    split at hu
    · simpa using hu
    · cases hu
theorem ro_slice (hI : ∀ b, I b → b < w.heap.size) {sz : Nat} {l : List PV} {V : Value} {bs : List Nat} (h : R w I q (.ro sz l) V bs) : SliceOf w I sz l V := by
  obtain ⟨_, hs, a, cap, rfl, hc, h⟩ := h
  refine ⟨hs, ?_⟩
  rcases h with rfl | ⟨A, vs, rfl, h2, h3, h4, h5⟩
  · exact ⟨a, cap, [], rfl, hc, ⟨rfl, rfl⟩, .inl rfl⟩
  · exact ⟨some A, cap, vs, rfl, hc, h4, .inr ⟨A, rfl, h2, hI _ h3, h5⟩⟩
theorem add_add (A : Addr) (i j : Nat) (h : A.spot = none) : (A.add i).add j = A.add (i + j) := by
  obtain ⟨b, o, s⟩ := A
  cases h
  simp only [Addr.add_lit, Nat.add_assoc]
theorem spot_add (A : Addr) (i : Nat) (h : A.spot = none) : (A.add i).spot = none := by
  unfold Addr.add
  split
  · exact h
  · rfl
theorem block_add (A : Addr) (i : Nat) : (A.add i).block = A.block := by
  unfold Addr.add
  split <;> rfl
theorem CellsAt.drop {A : Addr} {us : List Value} (h : CellsAt w A us) (hs : A.spot = none) (n : Nat) : CellsAt w (A.add n) (us.drop n) := by
  intro j u hu
  rw [add_add _ _ _ hs]
  exact h (n + j) u (by simpa using hu)
theorem CellsAt.take {A : Addr} {us : List Value} (h : CellsAt w A us) (n : Nat) : CellsAt w A (us.take n) := by
  intro j u hu
  rw [List.getElem?_take] at hu
  split at hu
  · exact h j u hu
  · cases hu
/-- A cut of a slice. -/
theorem SliceOf.cut {sz : Nat} {l : List PV} {a : Option Addr} {n cap : Nat} (h : SliceOf w I sz l (.slice a n cap)) {lo hi cap' : Nat} {a' : Option Addr} (h1 : lo ≤ hi) (h2 : hi ≤ l.length) (_h3 : lo + cap' ≤ cap) (h4 : hi - lo ≤ cap')
    (h5 : lo < hi → a' = a.map (·.add (lo * sz))) : SliceOf w I sz ((l.take hi).drop lo) (.slice a' (hi - lo) cap') := by
  obtain ⟨hs, a0, c0, vs, e, _, hr, hc⟩ := h
  cases e
  have hl : ((l.take hi).drop lo).length = hi - lo := by simp; omega
  refine ⟨(hs.take hi).drop lo, a', cap', (vs.take hi).drop lo, by rw [hl], by omega, (hr.take0 hi).drop0 lo, ?_⟩
  by_cases he : hi = lo
  · left
    apply List.eq_nil_of_length_eq_zero
    omega
  · right
    rcases hc with rfl | ⟨A, rfl, hA, hb, hcells⟩
    · simp at h2; omega
    · refine ⟨A.add (lo * sz), h5 (by omega), spot_add _ _ hA, by rw [block_add]; exact hb, ?_⟩
      have hsz := SzOk.sizes hs hr
      rw [← flatV_drop (fun v hv => hsz v (List.mem_of_mem_take hv)), ← flatV_take hsz]
      exact (hcells.take _).drop hA _
theorem elems_ok (h : Inv B e (refOK e val w) val w I blk fl) {x : PV} {V : Value} (hx : R w I (refOK e val w) x V []) {sz : Nat} {l : List PV} (he : elems e x = some (sz, l)) : SliceOf w I sz l V := by
  cases x with
  | ro sz' l' =>
    simp only [elems, Option.some.injEq, Prod.mk.injEq] at he
    obtain ⟨rfl, rfl⟩ := he
    exact ro_slice h.ltI hx
  | nil sz' =>
    simp only [elems, Option.some.injEq, Prod.mk.injEq] at he
    obtain ⟨rfl, rfl⟩ := he
    exact ⟨fun x hx => by simp at hx, none, 0, [], hx.1, Nat.le_refl _, ⟨rfl, rfl⟩, .inl rfl⟩
  | ref s p =>
    have hx2 := hx.2
    simp only [refOK] at hx2
    simp only [elems] at he
    split at he
    · rename_i sz' l' hat
      simp only [Option.some.injEq, Prod.mk.injEq] at he
      obtain ⟨rfl, rfl⟩ := he
      have ho : (e.at_ s p).isObj = true := by rw [hat]; rfl
      obtain ⟨U, bs, blk', h1, h2, _⟩ := h.take ho
      rw [hx2.2 ho] at h1
      obtain rfl := Option.some.inj h1
      rw [hat] at h2
      exact own_slice h2
    · simp at he
  | win s p sz' lo hi =>
    have hx2 := hx.2
    simp only [refOK] at hx2
    simp only [elems] at he
    split at he
    · rename_i sz2 l' hat
      split at he
      · rename_i hc
        subst hc
        simp only [Option.some.injEq, Prod.mk.injEq] at he
        obtain ⟨rfl, rfl⟩ := he
        have ho : (e.at_ s p).isObj = true := by rw [hat]; rfl
        obtain ⟨U, bs, blk', h1, h2, _⟩ := h.take ho
        obtain ⟨a, n, cap, a', cap', h3, rfl, h4, h5, h6, h7, h8⟩ := hx2.2 ho
        rw [h3] at h1
        obtain rfl := Option.some.inj h1
        rw [hat] at h2
        have hsl := own_slice h2
        have hn : n = l'.length := by obtain ⟨_, a0, c0, vs, e1, _⟩ := hsl; cases e1; rfl
        exact hsl.cut h4 (by omega) h6 h7 h8.2
      · simp at he
    · simp at he
  | _ => simp [elems] at he
end
end Go.AM
