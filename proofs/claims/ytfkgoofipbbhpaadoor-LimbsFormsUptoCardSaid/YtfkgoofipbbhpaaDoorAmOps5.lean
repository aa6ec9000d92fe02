/- The operations, continued: stores into variables in memory and into rows. No conditions. -/
import Derived.Test.YtfkgoofipbbhpaaDoorAmOps4
namespace Go.AM
open Go

theorem setManyV_append (X : List Value) : ∀ (vs Y Z : List Value) (k : Nat), k + vs.length ≤ Y.length → setManyV (X ++ (Y ++ Z)) (X.length + k) vs = X ++ (setManyV Y k vs ++ Z)
  | [], Y, Z, k, _ => rfl
  | v :: r, Y, Z, k, h => by
    simp only [List.length_cons] at h
    simp only [setManyV]
    have h1 : (X ++ (Y ++ Z)).set (X.length + k) v = X ++ (Y.set k v ++ Z) := by
      rw [List.set_append_right _ _ (by omega), Nat.add_sub_cancel_left, List.set_append_left _ _ (by omega)]
    rw [h1, Nat.add_assoc, setManyV_append X r (Y.set k v) Z (k + 1) (by simp; omega)]
theorem setManyV_take : ∀ (vs us : List Value) (o n : Nat), o + vs.length ≤ n → (setManyV us o vs).take n = setManyV (us.take n) o vs
  | [], _, _, _, _ => rfl
  | v :: r, us, o, n, h => by
    simp only [List.length_cons] at h
    simp only [setManyV]
    rw [setManyV_take r _ _ _ (by omega), List.take_set]
theorem flatV_set {sz : Nat} {vs : List Value} (h : ∀ v ∈ vs, v.cells.size = sz) {i : Nat} {v v' : Value} (hv : vs[i]? = some v) {k : Nat} {us : List Value} (hk : k + us.length ≤ v.cells.size) (hv' : v'.cells.toList = setManyV v.cells.toList k us) :
    flatV (vs.set i v') = setManyV (flatV vs) (i * sz + k) us := by
  have hlt := (List.getElem?_eq_some_iff.1 hv).1
  have e1 : vs = vs.take i ++ v :: vs.drop (i + 1) := by
    rw [← (List.getElem?_eq_some_iff.1 hv).2, List.getElem_cons_drop, List.take_append_drop]
  have e2 : vs.set i v' = vs.take i ++ v' :: vs.drop (i + 1) := by
    conv => lhs; rw [e1]
    have hl : (vs.take i).length = i := by simp; omega
    rw [List.set_append_right _ _ (by omega), hl, Nat.sub_self, List.set_cons_zero]
  have e3 : flatV vs = flatV (vs.take i) ++ (v.cells.toList ++ flatV (vs.drop (i + 1))) := by
    conv => lhs; rw [e1]
    simp [flatV]
  have hX : (flatV (vs.take i)).length = i * sz := by
    rw [flatV_length (sz := sz) (fun u hu => h u (List.mem_of_mem_take hu)), List.length_take, Nat.min_eq_left (by omega)]
  rw [e2, e3, ← hX, setManyV_append _ _ _ _ _ (by simpa using hk), ← hv']
  simp [flatV]
theorem PV.path_setSub_leaf : ∀ (p : List Nat) (x y z : PV) (p' : List Nat), y.kids = [] → z.kids = [] → (x.setSub p y).path p' = (x.setSub p z).path p'
  | [], x, y, z, p', hy, hz => by
    have e1 : x.setSub [] y = y := by cases x <;> rfl
    have e2 : x.setSub [] z = z := by cases x <;> rfl
    rw [e1, e2]
    cases p' with
    | nil => rfl
    | cons o r => simp [PV.path, hy, hz]
  | o :: p, x, y, z, p', hy, hz => by
    cases hx : x.kids[o]? with
    | none =>
      have hs : ∀ u, x.setSub (o :: p) u = x := by
        intro u
        cases x with
        | agg cs => simp only [PV.kids] at hx; simp only [PV.setSub]; rw [List.set_eq_of_length_le (List.getElem?_eq_none_iff.1 hx)]
        | tup cs => simp only [PV.kids] at hx; simp only [PV.setSub]; rw [List.set_eq_of_length_le (List.getElem?_eq_none_iff.1 hx)]
        | box cs => simp only [PV.kids] at hx; simp only [PV.setSub]; rw [List.set_eq_of_length_le (List.getElem?_eq_none_iff.1 hx)]
        | _ => rfl
      rw [hs, hs]
    | some c =>
      rw [PV.setSub_cons hx, PV.setSub_cons hx]
      cases p' with
      | nil => rfl
      | cons b r =>
        simp only [PV.path, PV.kids_withKid hx]
        by_cases hb : o = b
        · subst hb
          have hlt : o < x.kids.length := (List.getElem?_eq_some_iff.1 hx).1
          simp only [List.getElem?_set_self hlt]
          exact PV.path_setSub_leaf p c y z r hy hz
        · simp only [List.getElem?_set_ne hb]
theorem Env.setAt_nil (e : Env) (s : Nat) (y : PV) : e.setAt s [] y = e.set s y := by
  unfold Env.setAt
  cases e.get s <;> rfl

section
variable {P : Program} {B : Base} {a : Act} {H : Nat → Value} {e e1 e2 : Env} {w w' : World} {I : Nat → Prop} {blk : Nat → List Nat} {val : Nat → Value}

theorem storeBox_inv {bs : List Nat} (h : Inv B e1 (refOK e val w) val w I blk bs) (hw : Weak e1 e) {s : Nat} {cs : List PV} (hg : e1.get s = .box cs) {ys : List PV} {vs : List Value} (hys : Rs w I nope ys vs bs) {o : Nat} (hfit : o + ys.length ≤ cs.length) :
    ∃ g cur t fr, val s = .pointer (some ⟨g, 0, none⟩) ∧ w.heap[g]? = some (.cells cur t fr) ∧ unfrozen fr cur.size ∧ cur.size = cs.length ∧
      ∀ w' : World, w'.heap[g]? = some (.cells (setManyV cur.toList o vs).toArray t fr) → w'.heap.size = w.heap.size → (∀ k, k ≠ g → w'.heap[k]? = w.heap[k]?) → w'.os = w.os → w'.tape = w.tape → w'.output = w.output →
        ∃ I' blk', Inv B ((e1.kill s fun p => !p.isEmpty).set s (.box (AM.setMany cs o ys))) (refOK ((e1.kill s fun p => !p.isEmpty).set s (.box (AM.setMany cs o ys))) val w') val w' I' blk' [] := by
  obtain ⟨blk2, k2, wk2, _⟩ := h.kill s fun p => !p.isEmpty
  have hg2 : (e1.kill s fun p => !p.isEmpty).get s = .box cs := by rw [Env.get_kill, hg]; rfl
  have hob : ((e1.kill s fun p => !p.isEmpty).at_ s []).isObj = true := by simp [Env.at_, PV.sub, hg2, PV.isObj]
  obtain ⟨U, bsb, blk3, hU, hRb, k3⟩ := k2.take hob
  obtain rfl : val s = U := by simpa [place, walk] using hU
  simp only [Env.at_, PV.sub, hg2] at hRb
  obtain ⟨g, us, bs', rfl, hr, cur, t, fr, hv, hcur, hunf, rfl⟩ := hRb
  have hgblk : g ∈ blk2 s := by
    have := k2.rel s
    rw [hg2] at this
    obtain ⟨g', us', bs'', e0, _, cur', t', fr', hv', _⟩ := this
    rw [hv] at hv'
    cases hv'
    rw [e0]
    simp
  refine ⟨g, cur, t, fr, hv, hcur, hunf, by simpa using hr.length, fun w' c1 c2 c3 c4 c5 c6 => ?_⟩
  have k4 := k3.world (w' := w') c4 c5 c6 (by omega) (fun b _ hb => c3 b (by rintro rfl; simp at hb)) [] (by simp) (by simp)
  obtain ⟨bs'', dropped, hset, hperm⟩ := Rs.setMany hr hys.ofNope hfit
  have hnd := k3.ndf
  have hgnot : g ∉ bs' ++ bs := by
    simp only [List.cons_append, List.nodup_cons] at hnd
    exact hnd.1
  have hset' : Rs w' I (selfq g) (AM.setMany cs o ys) (setManyV cur.toList o vs) bs'' := by
    refine Rs.mono (fun _ h => h) (fun b hb => c3 b ?_) _ _ _ (fun _ _ h => h) _ _ (fun b hb => c3 b ?_) hset
    · rintro rfl
      exact k3.notIf b (by simp) hb
    · rintro rfl
      exact hgnot (hperm.mem_iff.2 (by simp [hb]))
  have hbox : R w' I nope (.box (AM.setMany cs o ys)) (val s) (g :: bs'') := ⟨g, _, bs'', rfl, hset', (setManyV cur.toList o vs).toArray, t, fr, hv, c1, by simpa [setManyV_length] using hunf, by simp⟩
  have k5 : Inv B _ _ val w' I blk3 ((g :: bs'') ++ dropped) := k4.fl_perm (by simpa using hperm.cons g)
  obtain ⟨blk5, k6⟩ := k5.lay (s := s) (p := []) rfl (U := val s) rfl hbox
  rw [Env.setAt_nil, Env.setAt_nil, Env.set_set] at k6
  refine ⟨I, blk5, { k6.fl_drop (List.nil_sublist _) with rel := fun t' => ?_ }⟩
  have key : ∀ s' p', (s' ≠ s ∨ p' = []) → (((e1.kill s fun p => !p.isEmpty).set s (.box (AM.setMany cs o ys))).at_ s' p').isObj = true → (e.at_ s' p').isObj = true ∧ place val w' s' p' = place val w s' p' := by
    intro s' p' hc ho
    by_cases hs : s' = s
    · subst hs
      obtain rfl := hc.resolve_left (by simp)
      exact ⟨hw s' [] (by simp [Env.at_, PV.sub, hg, PV.isObj]), rfl⟩
    · unfold Env.at_ at ho
      rw [Env.get_set, if_neg (Ne.symm hs)] at ho
      refine ⟨hw s' p' (wk2 s' p' ho), walk_same p' _ _ (val s') (blk2 s') (k2.rel s') (PV.path_of_obj p' _ ho) fun b hb => c3 b ?_⟩
      rintro rfl
      exact k2.dj s' s hs b hb hgblk
  refine R.congr (s := s) (t := fun p => !p.isEmpty) ?_ _ _ _ ?_ (k6.rel t')
  · intro x V hm k
    cases x <;> simp only [refOK, PV.ment, Bool.and_eq_false_iff, beq_eq_false_iff_ne, Bool.not_eq_false', List.isEmpty_iff] at k hm ⊢
    · refine ⟨k.1, fun ho => ?_⟩
      obtain ⟨h1, h2⟩ := key _ _ hm ho
      exact h2.trans (k.2 h1)
    · refine ⟨k.1, fun ho => ?_⟩
      obtain ⟨h1, h2⟩ := key _ _ hm ho
      rw [h2]
      exact k.2 h1
    · refine ⟨k.1, fun ho => ?_⟩
      obtain ⟨h1, _⟩ := key _ [] (.inr rfl) ho
      exact k.2 h1
    · refine ⟨k.1, fun ho => ?_⟩
      obtain ⟨h1, h2⟩ := key _ _ hm ho
      rw [h2]
      exact k.2 h1
  · rw [Env.get_set]
    by_cases hs : s = t'
    · simp [hs, PV.ment]
    · rw [if_neg hs, Env.get_kill]
      by_cases hm : PV.ment s (fun p => !p.isEmpty) (e1.get t') = true
      · simp [hm, PV.ment]
      · simp [hm]

theorem immL_iff {l : List PV} : PV.immL l = true ↔ ∀ x ∈ l, x.imm = true := by
  induction l with
  | nil => simp [PV.immL]
  | cons x r ih => simp [PV.immL, ih]
theorem immL_setMany {ys : List PV} : ∀ {cs : List PV} {k : Nat}, PV.immL cs = true → PV.immL ys = true → PV.immL (AM.setMany cs k ys) = true := by
  induction ys with
  | nil => intro cs k h _; exact h
  | cons y r ih =>
    intro cs k h1 h2
    simp only [PV.immL, Bool.and_eq_true] at h2
    refine ih (immL_iff.2 fun x hx => ?_) h2.2
    rcases List.mem_or_eq_of_mem_set hx with hx | rfl
    · exact immL_iff.1 h1 x hx
    · exact h2.1
theorem one_setMany {ys : List PV} : ∀ {cs : List PV} {k : Nat}, cs.all PV.one = true → ys.all PV.one = true → (AM.setMany cs k ys).all PV.one = true := by
  induction ys with
  | nil => intro cs k h _; exact h
  | cons y r ih =>
    intro cs k h1 h2
    simp only [List.all_cons, Bool.and_eq_true] at h2
    refine ih (List.all_eq_true.2 fun x hx => ?_) h2.2
    rcases List.mem_or_eq_of_mem_set hx with hx | rfl
    · exact List.all_eq_true.1 h1 x hx
    · exact h2.1
theorem freezeL_length (l : List PV) : (PV.freezeL l).length = l.length := by
  induction l with
  | nil => rfl
  | cons x r ih => simp [PV.freezeL, ih]
theorem one_cells_pv {y : PV} (h : y.one = true) : y.cells = [y] := by cases y <;> first | rfl | cases h
/-- An element written anew. -/
theorem setElem_ok {z : PV} {v : Value} (hz : z.imm = true) (hR : R w I nope z v []) {ys : List PV} {vs : List Value} (hys : Rs w I nope ys vs []) (hi : PV.immL ys = true) (hone : ∀ u ∈ vs, u.oneCell' = true) (hones : ys.all PV.one = true) {k : Nat} (hk : k + ys.length ≤ z.cells.length) (hpos : 0 < ys.length) :
    ∃ v', R w I nope (setElem z k ys) v' [] ∧ v'.cells.toList = setManyV v.cells.toList k vs ∧ (setElem z k ys).cells.length = z.cells.length ∧ (setElem z k ys).imm = true := by
  have single : z.cells = [z] → setElem z k ys = ys[0]?.getD .dead → v.cells = #[v] → ∃ v', R w I nope (setElem z k ys) v' [] ∧ v'.cells.toList = setManyV v.cells.toList k vs ∧ (setElem z k ys).cells.length = z.cells.length ∧ (setElem z k ys).imm = true := by
    intro h1 h2 h3
    rw [h1] at hk
    simp only [List.length_singleton] at hk
    obtain rfl : k = 0 := by omega
    match ys, hys, hi, hk, hpos, h2, hones with
    | [y], hys, hi, _, _, h2, hones =>
      obtain ⟨u, us, b1, b2, rfl, e0, g1, g2⟩ := hys
      obtain ⟨rfl, rfl⟩ : b1 = [] ∧ b2 = [] := by simpa using e0.symm
      obtain ⟨rfl, _⟩ := g2
      rw [h2]
      simp only [List.getElem?_cons_zero, Option.getD_some]
      refine ⟨u, g1, ?_, ?_, ?_⟩
      · rw [h3, one_cells (hone u (by simp))]
        rfl
      · have hy : y.one = true := by simpa using hones
        rw [h1, one_cells_pv hy]
        rfl
      · simpa [PV.immL] using hi
  cases z with
  | agg cs =>
    obtain ⟨us, rfl, hr⟩ := hR
    simp only [PV.cells] at hk
    obtain ⟨bs'', dropped, h3, h4⟩ := Rs.setMany hr hys hk
    obtain ⟨rfl, _⟩ : bs'' = [] ∧ dropped = [] := by
      have := h4.symm.eq_nil
      simpa using this
    refine ⟨.agg (setManyV us k vs).toArray, ⟨_, rfl, h3⟩, by simp [Value.cells], by simp [setElem, PV.cells, setMany_length], ?_⟩
    simp only [setElem, PV.imm, Bool.and_eq_true] at hz ⊢
    exact ⟨immL_setMany hz.1 hi, one_setMany hz.2 hones⟩
  | v x => exact single rfl rfl (by rw [hR.1]; exact one_cells hR.2.1)
  | ro sz l => exact single rfl rfl (by obtain ⟨_, _, a, cap, rfl, _⟩ := hR; rfl)
  | raddr cs => exact single rfl rfl (by obtain ⟨_, A, us, rfl, _⟩ := hR; rfl)
  | nil sz => exact single rfl rfl (by rw [hR.1]; rfl)
  | _ => simp [PV.imm] at hz

theorem storeElem_inv {bs : List Nat} (h : Inv B e1 (refOK e val w) val w I blk bs) (hw : Weak e1 e) {s : Nat} {p : List Nat} {sz : Nat} {l : List PV} (hat : e1.at_ s p = .own sz l) {i : Nat} {z : PV} (hz : l[i]? = some z) {k : Nat} {ys : List PV} {vs : List Value} (hys : Rs w I nope ys vs bs) (hone : ys.all PV.one = true)
    (hi : PV.immL (PV.freezeL ys) = true) (hk : k + ys.length ≤ z.cells.length) (hpos : 0 < ys.length) {g n cap : Nat} (hpl : place val w s p = some (.slice (some ⟨g, 0, none⟩) n cap)) :
    ∃ cur t fr, w.heap[g]? = some (.cells cur t fr) ∧ i * sz + k + ys.length ≤ cur.size ∧ (fr.2 ≤ fr.1 ∨ i * sz + k + ys.length ≤ fr.1) ∧
      ∀ w' : World, w'.heap[g]? = some (.cells (setManyV cur.toList (i * sz + k) vs).toArray t fr) → w'.heap.size = w.heap.size → (∀ k, k ≠ g → w'.heap[k]? = w.heap[k]?) → w'.os = w.os → w'.tape = w.tape → w'.output = w.output →
        ∃ I' blk', Inv B (e1.setAt s p (.own sz (l.set i (setElem z k (PV.freezeL ys))))) (refOK (e1.setAt s p (.own sz (l.set i (setElem z k (PV.freezeL ys))))) val w') val w' I' blk' [] := by
  have k1 := Inv.frozen (fl := []) (bs := bs) (by simpa using h)
  have hob : (e1.at_ s p).isObj = true := by rw [hat]; rfl
  obtain ⟨U, bsb, blk2, hU, hRU, k2⟩ := k1.take hob
  rw [hpl] at hU
  obtain rfl := Option.some.inj hU
  rw [hat] at hRU
  have hys1 : Rs w (fun b => I b ∨ b ∈ bs) nope (PV.freezeL ys) vs [] := Rs.frozen (fun b hb => .inl hb) ys vs bs hi (fun b hb => .inr hb) hys
  obtain ⟨hs, hRU⟩ := hRU
  rcases hRU with ⟨hcon, _⟩ | ⟨g', vsl, rfl, hr, cap', cur, t, fr, hV, hcur, hn, hcap, hfit, hunf, htake⟩
  · cases hcon
  · cases hV
    have hzi := hs z (List.mem_of_getElem? hz)
    obtain ⟨v, hv, hRz⟩ := hr.get0 hz
    have hsizes := SzOk.sizes hs hr
    have hvsz : v.cells.size = sz := hsizes v (List.mem_of_getElem? hv)
    have hil : i < l.length := (List.getElem?_eq_some_iff.1 hz).1
    have hvl : vs.length = ys.length := hys.length
    have hbnd : i * sz + k + ys.length ≤ l.length * sz := by
      have h1 : (i + 1) * sz ≤ l.length * sz := Nat.mul_le_mul_right sz hil
      rw [Nat.add_mul, Nat.one_mul] at h1
      have := hzi.1
      omega
    have hbnd2 : l.length * sz ≤ cap * sz := Nat.mul_le_mul_right sz hn
    obtain ⟨v', hRv', hv'c, hzl, hzimm⟩ := setElem_ok (k := k) hzi.2 hRz hys1 hi (Rs.one_cells hone hys) (ys := PV.freezeL ys) (by
      have : ∀ l : List PV, l.all PV.one = true → (PV.freezeL l).all PV.one = true := by
        intro l
        induction l with
        | nil => intro _; rfl
        | cons x r ih =>
          intro hx
          simp only [List.all_cons, Bool.and_eq_true] at hx
          simp only [PV.freezeL, List.all_cons, Bool.and_eq_true]
          exact ⟨by cases x <;> simp_all [PV.freeze, PV.one], ih hx.2⟩
      exact this ys hone) (by rw [freezeL_length]; exact hk) (by rw [freezeL_length]; exact hpos)
    refine ⟨cur, t, fr, hcur, by omega, by rcases hunf with h1 | h1 <;> omega, fun w' c1 c2 c3 c4 c5 c6 => ?_⟩
    have k3 := k2.world (w' := w') c4 c5 c6 (by omega) (fun b _ hb => c3 b (by rintro rfl; simp at hb)) [] (by simp) (by simp)
    have hI : ∀ b, (I b ∨ b ∈ bs) → w'.heap[b]? = w.heap[b]? := by
      intro b hb
      refine c3 b ?_
      rintro rfl
      exact k2.notIf b (by simp) hb
    have hnew : R w' (fun b => I b ∨ b ∈ bs) nope (.own sz (l.set i (setElem z k (PV.freezeL ys)))) (.slice (some ⟨g, 0, none⟩) l.length cap) [g] := by
      refine ⟨fun x hx => ?_, .inr ⟨g, vsl.set i v', rfl, Rs.mono (fun _ h => h) hI _ nope nope (fun _ _ h => h) _ _ (by simp) (hr.set0 i hRv'), cap, (setManyV cur.toList (i * sz + k) vs).toArray, t, fr, by simp, c1, by simpa using hn, hcap, by simpa [setManyV_length] using hfit, hunf, ?_⟩⟩
      · rcases List.mem_or_eq_of_mem_set hx with hx | rfl
        · exact hs x hx
        · exact ⟨by rw [hzl]; exact hzi.1, hzimm⟩
      · simp only [List.length_set]
        rw [flatV_set hsizes hv (by rw [hvsz, hvl]; have := hzi.1; omega) hv'c, ← htake, setManyV_take _ _ _ _ (by omega)]
    obtain ⟨blk4, k4⟩ := Inv.lay (bs := [g]) (fl := []) (by simpa using k3) (s := s) (p := p) (Env.path_setAt (PV.path_of_obj p _ hob) _) (U := .slice (some ⟨g, 0, none⟩) l.length cap) (by
      rw [show place val w' s p = place val w s p from ?_, hpl]
      exact place_same k2 (fun b _ hb => c3 b (by rintro rfl; simp at hb)) (Env.path_setAt (PV.path_of_obj p _ hob) _)) hnew
    rw [Env.setAt_setAt (PV.path_of_obj p _ hob)] at k4
    refine ⟨_, blk4, k4.finish ((Weak.setAt rfl fun _ => hob).trans hw) fun s' p' ho => ?_⟩
    refine place_same k2 (fun b _ hb => c3 b (by rintro rfl; simp at hb)) ?_
    have hpo := PV.path_of_obj p' _ ho
    unfold Env.setAt at hpo ⊢
    rw [Env.get_set] at hpo ⊢
    by_cases hss : s = s'
    · subst hss
      simp only [if_true] at hpo ⊢
      rw [PV.path_setSub_leaf p (e1.get s) .dead (.own sz (l.set i (setElem z k (PV.freezeL ys)))) p' rfl rfl]
      exact hpo
    · simpa [hss] using hpo

theorem run_store (h : Inv B e (refOK e (valOf a H) w) (valOf a H) w I blk []) {o : Oper} {t : TypeId} {n : Option Nat} {ad x : Opd} (had : ad.ok B.glob) (hx : x.ok B.glob) (ho : o.op = .store t ad.op x.op) (ht : LoadOK P t n)
    {y : PV} (hs : settle e (x.ev e) = some (y, e1)) (hst : storeAt e1 n (ad.ev e) y.cells = some e2) :
    ∃ w', RunsTo P o a w undef w' ∧ Yields B (valOf a H) e2 .dead undef w' := by
  obtain ⟨blk1, bs, h1, h2, h3⟩ := settle_ok h (ev_ok h hx) hs
  simp only [List.append_nil] at h1
  have hcells := cells_Rs (settle_ne_dead hs) h2 nope_oneCell
  have hA := ev_ok h had
  have done : ∀ w', (∃ I' blk', Inv B e2 (refOK e2 (valOf a H) w') (valOf a H) w' I' blk' []) → Yields B (valOf a H) e2 .dead undef w' := by
    rintro w' ⟨I', blk', hI⟩
    exact ⟨I', blk', [], hI, .inl rfl⟩
  unfold storeAt at hst
  split at hst
  · rename_i hc
    obtain ⟨hlen, hone⟩ := hc
    have hvl : (a.eval x.op).cells.size = n.getD 1 := by
      have := hcells.length
      rw [Array.length_toList] at this
      omega
    have hones := Rs.one_cells hone hcells
    have boxed : ∀ s off, storeBox e1 s off y.cells = some e2 → (∀ g, valOf a H s = .pointer (some ⟨g, 0, none⟩) → (e1.get s).isObj = true → a.eval ad.op = .pointer (some ⟨g, off, none⟩)) → ∃ w', RunsTo P o a w undef w' ∧ Yields B (valOf a H) e2 .dead undef w' := by
      intro s off hsb hadr
      unfold storeBox at hsb
      split at hsb
      · rename_i cs hg
        split at hsb
        · rename_i hfit
          cases hsb
          obtain ⟨g, cur, tt, fr, hv, hcur, hunf, hcsz, hrest⟩ := storeBox_inv h1 h3 hg hcells hfit
          have hvsz : (a.eval x.op).cells.size = y.cells.length := by omega
          obtain ⟨w', r1, r2, r3, r4, r5, r6, r7⟩ := storeVar_run (P := P) ht (o := off) hcur hvl (by omega) (by rcases hunf with h4 | h4 <;> omega) hones
          refine ⟨w', .inr ⟨?_, rfl⟩, done w' (hrest w' r2 r3 r4 r5 r6 r7)⟩
          simp [execOp, ho, Instr.storeAt, hadr g hv (by rw [hg]; rfl), Instr.sureAddr, r1]
        · simp at hsb
      · simp at hsb
    split at hst
    · rename_i s e0
      rw [e0] at hA
      refine boxed s 0 hst fun g hv hob => ?_
      have hA2 := hA.2
      simp only [refOK] at hA2
      have := hA2.2 (h3 s [] hob)
      simp only [place, walk, Option.some.injEq] at this
      rw [← this, hv]
    · rename_i s off e0
      rw [e0] at hA
      refine boxed s off hst fun g hv hob => ?_
      have hA2 := hA.2
      simp only [refOK] at hA2
      obtain ⟨g', hv', hr⟩ := hA2.2 (h3 s [] hob)
      rw [hv] at hv'
      cases hv'
      exact hr
    · rename_i s p sz i k e0
      rw [e0] at hA
      unfold storeElem at hst
      split at hst
      · rename_i sz' l hat
        split at hst
        · rename_i z hz
          split at hst
          · rename_i hc2
            obtain ⟨rfl, hk, hpos, himm⟩ := hc2
            cases hst
            have hA2 := hA.2
            simp only [refOK] at hA2
            have hob : (e1.at_ s p).isObj = true := by rw [hat]; rfl
            obtain ⟨g, m, cap, hpl, hr⟩ := hA2.2 (h3 s p hob)
            obtain ⟨cur, tt, fr, hcur, hfit, hunf, hrest⟩ := storeElem_inv h1 h3 hat hz hcells hone himm hk hpos hpl
            have hvsz : (a.eval x.op).cells.size = y.cells.length := by omega
            obtain ⟨w', r1, r2, r3, r4, r5, r6, r7⟩ := storeVar_run (P := P) ht (o := i * sz' + k) hcur hvl (by omega) (by omega) hones
            refine ⟨w', .inr ⟨?_, rfl⟩, done w' (hrest w' r2 r3 r4 r5 r6 r7)⟩
            simp [execOp, ho, Instr.storeAt, hr, Instr.sureAddr, r1]
          · simp at hst
        · simp at hst
      · simp at hst
    · simp at hst
  · simp at hst
end
end Go.AM
