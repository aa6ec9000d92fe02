/- The deferred functions of json.number and json.Parse: what they do where nothing panics, and where something does. No conditions. -/
import Derived.Test.YtkcnnifgdhabgaaDoorProg
import Derived.Test.YtkcnnifgdhabgaaDoorIr
import Derived.Test.YtkcnnifgdhabgaaDoorAmChk
import Derived.Tactics
import Derived.Tactics2
import Derived.Defers
import Derived.Recover
import Derived.Laws.Pointers
namespace Go.AM.F
open Go Go.AM Go.Proofs

def Writ (w w' : World) : List Value → List (List Value) → Prop
  | p :: ps, vs :: r => (∃ g cur t fr t' fr', p = .pointer (some ⟨g, 0, none⟩) ∧ w.heap[g]? = some (.cells cur t fr) ∧ unfrozen fr' vs.length ∧ w'.heap[g]? = some (.cells vs.toArray t' fr')) ∧ p ∉ ps ∧ Writ w w' ps r
  | [], [] => True
  | _, _ => False
theorem Writ.up {w w1 w' : World} {p : Value} (h : ∀ b, p ≠ .pointer (some ⟨b, 0, none⟩) → w1.heap[b]? = w.heap[b]?) : ∀ {ps : List Value} {vss : List (List Value)}, p ∉ ps → Writ w w' ps vss → Writ w1 w' ps vss
  | [], [], _, _ => trivial
  | [], _ :: _, _, k => k.elim
  | _ :: _, [], _, k => k.elim
  | q :: ps, vs :: r, hp, k => by
    obtain ⟨⟨g, cur, t, fr, t', fr', rfl, h1, hu, h2⟩, h3, h4⟩ := k
    have hpg : p ≠ .pointer (some ⟨g, 0, none⟩) := fun e => hp (by rw [e]; simp)
    exact ⟨⟨g, cur, t, fr, t', fr', rfl, (h g hpg).trans h1, hu, h2⟩, h3, h4.up h fun hm => hp (by simp [hm])⟩
theorem Writ.wrote {w' : World} : ∀ {ps : List Value} {vss : List (List Value)} {w : World}, Writ w w' ps vss → w'.os = w.os → w'.tape = w.tape → w'.output = w.output → w.heap.size ≤ w'.heap.size → (∀ b, b < w.heap.size → (∀ p ∈ ps, p ≠ .pointer (some ⟨b, 0, none⟩)) → w'.heap[b]? = w.heap[b]?) → Wrote ps vss w w'
  | [], [], w, _, h1, h2, h3, h4, h5 => ⟨h1, h2, h3, h4, fun b hb => h5 b hb (by simp)⟩
  | [], _ :: _, w, h, _, _, _, _, _ => h.elim
  | _ :: _, [], w, h, _, _, _, _, _ => h.elim
  | p :: ps, vs :: r, w, h, h1, h2, h3, h4, h5 => by
    obtain ⟨⟨g, cur, t, fr, t', fr', rfl, k1, ku, k2⟩, k3, k4⟩ := h
    have hgl : g < w.heap.size := (Array.getElem?_eq_some_iff.1 k1).1
    refine ⟨g, cur, t, fr, t', fr', rfl, k1, ku, Writ.wrote (k4.up (p := .pointer (some ⟨g, 0, none⟩)) (fun b hb => ?_) k3) h1 h2 h3 (by simpa using h4) fun b hb hne => ?_⟩
    · have : g ≠ b := fun e => hb (by rw [e])
      simp [this]
    · by_cases hbg : g = b
      · subst hbg
        rw [k2]
        simp [hgl]
      · have hb' : b < w.heap.size := by simpa using hb
        have hs : (w.heap.setIfInBounds g (.cells vs.toArray t' fr'))[b]? = w.heap[b]? := by simp [hbg]
        show w'.heap[b]? = (w.heap.setIfInBounds g (.cells vs.toArray t' fr'))[b]?
        rw [hs]
        refine h5 b hb' fun p hp => ?_
        rcases List.mem_cons.1 hp with rfl | hp
        · simp only [ne_eq, Value.pointer.injEq, Option.some.injEq, Addr.mk.injEq, and_true]
          exact hbg
        · exact hne p hp
theorem one_all {v : Value} {cur : List Value} (h : cur.length = 1) : setManyV cur 0 [v] = [v] := by
  match cur, h with
  | [_], _ => rfl
theorem num_idle (g : Nat) (w : World) : CallsD Tryd.prog n_json_number_1 #[.pointer (some ⟨g, 0, none⟩)] .returning w fun e u' w' => (∃ v, e = .returned v) ∧ u' = .returning ∧ w' = w := by
  refine callsD_of_wpS Tryd.func67 rfl fun c₀ cs hu => ?_
  apply wpS_seq
  apply wpS_region
  simp [wpOpsS, go_sem, recoverD, hu, Tryd.ntmps67, Exit.thenS]
  apply wpS_seq
  apply wpS_region
  simp [wpOpsS, go_sem, Exit.thenS]
  refine wpS_cond (t := false) (by simp [Act.eval, Array.replicate]) ?_
  simp only [Bool.false_eq_true, if_false]
  refine wpS_of_wp (wp_skip ?_)
  cases c₀
  simp_all [bodyPostS, Go.results, Tryd.results67]
theorem num_panic (g : Nat) (t : TypeId) (v : Value) (w : World) {cur : Array Value} {ct : TypeId} {fr : Nat × Nat} (hc : w.heap[g]? = some (.cells cur ct fr)) (hl : cur.size = 1) (hu0 : unfrozen fr cur.size) :
    CallsD Tryd.prog n_json_number_1 #[.pointer (some ⟨g, 0, none⟩)] (.panicking [{ v := .iface t v, recovered := false }]) w fun e u' w' => (∃ v, e = .returned v) ∧ u' = .panicking [{ v := .iface t v, recovered := true }] ∧ Wrote [.pointer (some ⟨g, 0, none⟩)] [[.bool false]] w w' := by
  obtain ⟨w', h1, h2, h3, h4, h5, h6, h7⟩ := storeVar_run (P := Tryd.prog) (w := w) (t := 4) (n := none) (o := 0) (V := .bool false) (by exact loadB_ok (by kernel_rfl)) hc rfl (by simp [Value.cells, hl]) (by rw [hl] at hu0; simpa [Value.cells] using hu0.le) (by simp [Value.cells, Value.oneCell'])
  refine callsD_of_wpS Tryd.func67 rfl fun c₀ cs hu => ?_
  apply wpS_seq
  apply wpS_region
  simp [wpOpsS, go_sem, recoverD, hu, Tryd.ntmps67, Exit.thenS]
  apply wpS_seq
  apply wpS_region
  simp [wpOpsS, go_sem, Exit.thenS]
  refine wpS_cond (t := true) (by simp [Act.eval, Array.replicate]) ?_
  simp only [if_true]
  apply wpS_region
  simp [wpOpsS, Region.wanted, execOp, Act.eval, Act.put, Array.replicate, Oper.upon, Instr.storeAt, Instr.sureAddr, h1, bodyPostS, Go.results, Tryd.results67]
  have e1 : setManyV cur.toList 0 (Value.bool false).cells.toList = [.bool false] := one_all (by simpa using hl)
  rw [e1] at h2
  exact Writ.wrote ⟨⟨g, cur, ct, fr, ct, fr, rfl, hc, by rw [hl] at hu0; exact hu0, h2⟩, by simp, trivial⟩ h5 h6 h7 (by omega) fun b _ hne => h4 b fun e => hne (.pointer (some ⟨g, 0, none⟩)) (by simp) (by rw [e])
theorem hnd_ok_json_number : HndOK Tryd.prog n_json_number_1 1 hnd_json_number := by
  refine ⟨Enters.of Tryd.func67 (by kernel_rfl) (by kernel_rfl), fun ps hl hp w => ?_, fun x news hx hn => ?_⟩
  · match ps, hl with
    | [p], _ =>
      obtain ⟨g, rfl⟩ := hp p (by simp)
      exact num_idle g w
  · simp only [hnd_json_number] at hx
    split at hx
    · cases hx
      refine ⟨[[.bool false]], rfl, fun ps w hl hr => ?_⟩
      match ps, hl with
      | [p], _ =>
        obtain ⟨⟨g, cur, t, fr, rfl, h1, h2, h3⟩, _, _⟩ := hr
        exact num_panic g _ _ w h1 h2 h3
    · cases hx
noncomputable def parCode : Code := match Tryd.f20.body with
  | some (.seq _ (.seq _ (.cond _ x _))) => x
  | _ => .skip
theorem Inv.revals {B : Base} {e : Env} {val val' : Nat → Value} {w : World} {I : Nat → Prop} {blk : Nat → List Nat} (h : Inv B e (refOK e val w) val w I blk []) (hv : ∀ s, e.get s ≠ .dead → val' s = val s) : Inv B e (refOK e val' w) val' w I blk [] := by
  have hpl : ∀ s p, (e.at_ s p).isObj = true → place val' w s p = place val w s p := by
    intro s p ho
    have : e.get s ≠ .dead := by
      intro hd
      unfold Env.at_ at ho
      rw [hd, PV.sub_dead] at ho
      cases ho
    simp only [place, hv s this]
  refine { h with rel := fun s => ?_ }
  by_cases hd : e.get s = .dead
  · have := h.rel s
    rw [hd] at this ⊢
    exact this
  · rw [hv s hd]
    refine R.mono (fun _ h => h) (fun _ _ => rfl) _ _ _ ?_ _ _ (fun _ _ => rfl) (h.rel s)
    intro x V k
    cases x <;> simp only [refOK] at k ⊢
    · exact ⟨k.1, fun o => (hpl _ _ o).trans (k.2 o)⟩
    · refine ⟨k.1, fun o => ?_⟩
      rw [hpl _ _ o]
      exact k.2 o
    · refine ⟨k.1, fun o => ?_⟩
      obtain ⟨g, h1, h2⟩ := k.2 o
      refine ⟨g, ?_, h2⟩
      rw [hv _ (fun hd => by rw [hd] at o; cases o)]
      exact h1
    · refine ⟨k.1, fun o => ?_⟩
      rw [hpl _ _ o]
      exact k.2 o
theorem valOf_lt {a : Act} {H : Nat → Value} {s : Nat} (h : s < home) : valOf a H s = a.tmps.getD s undef := if_pos h
theorem valOf_ge {a : Act} {H : Nat → Value} {s : Nat} (h : ¬ s < home) : valOf a H s = H s := if_neg h
theorem box_dead {w : World} {I : Nat → Prop} {g : Nat} {cur : Array Value} {t : TypeId} {fr : Nat × Nat} {n : Nat} (h : w.heap[g]? = some (.cells cur t fr)) (hl : cur.size = n) (hu : unfrozen fr cur.size) : R w I nope (.box (List.replicate n .dead)) (.pointer (some ⟨g, 0, none⟩)) [g] := by
  refine ⟨g, cur.toList, [], rfl, ?_, cur, t, fr, rfl, h, hu, rfl⟩
  have : ∀ (l : List Value), Rs w I (selfq g) (List.replicate l.length .dead) l [] := by
    intro l
    induction l with
    | nil => exact ⟨rfl, rfl⟩
    | cons x r ih => exact ⟨x, r, [], [], rfl, rfl, rfl, ih⟩
  have h2 := this cur.toList
  rw [show cur.toList.length = n by simpa using hl] at h2
  exact h2
theorem box_plain {w : World} {I : Nat → Prop} {q : PV → Value → Prop} {V : Value} {bs : List Nat} {cs : List PV} {vs : List Value} {g : Nat} (h : R w I q (.box cs) V bs) (hV : V = .pointer (some ⟨g, 0, none⟩)) (hp : plainL cs = some vs) : ∃ t fr, unfrozen fr vs.length ∧ w.heap[g]? = some (.cells vs.toArray t fr) := by
  obtain ⟨g', us, bs', _, hr, cur, t, fr, hv, hcur, hunf, rfl⟩ := h
  rw [hV] at hv
  cases hv
  have e1 := plainL_Rs hp hr
  refine ⟨t, fr, ?_, ?_⟩
  · rw [← e1]; simpa using hunf
  · rw [← e1]; simpa using hcur
def T0 : Tab := { fns := fun _ => none, ext := fun _ _ => none, modes := fun _ => [], glob := fun _ => [] }
def parEnv (a b : Int) : Env := (enter 0 [.box (List.replicate 4 .dead), .box (List.replicate 1 .dead), .box (List.replicate 1 .dead)]).put 3 (.v (.iface 46 (.agg #[.int .i64 a, .int .i64 b])))
end Go.AM.F
