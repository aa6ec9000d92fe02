/- The deferred functions of json.number and json.Parse: what they do where nothing panics, and where something does. No conditions. -/
import Derived.Test.YtkcnnifgdhabgaaDoorProg
import Derived.Test.YtkcnnifgdhabgaaDoorIr
import Derived.Test.YtkcnnifgdhabgaaDoorAmChk
import Derived.Tactics
import Derived.Tactics2
import Derived.Defers
import Derived.Recover
import Derived.Laws.Pointers
namespace Go.AM.F
open Go Go.AM Go.Proofs

def Writ (w w' : World) : List Value → List (List Value) → Prop
  | p :: ps, vs :: r => (∃ g cur t fr t' fr', p = .pointer (some ⟨g, 0, none⟩) ∧ w.heap[g]? = some (.cells cur t fr) ∧ unfrozen fr' vs.length ∧ w'.heap[g]? = some (.cells vs.toArray t' fr')) ∧ p ∉ ps ∧ Writ w w' ps r
  | [], [] => True
  | _, _ => False
theorem Writ.up {w w1 w' : World} {p : Value} (h : ∀ b, p ≠ .pointer (some ⟨b, 0, none⟩) → w1.heap[b]? = w.heap[b]?) : ∀ {ps : List Value} {vss : List (List Value)}, p ∉ ps → Writ w w' ps vss → Writ w1 w' ps vss
  | [], [], _, _ => trivial
  | [], _ :: _, _, k => k.elim
  | _ :: _, [], _, k => k.elim
  | q :: ps, vs :: r, hp, k => by
    obtain ⟨⟨g, cur, t, fr, t', fr', rfl, h1, hu, h2⟩, h3, h4⟩ := k
    have hpg : p ≠ .pointer (some ⟨g, 0, none⟩) := fun e => hp (by rw [e]; simp)
    exact ⟨⟨g, cur, t, fr, t', fr', rfl, (h g hpg).trans h1, hu, h2⟩, h3, h4.up h fun hm => hp (by simp [hm])⟩
theorem Writ.wrote {w' : World} : ∀ {ps : List Value} {vss : List (List Value)} {w : World}, Writ w w' ps vss → w'.os = w.os → w'.tape = w.tape → w'.output = w.output → w.heap.size ≤ w'.heap.size → (∀ b, b < w.heap.size → (∀ p ∈ ps, p ≠ .pointer (some ⟨b, 0, none⟩)) → w'.heap[b]? = w.heap[b]?) → Wrote ps vss w w'
  | [], [], w, _, h1, h2, h3, h4, h5 => ⟨h1, h2, h3, h4, fun b hb => h5 b hb (by simp)⟩
  | [], _ :: _, w, h, _, _, _, _, _ => h.elim
  | _ :: _, [], w, h, _, _, _, _, _ => h.elim
  | p :: ps, vs :: r, w, h, h1, h2, h3, h4, h5 => by
    obtain ⟨⟨g, cur, t, fr, t', fr', rfl, k1, ku, k2⟩, k3, k4⟩ := h
    have hgl : g < w.heap.size := (Array.getElem?_eq_some_iff.1 k1).1
    refine ⟨g, cur, t, fr, t', fr', rfl, k1, ku, Writ.wrote (k4.up (p := .pointer (some ⟨g, 0, none⟩)) (fun b hb => ?_) k3) h1 h2 h3 (by simpa using h4) fun b hb hne => ?_⟩
    · have : g ≠ b := fun e => hb (by rw [e])
      simp [this]
    · by_cases hbg : g = b
      · subst hbg
        rw [k2]
        simp [hgl]
      · have hb' : b < w.heap.size := by simpa using hb
        have hs : (w.heap.setIfInBounds g (.cells vs.toArray t' fr'))[b]? = w.heap[b]? := by simp [hbg]
        show w'.heap[b]? = (w.heap.setIfInBounds g (.cells vs.toArray t' fr'))[b]?
        rw [hs]
        refine h5 b hb' fun p hp => ?_
        rcases List.mem_cons.1 hp with rfl | hp
        · simp only [ne_eq, Value.pointer.injEq, Option.some.injEq, Addr.mk.injEq, and_true]
          exact hbg
        · exact hne p hp
theorem one_all {v : Value} {cur : List Value} (h : cur.length = 1) : setManyV cur 0 [v] = [v] := by
  match cur, h with
  | [_], _ => rfl
theorem num_idle (g : Nat) (w : World) : CallsD Tryd.prog n_json_number_1 #[.pointer (some ⟨g, 0, none⟩)] .returning w fun e u' w' => (∃ v, e = .returned v) ∧ u' = .returning ∧ w' = w := by
  refine callsD_of_wpS Tryd.func67 rfl fun c₀ cs hu => ?_
  apply wpS_seq
  apply wpS_region
  simp [wpOpsS, go_sem, recoverD, hu, Tryd.ntmps67, Exit.thenS]
  apply wpS_seq
  apply wpS_region
  simp [wpOpsS, go_sem, Exit.thenS]
  refine wpS_cond (t := false) (by simp [Act.eval, Array.replicate]) ?_
  simp only [Bool.false_eq_true, if_false]
  refine wpS_of_wp (wp_skip ?_)
  cases c₀
  simp_all [bodyPostS, Go.results, Tryd.results67]
theorem num_panic (g : Nat) (t : TypeId) (v : Value) (w : World) {cur : Array Value} {ct : TypeId} {fr : Nat × Nat} (hc : w.heap[g]? = some (.cells cur ct fr)) (hl : cur.size = 1) (hu0 : unfrozen fr cur.size) :
    CallsD Tryd.prog n_json_number_1 #[.pointer (some ⟨g, 0, none⟩)] (.panicking [{ v := .iface t v, recovered := false }]) w fun e u' w' => (∃ v, e = .returned v) ∧ u' = .panicking [{ v := .iface t v, recovered := true }] ∧ Wrote [.pointer (some ⟨g, 0, none⟩)] [[.bool false]] w w' := by
  obtain ⟨w', h1, h2, h3, h4, h5, h6, h7⟩ := storeVar_run (P := Tryd.prog) (w := w) (t := 4) (n := none) (o := 0) (V := .bool false) (by exact loadB_ok (by kernel_rfl)) hc rfl (by simp [Value.cells, hl]) (by rw [hl] at hu0; simpa [Value.cells] using hu0.le) (by simp [Value.cells, Value.oneCell'])
  refine callsD_of_wpS Tryd.func67 rfl fun c₀ cs hu => ?_
  apply wpS_seq
  apply wpS_region
  simp [wpOpsS, go_sem, recoverD, hu, Tryd.ntmps67, Exit.thenS]
  apply wpS_seq
  apply wpS_region
  simp [wpOpsS, go_sem, Exit.thenS]
  refine wpS_cond (t := true) (by simp [Act.eval, Array.replicate]) ?_
  simp only [if_true]
  apply wpS_region
  simp [wpOpsS, Region.wanted, execOp, Act.eval, Act.put, Array.replicate, Oper.upon, Instr.storeAt, Instr.sureAddr, h1, bodyPostS, Go.results, Tryd.results67]
  have e1 : setManyV cur.toList 0 (Value.bool false).cells.toList = [.bool false] := one_all (by simpa using hl)
  rw [e1] at h2
  exact Writ.wrote ⟨⟨g, cur, ct, fr, ct, fr, rfl, hc, by rw [hl] at hu0; exact hu0, h2⟩, by simp, trivial⟩ h5 h6 h7 (by omega) fun b _ hne => h4 b fun e => hne (.pointer (some ⟨g, 0, none⟩)) (by simp) (by rw [e])
theorem hnd_ok_json_number : HndOK Tryd.prog n_json_number_1 1 hnd_json_number := by
  refine ⟨Enters.of Tryd.func67 (by kernel_rfl) (by kernel_rfl), fun ps hl hp w => ?_, fun x news hx hn => ?_⟩
  · match ps, hl with
    | [p], _ =>
      obtain ⟨g, rfl⟩ := hp p (by simp)
      exact num_idle g w
  · simp only [hnd_json_number] at hx
    split at hx
    · cases hx
      refine ⟨[[.bool false]], rfl, fun ps w hl hr => ?_⟩
      match ps, hl with
      | [p], _ =>
        obtain ⟨⟨g, cur, t, fr, rfl, h1, h2, h3⟩, _, _⟩ := hr
        exact num_panic g _ _ w h1 h2 h3
    · cases hx
theorem par_idle (g0 g1 g2 : Nat) (w : World) : CallsD Tryd.prog n_json_Parse_1 #[.pointer (some ⟨g0, 0, none⟩), .pointer (some ⟨g1, 0, none⟩), .pointer (some ⟨g2, 0, none⟩)] .returning w fun e u' w' => (∃ v, e = .returned v) ∧ u' = .returning ∧ w' = w := by
  refine callsD_of_wpS Tryd.func20 rfl fun c₀ cs hu => ?_
  apply wpS_seq
  apply wpS_region
  simp [wpOpsS, go_sem, recoverD, hu, Tryd.ntmps20, Exit.thenS]
  apply wpS_seq
  apply wpS_region
  simp [wpOpsS, go_sem, Exit.thenS]
  refine wpS_cond (t := false) (by simp [Act.eval, Array.replicate]) ?_
  simp only [Bool.false_eq_true, if_false]
  refine wpS_of_wp (wp_skip ?_)
  cases c₀
  simp_all [bodyPostS, Go.results, Tryd.results20]
/-- The closure's body behind its test. -/
noncomputable def parIR : IR := match b_json_Parse_1 with
  | .seq _ (.seq _ (.cond _ _ x _)) => x
  | _ => .skip
noncomputable def parCode : Code := match Tryd.f20.body with
  | some (.seq _ (.seq _ (.cond _ x _))) => x
  | _ => .skip
theorem Inv.revals {B : Base} {e : Env} {val val' : Nat → Value} {w : World} {I : Nat → Prop} {blk : Nat → List Nat} (h : Inv B e (refOK e val w) val w I blk []) (hv : ∀ s, e.get s ≠ .dead → val' s = val s) : Inv B e (refOK e val' w) val' w I blk [] := by
  have hpl : ∀ s p, (e.at_ s p).isObj = true → place val' w s p = place val w s p := by
    intro s p ho
    have : e.get s ≠ .dead := by
      intro hd
      unfold Env.at_ at ho
      rw [hd, PV.sub_dead] at ho
      cases ho
    simp only [place, hv s this]
  refine { h with rel := fun s => ?_ }
  by_cases hd : e.get s = .dead
  · have := h.rel s
    rw [hd] at this ⊢
    exact this
  · rw [hv s hd]
    refine R.mono (fun _ h => h) (fun _ _ => rfl) _ _ _ ?_ _ _ (fun _ _ => rfl) (h.rel s)
    intro x V k
    cases x <;> simp only [refOK] at k ⊢
    · exact ⟨k.1, fun o => (hpl _ _ o).trans (k.2 o)⟩
    · refine ⟨k.1, fun o => ?_⟩
      rw [hpl _ _ o]
      exact k.2 o
    · refine ⟨k.1, fun o => ?_⟩
      obtain ⟨g, h1, h2⟩ := k.2 o
      refine ⟨g, ?_, h2⟩
      rw [hv _ (fun hd => by rw [hd] at o; cases o)]
      exact h1
    · refine ⟨k.1, fun o => ?_⟩
      rw [hpl _ _ o]
      exact k.2 o
theorem valOf_lt {a : Act} {H : Nat → Value} {s : Nat} (h : s < home) : valOf a H s = a.tmps.getD s undef := if_pos h
theorem valOf_ge {a : Act} {H : Nat → Value} {s : Nat} (h : ¬ s < home) : valOf a H s = H s := if_neg h
theorem box_dead {w : World} {I : Nat → Prop} {g : Nat} {cur : Array Value} {t : TypeId} {fr : Nat × Nat} {n : Nat} (h : w.heap[g]? = some (.cells cur t fr)) (hl : cur.size = n) (hu : unfrozen fr cur.size) : R w I nope (.box (List.replicate n .dead)) (.pointer (some ⟨g, 0, none⟩)) [g] := by
  refine ⟨g, cur.toList, [], rfl, ?_, cur, t, fr, rfl, h, hu, rfl⟩
  have : ∀ (l : List Value), Rs w I (selfq g) (List.replicate l.length .dead) l [] := by
    intro l
    induction l with
    | nil => exact ⟨rfl, rfl⟩
    | cons x r ih => exact ⟨x, r, [], [], rfl, rfl, rfl, ih⟩
  have h2 := this cur.toList
  rw [show cur.toList.length = n by simpa using hl] at h2
  exact h2
theorem box_plain {w : World} {I : Nat → Prop} {q : PV → Value → Prop} {V : Value} {bs : List Nat} {cs : List PV} {vs : List Value} {g : Nat} (h : R w I q (.box cs) V bs) (hV : V = .pointer (some ⟨g, 0, none⟩)) (hp : plainL cs = some vs) : ∃ t fr, unfrozen fr vs.length ∧ w.heap[g]? = some (.cells vs.toArray t fr) := by
  obtain ⟨g', us, bs', _, hr, cur, t, fr, hv, hcur, hunf, rfl⟩ := h
  rw [hV] at hv
  cases hv
  have e1 := plainL_Rs hp hr
  refine ⟨t, fr, ?_, ?_⟩
  · rw [← e1]; simpa using hunf
  · rw [← e1]; simpa using hcur
def T0 : Tab := { fns := fun _ => none, ext := fun _ _ => none, modes := fun _ => [], glob := fun _ => [] }
def parEnv (a b : Int) : Env := (enter 0 [.box (List.replicate 4 .dead), .box (List.replicate 1 .dead), .box (List.replicate 1 .dead)]).put 3 (.v (.iface 46 (.agg #[.int .i64 a, .int .i64 b])))
noncomputable def parEnd (a b : Int) : Env := match exec T0 (fun _ _ => none) 1 parIR (parEnv a b) with
  | some (_, e) => e
  | none => []
theorem par_exec (a b : Int) : exec T0 (fun _ _ => none) 1 parIR (parEnv a b) = some (.normal, parEnd a b) ∧ (parEnd a b).get 100000 = .box [.v (.int .u8 0), .v (.string ⟨#[]⟩), .v (.slice none 0 0), .v (.slice none 0 0)] ∧ (parEnd a b).get 100001 = .box [.v (.int .i64 a)] ∧ (parEnd a b).get 100002 = .box [.v (.int .i64 b)] := ⟨by kernel_rfl, by kernel_rfl, by kernel_rfl, by kernel_rfl⟩
theorem par_exec' (a b : Int) : ∃ e', exec T0 (fun _ _ => none) 1 parIR (parEnv a b) = some (.normal, e') ∧ e'.get 100000 = .box [.v (.int .u8 0), .v (.string ⟨#[]⟩), .v (.slice none 0 0), .v (.slice none 0 0)] ∧ e'.get 100001 = .box [.v (.int .i64 a)] ∧ e'.get 100002 = .box [.v (.int .i64 b)] := ⟨parEnd a b, par_exec a b⟩
theorem par_strip : strip parCode = erase parIR := by kernel_rfl
theorem par_okB : IR.okB Tryd.prog [] [] (fun _ => []) 22 parIR = true := by kernel_rfl
theorem par_plans : plansB parCode parIR = true := by kernel_rfl
set_option maxHeartbeats 1000000 in
theorem par_panic (g0 g1 g2 : Nat) (a b : Int) (w : World) {cur0 cur1 cur2 : Array Value} {t0 t1 t2 : TypeId} {fr0 fr1 fr2 : Nat × Nat} (h0 : w.heap[g0]? = some (.cells cur0 t0 fr0)) (h1 : w.heap[g1]? = some (.cells cur1 t1 fr1)) (h2 : w.heap[g2]? = some (.cells cur2 t2 fr2))
    (l0 : cur0.size = 4) (l1 : cur1.size = 1) (l2 : cur2.size = 1) (u0 : unfrozen fr0 cur0.size) (u1 : unfrozen fr1 cur1.size) (u2 : unfrozen fr2 cur2.size) (n01 : g0 ≠ g1) (n02 : g0 ≠ g2) (n12 : g1 ≠ g2) :
    CallsD Tryd.prog n_json_Parse_1 #[.pointer (some ⟨g0, 0, none⟩), .pointer (some ⟨g1, 0, none⟩), .pointer (some ⟨g2, 0, none⟩)] (.panicking [{ v := .iface 46 (.agg #[.int .i64 a, .int .i64 b]), recovered := false }]) w fun e u' w' => (∃ v, e = .returned v) ∧ u' = .panicking [{ v := .iface 46 (.agg #[.int .i64 a, .int .i64 b]), recovered := true }] ∧
      Wrote [.pointer (some ⟨g0, 0, none⟩), .pointer (some ⟨g1, 0, none⟩), .pointer (some ⟨g2, 0, none⟩)] [[.int .u8 0, .string ⟨#[]⟩, .slice none 0 0, .slice none 0 0], [.int .i64 a], [.int .i64 b]] w w' := by
  refine callsD_of_wpS Tryd.func20 rfl fun c₀ cs hu => ?_
  apply wpS_seq
  apply wpS_region
  simp [wpOpsS, go_sem, recoverD, hu, Tryd.ntmps20, Exit.thenS]
  apply wpS_seq
  apply wpS_region
  simp [wpOpsS, go_sem, Exit.thenS]
  refine wpS_cond (t := true) (by simp [Act.eval, Array.replicate]) ?_
  simp only [if_true]
  refine wpS_of_wp ?_
  show Code.wp Tryd.prog parCode _ _ w
  generalize hact : (Act.mk _ _) = act
  let x : Value := .iface 46 (.agg #[.int .i64 a, .int .i64 b])
  let ps : List Value := [.pointer (some ⟨g0, 0, none⟩), .pointer (some ⟨g1, 0, none⟩), .pointer (some ⟨g2, 0, none⟩)]
  let xs : List PV := [.box (List.replicate 4 .dead), .box (List.replicate 1 .dead), .box (List.replicate 1 .dead)]
  have hst := enter_inv (w := w) (I := fun _ => False) (G := fun _ => []) (xs := xs) (vs := ps) (bss := [g0, g1, g2]) (n := 22) (fun _ h => h.elim) (by simp [n01, n02, n12]) (fun _ _ h => h) (fun _ h => (h rfl).elim)
    ⟨_, _, [g0], [g1, g2], rfl, rfl, box_dead h0 l0 u0, _, _, [g1], [g2], rfl, rfl, box_dead h1 l1 u1, _, _, [g2], [], rfl, rfl, box_dead h2 l2 u2, rfl, rfl⟩ (by decide) (by decide)
  let H : Nat → Value := fun s => ps.getD (s - home) undef
  have hsz : act.tmps.size = 22 := by rw [← hact]; simp
  have t0 : act.tmps.getD 0 undef = .pointer (some ⟨g0, 0, none⟩) := by rw [← hact]; simp
  have t1 : act.tmps.getD 1 undef = .pointer (some ⟨g1, 0, none⟩) := by rw [← hact]; simp
  have t2 : act.tmps.getD 2 undef = .pointer (some ⟨g2, 0, none⟩) := by rw [← hact]; simp
  have t3 : act.tmps.getD 3 undef = x := by rw [← hact]; simp [x]
  have hdf : act.defers = [] := by rw [← hact]
  obtain ⟨_, _, I, blk, hI⟩ := hst
  have h3 : Inv _ (enter 0 xs) (refOK (enter 0 xs) (valOf act H) w) (valOf act H) w I blk [] := Inv.revals hI fun s hs => by
    simp only [xs, enter, PV.isObj, if_true, Env.get, home] at hs
    by_cases c0 : s = 0
    · subst c0
      rw [valOf_lt (by decide), valOf_lt (by decide), t0]
      simp [ps]
    by_cases c1 : s = 1
    · subst c1
      rw [valOf_lt (by decide), valOf_lt (by decide), t1]
      simp [ps]
    by_cases c2 : s = 2
    · subst c2
      rw [valOf_lt (by decide), valOf_lt (by decide), t2]
      simp [ps]
    by_cases c3 : s < 100000
    · have d1 : ¬ 0 = s := by omega
      have d2 : ¬ 100000 + 0 = s := by omega
      have d3 : ¬ 0 + 1 = s := by omega
      have d4 : ¬ 100000 + (0 + 1) = s := by omega
      have d5 : ¬ 0 + 1 + 1 = s := by omega
      have d6 : ¬ 100000 + (0 + 1 + 1) = s := by omega
      rw [if_neg d1, if_neg d2, if_neg d3, if_neg d4, if_neg d5, if_neg d6] at hs
      exact absurd rfl hs
    · rw [valOf_ge c3, valOf_ge c3]
  have h4 := Inv.putView (d := 3) (y := .v x) (V := x) h3 rfl ⟨rfl, rfl, rfl⟩
  have hup : upd (valOf act H) 3 x = valOf act H := by
    funext s
    by_cases c : s = 3
    · subst c
      simp only [upd, if_true]
      rw [valOf_lt (by decide), t3]
    · simp [upd, c]
  rw [hup] at h4
  obtain ⟨e', he, r0, r1, r2⟩ := par_exec' a b
  have hwp := exec_sound (P := Tryd.prog) (T := T0) (C := fun _ _ => none) (fun _ _ _ _ h => by cases h) (by kernel_rfl) 1 parIR parCode par_strip (IR.okB_ok (ents := []) (exts := []) (fun _ h => by simp at h) (fun _ h => by simp at h) par_okB) par_plans _ _ _ he act w ⟨hsz, hdf, I, _, h4⟩
  refine wp_mono hwp fun ex a' w' hm => ?_
  obtain ⟨rfl, hsz', hdf', I', blk', hI'⟩ := hm
  have v0 : valOf a' H 100000 = .pointer (some ⟨g0, 0, none⟩) := by
    rw [valOf_ge (by decide)]
    simp [H, ps, home]
  have v1 : valOf a' H 100001 = .pointer (some ⟨g1, 0, none⟩) := by
    rw [valOf_ge (by decide)]
    simp [H, ps, home]
  have v2 : valOf a' H 100002 = .pointer (some ⟨g2, 0, none⟩) := by
    rw [valOf_ge (by decide)]
    simp [H, ps, home]
  have k0 := hI'.rel 100000
  rw [r0] at k0
  have k1 := hI'.rel 100001
  rw [r1] at k1
  have k2 := hI'.rel 100002
  rw [r2] at k2
  obtain ⟨t0', fr0', x0, y0⟩ := box_plain k0 v0 rfl
  obtain ⟨t1', fr1', x1, y1⟩ := box_plain k1 v1 rfl
  obtain ⟨t2', fr2', x2, y2⟩ := box_plain k2 v2 rfl
  have hwr : Wrote ps [[.int .u8 0, .string ⟨#[]⟩, .slice none 0 0, .slice none 0 0], [.int .i64 a], [.int .i64 b]] w w' := by
    refine Writ.wrote ⟨⟨g0, _, _, _, t0', fr0', rfl, h0, x0, y0⟩, by simp [n01, n02], ⟨g1, _, _, _, t1', fr1', rfl, h1, x1, y1⟩, by simp [n12], ⟨g2, _, _, _, t2', fr2', rfl, h2, x2, y2⟩, by simp, trivial⟩ hI'.os hI'.tape hI'.output hI'.size fun b' hb' hne => hI'.same b' hb' ?_
    intro hm
    simp only [List.mem_cons, List.not_mem_nil, or_false] at hm
    rcases hm with rfl | rfl | rfl
    · exact hne _ (by simp [ps]) rfl
    · exact hne (.pointer (some ⟨b', 0, none⟩)) (by simp [ps]) rfl
    · exact hne (.pointer (some ⟨b', 0, none⟩)) (by simp [ps]) rfl
  simp [bodyPostS, Out.exit', Go.results, Tryd.results20, hdf']
  exact hwr
theorem hnd_ok_json_Parse : HndOK Tryd.prog n_json_Parse_1 3 hnd_json_Parse := by
  refine ⟨Enters.of Tryd.func20 (by kernel_rfl) (by kernel_rfl), fun ps hl hp w => ?_, fun x news hx hn => ?_⟩
  · match ps, hl with
    | [p, p1, p2], _ =>
      obtain ⟨g, rfl⟩ := hp p (by simp)
      obtain ⟨g1, rfl⟩ := hp p1 (by simp)
      obtain ⟨g2, rfl⟩ := hp p2 (by simp)
      exact par_idle g g1 g2 w
  · simp only [hnd_json_Parse] at hx
    split at hx
    · rename_i vs
      split at hx
      · rename_i a b hvs
        cases hx
        refine ⟨[[.int .u8 0, .string ⟨#[]⟩, .slice none 0 0, .slice none 0 0], [.int .i64 a], [.int .i64 b]], rfl, fun ps w hl hr => ?_⟩
        obtain rfl : vs = #[.int .i64 a, .int .i64 b] := by
          apply Array.ext'
          simpa using hvs
        match ps, hl with
        | [p, p1, p2], _ =>
          obtain ⟨⟨g, cur, t, fr, rfl, h1, h2, h3⟩, hn0, ⟨g1, cur1, t1, fr1, rfl, k1, k2, k3⟩, hn1, ⟨g2, cur2, t2, fr2, rfl, m1, m2, m3⟩, _, _⟩ := hr
          refine par_panic g g1 g2 a b w h1 k1 m1 h2 k2 m2 h3 k3 m3 ?_ ?_ ?_
          · rintro rfl; simp at hn0
          · rintro rfl; simp at hn0
          · rintro rfl; simp at hn1
      · cases hx
    · cases hx
end Go.AM.F
