/- JSON: the length of a right character, as the program and as the library find it. No conditions. -/
import Derived.Test.YtkcnnifgdhabgaaDoorK4
namespace Go.AM.F
open Go Go.AM
set_option maxRecDepth 10000
set_option linter.unusedSimpArgs false

def fstv (c : Nat) : Nat := if c < 128 then 240 else if c < 194 then 241 else if c < 224 then 2 else if c = 224 then 19 else if c < 237 then 3 else if c = 237 then 35 else if c < 240 then 3 else if c = 240 then 52 else if c < 244 then 4 else if c = 244 then 68 else 241
theorem first_all : (List.range 256).all (fun c => match glob0[c]? with | some (.v (.int .u8 z)) => decide (z = (fstv c : Int)) | _ => false) = true := by kernel_rfl
theorem first_get {c : Nat} (h : c < 256) : glob0[c]? = some (.v (.int .u8 (fstv c : Nat))) := by
  have := List.all_eq_true.1 first_all c (by simp [h])
  split at this
  · rename_i z hz
    rw [hz, of_decide_eq_true this]
  · cases this
theorem glob1_len : glob1.length = 32 := by kernel_rfl
def cont (c : Nat) : Bool := decide (128 ≤ c) && decide (c ≤ 191)
/-- What the second letter must be at least, at most. -/
def lo1 (c : Nat) : Nat := if c = 224 then 160 else if c = 240 then 144 else 128
def hi1 (c : Nat) : Nat := if c = 237 then 159 else if c = 244 then 143 else 191
def in1 (c d : Nat) : Bool := decide (lo1 c ≤ d) && decide (d ≤ hi1 c)
/-- The length of the right character at the beginning; 0: there is none. -/
def uc (M : List UInt8) : Nat :=
  if M.length = 0 then 0 else if lt M 0 < 128 then 1 else if lt M 0 < 194 then 0
  else if lt M 0 < 224 then (if 1 < M.length ∧ cont (lt M 1) = true then 2 else 0)
  else if lt M 0 < 240 then (if 2 < M.length ∧ in1 (lt M 0) (lt M 1) = true ∧ cont (lt M 2) = true then 3 else 0)
  else if lt M 0 < 245 then (if 3 < M.length ∧ in1 (lt M 0) (lt M 1) = true ∧ cont (lt M 2) = true ∧ cont (lt M 3) = true then 4 else 0)
  else 0
attribute [local simp] j0_utf8_decodeRuneSlow j1_utf8_decodeRuneSlow j2_utf8_decodeRuneSlow j3_utf8_decodeRuneSlow j4_utf8_decodeRuneSlow j5_utf8_decodeRuneSlow j6_utf8_decodeRuneSlow j7_utf8_decodeRuneSlow b_utf8_decodeRuneSlow a_utf8_decodeRuneSlow
/-- What is told of a character. -/
def Told (x m : Int) (n : Nat) : Prop := (n = 0 → x = 65533 ∧ m ≤ 1) ∧ (n ≠ 0 → m = n ∧ (m ≤ 1 → x ≠ 65533))
theorem told_err : Told 65533 1 0 := ⟨fun _ => ⟨rfl, by decide⟩, fun h => (h rfl).elim⟩
theorem w_mask : IntKind.i32.wrap 517543559168 = -2147483648 := by simp [IntKind.wrap, IntKind.signed, IntKind.bits]
theorem w_shift : (-2147483648 : Int).fdiv 2147483648 = -1 := by rfl
theorem w_not : (~~~BitVec.ofInt IntKind.i32.bits (-1)) = 0#_ := by rfl
theorem w_zero : IntKind.i32.wrap ((0#IntKind.i32.bits).toNat : Int) = 0 := by rfl
theorem w_and : IntKind.i32.wrap (BitVec.ofInt IntKind.i32.bits 65533 &&& BitVec.ofInt IntKind.i32.bits (-1)).toNat = 65533 := by rfl
theorem w_or : IntKind.i32.wrap (BitVec.ofInt IntKind.i32.bits 0 ||| BitVec.ofInt IntKind.i32.bits 65533).toNat = 65533 := by rfl
theorem slow_bad (M : List UInt8) (h0 : 0 < M.length) (hc : fstv (lt M 0) = 241) : Cinf T n_utf8_decodeRuneSlow [.ro 1 (bl M)] = some (.tup [.v (.int .i32 65533), .v (.int .i64 1)], [.dead]) := by
  have hf := first_get (lt_small M 0)
  rw [hc] at hf
  have h1 : ¬ ((M.length : Int) < 1) := by omega
  have hs := lt_small M 0
  have w0 : IntKind.i32.wrap 241 = 241 := by rw [wrap_i32] <;> omega
  have mn : min (31 : Nat) IntKind.i32.bits = 31 := rfl
  have w1 := w_mask
  have w2 := w_shift
  have w3 : IntKind.i32.wrap (lt M 0 : Int) = (lt M 0 : Int) := by rw [wrap_i32] <;> omega
  have w4 : IntKind.i32.wrap (BitVec.ofInt IntKind.i32.bits (lt M 0 : Int) &&& ~~~BitVec.ofInt IntKind.i32.bits (-1)).toNat = 0 := by
    rw [w_not, BitVec.and_zero]
    exact w_zero
  have w5 := w_and
  have w6 := w_or
  simp at w4 w5 w6
  simp [run_utf8_decodeRuneSlow, Run, h1, h0, bl_getE h0, hs, hf, w0, mn, w1, w2, w3, w4, w5, w6]
/-- Is the rest of a character right: its second letter, its third, its fourth? -/
def rest (M : List UInt8) (sz lo hi : Nat) : Prop := lo ≤ lt M 1 ∧ lt M 1 ≤ hi ∧ (3 ≤ sz → cont (lt M 2) = true) ∧ (4 ≤ sz → cont (lt M 3) = true)
def Says (x : Option (Out × Env)) (p : Prop) (sz : Nat) : Prop := (p ∧ ∃ y : Int, x = some (.ret, [(2, .v (.int .i32 y)), (3, .v (.int .i64 sz))])) ∨ (¬ p ∧ x = some (.ret, [(2, .v (.int .i32 65533)), (3, .v (.int .i64 1))]))
theorem opsRun_append {C : Oracle} (all : List GOp) : ∀ (a b : List GOp) (e : Env), opsRun T C all (a ++ b) e = (opsRun T C all a e).bind (opsRun T C all b)
  | [], b, e => rfl
  | o :: r, b, e => by
    simp only [List.cons_append, opsRun]
    cases wantedA all e o.g with
    | none => rfl
    | some t =>
      cases t
      · exact opsRun_append all r b _
      · simp only
        cases ev T C e o.op with
        | none => rfl
        | some q => exact opsRun_append all r b _
def ops26 : List GOp := match j0_utf8_decodeRuneSlow with
  | .seq (.reg _ l _ _) _ => l
  | _ => []
theorem last_a (C : Oracle) (c0 c1 c2 c3 : Int) : ∃ y : Int, opsRun T C ops26 (ops26.take 9) [(5, .v (.int .u8 c0)), (10, .v (.int .u8 c1)), (11, .v (.int .u8 c2)), (12, .v (.int .u8 c3))] = some [(11, .v (.int .u8 c2)), (12, .v (.int .u8 c3)), (112, .v (.int .i32 y))] := by
  simp [ops26]
theorem last_b (C : Oracle) (c2 c3 y : Int) : ∃ z : Int, opsRun T C ops26 ((ops26.drop 9).take 5) [(11, .v (.int .u8 c2)), (12, .v (.int .u8 c3)), (112, .v (.int .i32 y))] = some [(12, .v (.int .u8 c3)), (117, .v (.int .i32 z))] := by
  simp [ops26]
theorem last_c (C : Oracle) (c3 z : Int) : ∃ u : Int, opsRun T C ops26 ((ops26.drop 9).drop 5) [(12, .v (.int .u8 c3)), (117, .v (.int .i32 z))] = some [(2, .v (.int .i32 u)), (3, .v (.int .i64 4))] := by
  simp [ops26]
theorem last (c0 c1 c2 c3 : Int) : ∃ u : Int, Exec T j0_utf8_decodeRuneSlow [(5, .v (.int .u8 c0)), (10, .v (.int .u8 c1)), (11, .v (.int .u8 c2)), (12, .v (.int .u8 c3))] = some (.ret, [(2, .v (.int .i32 u)), (3, .v (.int .i64 4))]) := by
  obtain ⟨y, hy⟩ := last_a (Cinf T) c0 c1 c2 c3
  obtain ⟨z, hz⟩ := last_b (Cinf T) c2 c3 y
  obtain ⟨u, hu⟩ := last_c (Cinf T) c3 z
  have h0 : opsRun T (Cinf T) ops26 ops26 [(5, .v (.int .u8 c0)), (10, .v (.int .u8 c1)), (11, .v (.int .u8 c2)), (12, .v (.int .u8 c3))] = some [(2, .v (.int .i32 u)), (3, .v (.int .i64 4))] := by
    have e1 : ops26 = ops26.take 9 ++ ((ops26.drop 9).take 5 ++ (ops26.drop 9).drop 5) := by rw [List.take_append_drop, List.take_append_drop]
    have e2 : opsRun T (Cinf T) ops26 ops26 [(5, .v (.int .u8 c0)), (10, .v (.int .u8 c1)), (11, .v (.int .u8 c2)), (12, .v (.int .u8 c3))] = opsRun T (Cinf T) ops26 (ops26.take 9 ++ ((ops26.drop 9).take 5 ++ (ops26.drop 9).drop 5)) [(5, .v (.int .u8 c0)), (10, .v (.int .u8 c1)), (11, .v (.int .u8 c2)), (12, .v (.int .u8 c3))] := congrArg (fun l => opsRun T (Cinf T) ops26 l _) e1
    rw [e2, opsRun_append, hy, Option.bind_some, opsRun_append, hz, Option.bind_some, hu]
  refine ⟨u, ?_⟩
  have hj : j0_utf8_decodeRuneSlow = .seq (.reg 26 ops26 none [2, 3]) .ret := rfl
  rw [hj, Exec_seq, Exec_reg', h0]
  simp
theorem slow_fourthA (M : List UInt8) (h : 3 < M.length) (c0 c1 c2 : Nat) (a' : ¬ lt M 3 < 128) (b' : ¬ 191 < lt M 3) : ∃ y : Int, Exec T j1_utf8_decodeRuneSlow [(0, .ro 1 (bl M)), (5, .v (.int .u8 c0)), (10, .v (.int .u8 c1)), (11, .v (.int .u8 c2))] = some (.ret, [(2, .v (.int .i32 y)), (3, .v (.int .i64 4))]) := by
  obtain ⟨y, hy⟩ := last c0 c1 c2 (lt M 3)
  exact ⟨y, by simp [h, bl_getE h, a', b', hy, -j0_utf8_decodeRuneSlow]⟩
theorem slow_fourthB (M : List UInt8) (h : 3 < M.length) (c0 c1 c2 : Nat) (a' : ¬ lt M 3 < 128) (b' : 191 < lt M 3) : Exec T j1_utf8_decodeRuneSlow [(0, .ro 1 (bl M)), (5, .v (.int .u8 c0)), (10, .v (.int .u8 c1)), (11, .v (.int .u8 c2))] = some (.ret, [(2, .v (.int .i32 65533)), (3, .v (.int .i64 1))]) := by
  simp [h, bl_getE h, a', b']
theorem slow_fourthC (M : List UInt8) (h : 3 < M.length) (c0 c1 c2 : Nat) (a' : lt M 3 < 128) : Exec T j1_utf8_decodeRuneSlow [(0, .ro 1 (bl M)), (5, .v (.int .u8 c0)), (10, .v (.int .u8 c1)), (11, .v (.int .u8 c2))] = some (.ret, [(2, .v (.int .i32 65533)), (3, .v (.int .i64 1))]) := by
  simp [h, bl_getE h, a']
theorem slow_fourth (M : List UInt8) (h : 3 < M.length) (c0 c1 c2 : Nat) : Says (Exec T j1_utf8_decodeRuneSlow [(0, .ro 1 (bl M)), (5, .v (.int .u8 c0)), (10, .v (.int .u8 c1)), (11, .v (.int .u8 c2))]) (cont (lt M 3) = true) 4 := by
  unfold Says cont
  by_cases a : 128 ≤ lt M 3
  · have a' : ¬ lt M 3 < 128 := by omega
    by_cases b : lt M 3 ≤ 191
    · exact .inl ⟨by simp [a, b], slow_fourthA M h c0 c1 c2 a' (by omega)⟩
    · exact .inr ⟨by simp [b], slow_fourthB M h c0 c1 c2 a' (by omega)⟩
  · exact .inr ⟨by simp [a], slow_fourthC M h c0 c1 c2 (by omega)⟩
theorem slow_third (M : List UInt8) (sz : Nat) (hsz : sz = 3 ∨ sz = 4) (h : sz ≤ M.length) (c0 c1 : Nat) : Says (Exec T j3_utf8_decodeRuneSlow [(0, .ro 1 (bl M)), (5, .v (.int .u8 c0)), (8, .v (.int .i64 sz)), (10, .v (.int .u8 c1))]) (cont (lt M 2) = true ∧ (4 ≤ sz → cont (lt M 3) = true)) sz := by
  have h2 : 2 < M.length := by omega
  by_cases a : 128 ≤ lt M 2
  · have a' : ¬ lt M 2 < 128 := by omega
    by_cases b : lt M 2 ≤ 191
    · have b' : ¬ 191 < lt M 2 := by omega
      have hc : cont (lt M 2) = true := by simp [cont, a, b]
      rcases hsz with rfl | rfl
      · refine .inl ⟨⟨hc, by omega⟩, ?_⟩
        simp [h2, bl_getE h2, a', b']
      · rcases slow_fourth M (by omega) c0 c1 (lt M 2) with ⟨k1, y, k2⟩ | ⟨k1, k2⟩
        · refine .inl ⟨⟨hc, fun _ => k1⟩, y, ?_⟩
          simp [h2, bl_getE h2, a', b', k2, -j1_utf8_decodeRuneSlow]
        · refine .inr ⟨fun hh => k1 (hh.2 (by omega)), ?_⟩
          simp [h2, bl_getE h2, a', b', k2, -j1_utf8_decodeRuneSlow]
    · have b' : 191 < lt M 2 := by omega
      refine .inr ⟨by simp [cont, b], ?_⟩
      simp [h2, bl_getE h2, a', b']
  · have a' : lt M 2 < 128 := by omega
    refine .inr ⟨by simp [cont, a], ?_⟩
    simp [h2, bl_getE h2, a']
theorem slow_second (M : List UInt8) (sz lo hi : Nat) (hsz : sz = 2 ∨ sz = 3 ∨ sz = 4) (h : sz ≤ M.length) (c0 : Nat) : Says (Exec T j5_utf8_decodeRuneSlow [(0, .ro 1 (bl M)), (5, .v (.int .u8 c0)), (8, .v (.int .i64 sz)), (9, .box [.v (.int .u8 lo), .v (.int .u8 hi)])]) (rest M sz lo hi) sz := by
  have h1 : 1 < M.length := by omega
  by_cases a : lo ≤ lt M 1
  · have a' : ¬ ((lt M 1 : Int) < lo) := by omega
    by_cases b : lt M 1 ≤ hi
    · have b' : ¬ ((hi : Int) < lt M 1) := by omega
      by_cases c : sz = 2
      · subst c
        refine .inl ⟨⟨a, b, by omega, by omega⟩, ?_⟩
        simp [h1, bl_getE h1, a', b']
      · have c' : ¬ sz ≤ 2 := by omega
        rcases slow_third M sz (by omega) h c0 (lt M 1) with ⟨k1, y, k2⟩ | ⟨k1, k2⟩
        · refine .inl ⟨⟨a, b, fun _ => k1.1, k1.2⟩, y, ?_⟩
          simp [h1, bl_getE h1, a', b', c', k2, -j3_utf8_decodeRuneSlow]
        · refine .inr ⟨fun hh => k1 ⟨hh.2.2.1 (by omega), hh.2.2.2⟩, ?_⟩
          simp [h1, bl_getE h1, a', b', c', k2, -j3_utf8_decodeRuneSlow]
    · have b' : (hi : Int) < lt M 1 := by omega
      refine .inr ⟨fun hh => b hh.2.1, ?_⟩
      simp [h1, bl_getE h1, a', b']
  · have a' : (lt M 1 : Int) < lo := by omega
    refine .inr ⟨fun hh => a hh.1, ?_⟩
    simp [h1, bl_getE h1, a']
theorem slow_sizeA (M : List UInt8) {f sz k lo hi : Nat} (c0 : Nat) (ha : IntKind.u8.wrap (BitVec.ofInt IntKind.u8.bits (f : Int) &&& BitVec.ofInt IntKind.u8.bits 7).toNat = (sz : Int))
    (hk : (f : Int).fdiv 16 = (k : Int)) (hk2 : k < 16) (hg : (glob1.drop (k * 2)).take 2 = [.v (.int .u8 lo), .v (.int .u8 hi)]) (hsz : sz = 2 ∨ sz = 3 ∨ sz = 4)
    (c1' : ¬ ((M.length : Int) < sz)) {o : Option (Out × Env)} (k2 : Exec T j5_utf8_decodeRuneSlow [(0, .ro 1 (bl M)), (5, .v (.int .u8 c0)), (8, .v (.int .i64 sz)), (9, .box [.v (.int .u8 lo), .v (.int .u8 hi)])] = o) : Exec T j6_utf8_decodeRuneSlow [(0, .ro 1 (bl M)), (4, .v (.int .i64 M.length)), (5, .v (.int .u8 c0)), (6, .v (.int .u8 f))] = o := by
  have mn : min (4 : Nat) IntKind.u8.bits = 4 := rfl
  have hszw : IntKind.i64.wrap (sz : Int) = (sz : Int) := by rw [wrap_i64] <;> omega
  have hgk : 2 ≤ 32 - k * 2 := by omega
  simp at ha
  simp [ha, mn, hk, hk2, hg, hszw, c1', glob1_len, hgk, k2, -j5_utf8_decodeRuneSlow]
theorem slow_sizeB (M : List UInt8) {f sz k lo hi : Nat} (c0 : Nat) (ha : IntKind.u8.wrap (BitVec.ofInt IntKind.u8.bits (f : Int) &&& BitVec.ofInt IntKind.u8.bits 7).toNat = (sz : Int))
    (hk : (f : Int).fdiv 16 = (k : Int)) (hk2 : k < 16) (hg : (glob1.drop (k * 2)).take 2 = [.v (.int .u8 lo), .v (.int .u8 hi)]) (hsz : sz = 2 ∨ sz = 3 ∨ sz = 4)
    (c1' : (M.length : Int) < sz) : Exec T j6_utf8_decodeRuneSlow [(0, .ro 1 (bl M)), (4, .v (.int .i64 M.length)), (5, .v (.int .u8 c0)), (6, .v (.int .u8 f))] = some (.ret, [(2, .v (.int .i32 65533)), (3, .v (.int .i64 1))]) := by
  have mn : min (4 : Nat) IntKind.u8.bits = 4 := rfl
  have hszw : IntKind.i64.wrap (sz : Int) = (sz : Int) := by rw [wrap_i64] <;> omega
  have hgk : 2 ≤ 32 - k * 2 := by omega
  simp at ha
  simp [ha, mn, hk, hk2, hg, hszw, c1', glob1_len, hgk]
theorem slow_size (M : List UInt8) {f sz k lo hi : Nat} (c0 : Nat) (ha : IntKind.u8.wrap (BitVec.ofInt IntKind.u8.bits (f : Int) &&& BitVec.ofInt IntKind.u8.bits 7).toNat = (sz : Int))
    (hk : (f : Int).fdiv 16 = (k : Int)) (hk2 : k < 16) (hg : (glob1.drop (k * 2)).take 2 = [.v (.int .u8 lo), .v (.int .u8 hi)]) (hsz : sz = 2 ∨ sz = 3 ∨ sz = 4) :
    Says (Exec T j6_utf8_decodeRuneSlow [(0, .ro 1 (bl M)), (4, .v (.int .i64 M.length)), (5, .v (.int .u8 c0)), (6, .v (.int .u8 f))]) (sz ≤ M.length ∧ rest M sz lo hi) sz := by
  by_cases c1 : sz ≤ M.length
  · rcases slow_second M sz lo hi hsz c1 c0 with ⟨k1, y, k2⟩ | ⟨k1, k2⟩
    · exact .inl ⟨⟨c1, k1⟩, y, slow_sizeA M c0 ha hk hk2 hg hsz (by omega) k2⟩
    · exact .inr ⟨fun hh => k1 hh.2, slow_sizeA M c0 ha hk hk2 hg hsz (by omega) k2⟩
  · exact .inr ⟨fun hh => c1 hh.1, slow_sizeB M c0 ha hk hk2 hg hsz (by omega)⟩
def swapA (A : IR) : IR → IR
  | .seq r4 (.seq r5 (.seq (.seq r6 (.cond ks c _ s)) k)) => .seq r4 (.seq r5 (.seq (.seq r6 (.cond ks c A s)) k))
  | x => x
def oddA : IR := match j7_utf8_decodeRuneSlow with
  | .seq _ (.seq _ (.seq (.seq _ (.cond _ _ A _)) _)) => A
  | _ => .skip
theorem slow_pass (A : IR) (M : List UInt8) (h0 : 0 < M.length) {f : Nat} (hf : glob0[lt M 0]? = some (.v (.int .u8 f))) (h2 : ¬ 240 ≤ f) : Exec T (swapA A j7_utf8_decodeRuneSlow) [(0, .ro 1 (bl M)), (4, .v (.int .i64 M.length))] = Exec T j6_utf8_decodeRuneSlow [(0, .ro 1 (bl M)), (4, .v (.int .i64 M.length)), (5, .v (.int .u8 (lt M 0 : Nat))), (6, .v (.int .u8 f))] := by
  have hs := lt_small M 0
  simp [swapA, h0, bl_getE h0, hs, hf, h2, -j6_utf8_decodeRuneSlow]
theorem slow_good (M : List UInt8) (h0 : 0 < M.length) {f sz k lo hi : Nat} (hc : fstv (lt M 0) = f) (hlt : f < 240) (ha : IntKind.u8.wrap (BitVec.ofInt IntKind.u8.bits (f : Int) &&& BitVec.ofInt IntKind.u8.bits 7).toNat = (sz : Int))
    (hk : (f : Int).fdiv 16 = (k : Int)) (hk2 : k < 16) (hg : (glob1.drop (k * 2)).take 2 = [.v (.int .u8 lo), .v (.int .u8 hi)]) (hsz : sz = 2 ∨ sz = 3 ∨ sz = 4) :
    ((sz ≤ M.length ∧ rest M sz lo hi) ∧ ∃ y : Int, Cinf T n_utf8_decodeRuneSlow [.ro 1 (bl M)] = some (.tup [.v (.int .i32 y), .v (.int .i64 sz)], [.dead])) ∨
      (¬ (sz ≤ M.length ∧ rest M sz lo hi) ∧ Cinf T n_utf8_decodeRuneSlow [.ro 1 (bl M)] = some (.tup [.v (.int .i32 65533), .v (.int .i64 1)], [.dead])) := by
  have hf := first_get (lt_small M 0)
  rw [hc] at hf
  have h1 : ¬ ((M.length : Int) < 1) := by omega
  have h2 : ¬ 240 ≤ f := by omega
  have hp := slow_pass oddA M h0 hf h2
  have hsw : swapA oddA j7_utf8_decodeRuneSlow = j7_utf8_decodeRuneSlow := rfl
  rw [hsw] at hp
  rcases slow_size M (lt M 0) ha hk hk2 hg hsz with ⟨k1, y, k2⟩ | ⟨k1, k2⟩
  · refine .inl ⟨k1, y, ?_⟩
    simp [run_utf8_decodeRuneSlow, Run, h1, hp, k2, -j6_utf8_decodeRuneSlow, -j7_utf8_decodeRuneSlow]
  · refine .inr ⟨k1, ?_⟩
    simp [run_utf8_decodeRuneSlow, Run, h1, hp, k2, -j6_utf8_decodeRuneSlow, -j7_utf8_decodeRuneSlow]
end Go.AM.F
