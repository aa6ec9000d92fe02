/- Answers are new memory: ScanOwn, its loops. No conditions. -/
import Derived.Test.YtfnhfjpoeacoaaaDoorS0
import Derived.Test.YtfnhfjpoeacoaaaDoorS2
import Derived.Test.YtfnhfjpoeacoaaaDoorS11
import Derived.Test.YtfnhfjpoeacoaaaDoorS19
import Derived.Test.YtfnhfjpoeacoaaaDoorS21
namespace Go.AM.F
open Go Go.AM
set_option maxRecDepth 10000
set_option linter.unusedSimpArgs false
attribute [local simp] j0_thicketref03_Texts j1_thicketref03_Texts w0_thicketref03_Texts j2_thicketref03_Texts j3_thicketref03_Texts b_thicketref03_Texts a_thicketref03_Texts
attribute [local simp] j0_thicketlaw03_ScanOwn j1_thicketlaw03_ScanOwn w0_thicketlaw03_ScanOwn j2_thicketlaw03_ScanOwn j3_thicketlaw03_ScanOwn w1_thicketlaw03_ScanOwn j4_thicketlaw03_ScanOwn j5_thicketlaw03_ScanOwn w2_thicketlaw03_ScanOwn j6_thicketlaw03_ScanOwn j7_thicketlaw03_ScanOwn w3_thicketlaw03_ScanOwn j8_thicketlaw03_ScanOwn j9_thicketlaw03_ScanOwn w4_thicketlaw03_ScanOwn j10_thicketlaw03_ScanOwn j11_thicketlaw03_ScanOwn w5_thicketlaw03_ScanOwn
theorem texts_loop (l : List ByteArray) (hl : l.length ≤ 1048577) : ∀ (n k : Nat), l.length - k = n → k ≤ l.length →
    Exec T l0_thicketref03_Texts [(0, .ro 1 (tl l)), (1, .ro 1 (tl l)), (12, .v (.int .i64 l.length)), (13, .v (.int .i64 k))] = some (.exit 0, [(0, .ro 1 (tl l)), (1, .ro 1 (tl l)), (12, .v (.int .i64 l.length)), (13, .v (.int .i64 l.length))]) := by
  intro n
  induction n with
  | zero =>
    intro k hn hk
    obtain rfl : k = l.length := by omega
    rw [ex0_thicketref03_Texts]
    simp
  | succ n ih =>
    intro k hn hk
    have hlt : k < l.length := by omega
    obtain ⟨v, hv⟩ : ∃ v, l[k] = v := ⟨_, rfl⟩
    have hw := wrap_succ hlt (by omega)
    have h0 := ih (k + 1) (by omega) (by omega)
    rw [succ_cast] at h0
    rw [ex0_thicketref03_Texts, ← h0]
    simp [hlt, hv, tl, hw]
theorem c_texts (l : List ByteArray) (hl : l.length ≤ 1048577) : Cinf T n_thicketref03_Texts [.ro 1 (tl l), .ro 1 (tl l)] = some (.v (.bool true), [.dead, .dead]) := by
  have h := texts_loop l hl l.length 0 rfl (Nat.zero_le _)
  have ht : (tl l).length = l.length := by simp [tl]
  simp only [Int.natCast_zero] at h
  rw [run_thicketref03_Texts]
  simp [Run, ht, h]
theorem own0 (s : ByteArray) (y : Nat) (b c : List RowV) (n : Nat) (hn : n ≤ 1048577) : ∀ (m k : Nat) (l : List RowV), n - k = m → k ≤ n → l.length = n → ∃ l' : List RowV, l'.length = n ∧
    Exec T l0_thicketlaw03_ScanOwn [(0, .v (.string s)), (1, .v (.int .u8 y)), (5, .own 3 (l.map RowV.pv)), (6, .own 3 (b.map RowV.pv)), (7, .own 3 (c.map RowV.pv)), (35, .dead), (37, .dead), (39, .dead), (41, .v (.int .i64 n)), (42, .v (.int .i64 k)), (57, .dead)] =
      some (.exit 0, [(0, .v (.string s)), (1, .v (.int .u8 y)), (5, .own 3 (l'.map RowV.pv)), (6, .own 3 (b.map RowV.pv)), (7, .own 3 (c.map RowV.pv)), (35, .dead), (37, .dead), (39, .dead), (41, .v (.int .i64 n)), (42, .v (.int .i64 n)), (57, .dead)]) := by
  intro m
  induction m with
  | zero =>
    intro k l hm hk hl
    obtain rfl : k = n := by omega
    refine ⟨l, hl, ?_⟩
    rw [ex0_thicketlaw03_ScanOwn]
    simp
  | succ m ih =>
    intro k l hm hk hl
    have hlt : k < n := by omega
    have hlt2 : k < l.length := by omega
    have hw := wrap_succ hlt (by omega)
    obtain ⟨l', h1, h0⟩ := ih (k + 1) (l.set k ⟨0, 0, ⟨#[]⟩⟩) (by omega) (by omega) (by simp [hl])
    refine ⟨l', h1, ?_⟩
    rw [succ_cast] at h0
    rw [List.map_set] at h0
    have hg := hlt2
    rw [← h0, ex0_thicketlaw03_ScanOwn]
    simp [hlt, hlt2, hw, hg, RowV.pv, row, WordV.pv]
theorem own1 (s : ByteArray) (y : Nat) (b c : List RowV) : ∀ (m i : Nat) (L : List PV), 9 - i = m → i ≤ 9 → L.length ≤ 1048577 + i → ∃ L' : List PV, L'.length = L.length + m ∧
    Exec T l1_thicketlaw03_ScanOwn [(0, .v (.string s)), (1, .v (.int .u8 y)), (5, .own 3 L), (6, .own 3 (b.map RowV.pv)), (7, .own 3 (c.map RowV.pv)), (9, .v (.int .i64 i)), (35, .dead), (37, .dead), (39, .dead), (57, .dead)] =
      some (.exit 2, [(0, .v (.string s)), (1, .v (.int .u8 y)), (5, .own 3 L'), (6, .own 3 (b.map RowV.pv)), (7, .own 3 (c.map RowV.pv)), (9, .v (.int .i64 9)), (35, .dead), (37, .dead), (39, .dead), (57, .dead)]) := by
  intro m
  induction m with
  | zero =>
    intro i L hm hi hl
    obtain rfl : i = 9 := by omega
    refine ⟨L, rfl, ?_⟩
    rw [ex1_thicketlaw03_ScanOwn]
    simp
  | succ m ih =>
    intro i L hm hi hl
    have hlt : i < 9 := by omega
    have hlt2 : (i : Int) < 9 := by omega
    have hw := wrap_succ hlt (by omega)
    have e1 : L.length ≤ 2199023255551 := by omega
    have e2 : L.length ≤ 4611686018427387903 := by omega
    have e3 : (L.length + 1) * 32 ≤ 140737488355328 := by omega
    have e4 : (L.length + 1) * 16 ≤ 140737488355328 := by omega
    have e5 : L.length ≤ 4398046511103 := by omega
    have e6 : L.length ≤ 8796093022207 := by omega
    obtain ⟨L', h1, h0⟩ := ih (i + 1) (L ++ [?a]) (by omega) (by omega) (by simp; omega)
    rotate_left 1
    refine ⟨L', by rw [h1]; simp; omega, ?_⟩
    rw [succ_cast] at h0
    rw [ex1_thicketlaw03_ScanOwn]
    simp [hlt, hlt2, hw, e1, e2, e3, e4, e5, e6]
    exact h0
theorem own2 (s : ByteArray) (y : Nat) (b c : List RowV) (La : List PV) (v : List WordV) (e p : Int) (n : Nat) (hn : n ≤ 1048577) : ∀ (m k : Nat) (l : List WordV), n - k = m → k ≤ n → l.length = n → ∃ l' : List WordV, l'.length = n ∧
    Exec T l2_thicketlaw03_ScanOwn [(0, .v (.string s)), (1, .v (.int .u8 y)), (5, .own 3 La), (6, .own 3 (b.map RowV.pv)), (7, .own 3 (c.map RowV.pv)), (10, .own 3 (wl l)), (13, .own 3 (wl v)), (16, .own 3 (wl v)), (35, .dead), (37, .dead), (39, .dead), (57, .dead), (58, .tup [.ref 60 [0], .v (.int .i64 e), .v (.int .i64 p)]), (60, .tup [.dead, .v (.int .i64 e), .v (.int .i64 p)]), (61, .ref 60 [0]), (64, .tup [.ref 66 [0], .v (.int .i64 e), .v (.int .i64 p)]), (66, .tup [.dead, .v (.int .i64 e), .v (.int .i64 p)]), (67, .ref 66 [0]), (70, .tup [.ref 72 [0], .v (.int .i64 e), .v (.int .i64 p)]), (72, .tup [.dead, .v (.int .i64 e), .v (.int .i64 p)]), (73, .ref 72 [0]), (77, .v (.int .i64 n)), (78, .v (.int .i64 k)), (93, .dead)] =
      some (.exit 4, [(0, .v (.string s)), (1, .v (.int .u8 y)), (5, .own 3 La), (6, .own 3 (b.map RowV.pv)), (7, .own 3 (c.map RowV.pv)), (10, .own 3 (wl l')), (13, .own 3 (wl v)), (16, .own 3 (wl v)), (35, .dead), (37, .dead), (39, .dead), (57, .dead), (58, .tup [.ref 60 [0], .v (.int .i64 e), .v (.int .i64 p)]), (60, .tup [.dead, .v (.int .i64 e), .v (.int .i64 p)]), (61, .ref 60 [0]), (64, .tup [.ref 66 [0], .v (.int .i64 e), .v (.int .i64 p)]), (66, .tup [.dead, .v (.int .i64 e), .v (.int .i64 p)]), (67, .ref 66 [0]), (70, .tup [.ref 72 [0], .v (.int .i64 e), .v (.int .i64 p)]), (72, .tup [.dead, .v (.int .i64 e), .v (.int .i64 p)]), (73, .ref 72 [0]), (77, .v (.int .i64 n)), (78, .v (.int .i64 n)), (93, .dead)]) := by
  intro m
  induction m with
  | zero =>
    intro k l hm hk hl
    obtain rfl : k = n := by omega
    refine ⟨l, hl, ?_⟩
    rw [ex2_thicketlaw03_ScanOwn]
    simp
  | succ m ih =>
    intro k l hm hk hl
    have hlt : k < n := by omega
    have hlt2 : k < l.length := by omega
    have hw := wrap_succ hlt (by omega)
    obtain ⟨l', h1, h0⟩ := ih (k + 1) (l.set k ⟨0, ⟨#[]⟩, 0⟩) (by omega) (by omega) (by simp [hl])
    refine ⟨l', h1, ?_⟩
    rw [succ_cast] at h0
    rw [show wl (l.set k ⟨0, ⟨#[]⟩, 0⟩) = (wl l).set k (WordV.pv ⟨0, ⟨#[]⟩, 0⟩) by simp [wl, List.map_set]] at h0
    obtain ⟨w, hv⟩ : ∃ w, l[k] = w := ⟨_, rfl⟩
    have hg : (wl l)[k]'(by rw [wl_length]; exact hlt2) = WordV.pv w := by simp [wl, hv]
    rw [← h0, ex2_thicketlaw03_ScanOwn]
    simp [hlt, hlt2, hw, hg, RowV.pv, row, WordV.pv]
theorem own3 (s : ByteArray) (y : Nat) (b c : List RowV) (La : List PV) (v : List WordV) (e p : Int) : ∀ (m i : Nat) (L : List PV), 9 - i = m → i ≤ 9 → L.length ≤ 1048577 + i → ∃ L' : List PV, L'.length = L.length + m ∧
    Exec T l3_thicketlaw03_ScanOwn [(0, .v (.string s)), (1, .v (.int .u8 y)), (5, .own 3 La), (6, .own 3 (b.map RowV.pv)), (7, .own 3 (c.map RowV.pv)), (10, .own 3 L), (13, .own 3 (wl v)), (16, .own 3 (wl v)), (20, .v (.int .i64 i)), (35, .dead), (37, .dead), (39, .dead), (57, .dead), (58, .tup [.ref 60 [0], .v (.int .i64 e), .v (.int .i64 p)]), (60, .tup [.dead, .v (.int .i64 e), .v (.int .i64 p)]), (61, .ref 60 [0]), (64, .tup [.ref 66 [0], .v (.int .i64 e), .v (.int .i64 p)]), (66, .tup [.dead, .v (.int .i64 e), .v (.int .i64 p)]), (67, .ref 66 [0]), (70, .tup [.ref 72 [0], .v (.int .i64 e), .v (.int .i64 p)]), (72, .tup [.dead, .v (.int .i64 e), .v (.int .i64 p)]), (73, .ref 72 [0]), (93, .dead)] =
      some (.exit 6, [(0, .v (.string s)), (1, .v (.int .u8 y)), (5, .own 3 La), (6, .own 3 (b.map RowV.pv)), (7, .own 3 (c.map RowV.pv)), (10, .own 3 L'), (13, .own 3 (wl v)), (16, .own 3 (wl v)), (20, .v (.int .i64 9)), (35, .dead), (37, .dead), (39, .dead), (57, .dead), (58, .tup [.ref 60 [0], .v (.int .i64 e), .v (.int .i64 p)]), (60, .tup [.dead, .v (.int .i64 e), .v (.int .i64 p)]), (61, .ref 60 [0]), (64, .tup [.ref 66 [0], .v (.int .i64 e), .v (.int .i64 p)]), (66, .tup [.dead, .v (.int .i64 e), .v (.int .i64 p)]), (67, .ref 66 [0]), (70, .tup [.ref 72 [0], .v (.int .i64 e), .v (.int .i64 p)]), (72, .tup [.dead, .v (.int .i64 e), .v (.int .i64 p)]), (73, .ref 72 [0]), (93, .dead)]) := by
  intro m
  induction m with
  | zero =>
    intro i L hm hi hl
    obtain rfl : i = 9 := by omega
    refine ⟨L, rfl, ?_⟩
    rw [ex3_thicketlaw03_ScanOwn]
    simp
  | succ m ih =>
    intro i L hm hi hl
    have hlt : i < 9 := by omega
    have hlt2 : (i : Int) < 9 := by omega
    have hw := wrap_succ hlt (by omega)
    have e1 : L.length ≤ 2199023255551 := by omega
    have e2 : L.length ≤ 4611686018427387903 := by omega
    have e3 : (L.length + 1) * 32 ≤ 140737488355328 := by omega
    have e4 : (L.length + 1) * 16 ≤ 140737488355328 := by omega
    have e5 : L.length ≤ 4398046511103 := by omega
    have e6 : L.length ≤ 8796093022207 := by omega
    obtain ⟨L', h1, h0⟩ := ih (i + 1) (L ++ [?a]) (by omega) (by omega) (by simp; omega)
    rotate_left 1
    refine ⟨L', by rw [h1]; simp; omega, ?_⟩
    rw [succ_cast] at h0
    rw [ex3_thicketlaw03_ScanOwn]
    simp [hlt, hlt2, hw, e1, e2, e3, e4, e5, e6]
    exact h0
theorem own4 (s : ByteArray) (b c : List RowV) (La : List PV) (v : List WordV) (e p : Int) (Lw : List PV) (f : List ByteArray) (g q : Int) (n : Nat) (hn : n ≤ 1048577) : ∀ (m k : Nat) (l : List ByteArray), n - k = m → k ≤ n → l.length = n → ∃ l' : List ByteArray, l'.length = n ∧
    Exec T l4_thicketlaw03_ScanOwn [(0, .v (.string s)), (5, .own 3 La), (6, .own 3 (b.map RowV.pv)), (7, .own 3 (c.map RowV.pv)), (10, .own 3 Lw), (13, .own 3 (wl v)), (16, .own 3 (wl v)), (21, .own 1 (tl l)), (24, .own 1 (tl f)), (27, .own 1 (tl f)), (35, .dead), (37, .dead), (39, .dead), (57, .dead), (58, .tup [.ref 60 [0], .v (.int .i64 e), .v (.int .i64 p)]), (60, .tup [.dead, .v (.int .i64 e), .v (.int .i64 p)]), (61, .ref 60 [0]), (64, .tup [.ref 66 [0], .v (.int .i64 e), .v (.int .i64 p)]), (66, .tup [.dead, .v (.int .i64 e), .v (.int .i64 p)]), (67, .ref 66 [0]), (70, .tup [.ref 72 [0], .v (.int .i64 e), .v (.int .i64 p)]), (72, .tup [.dead, .v (.int .i64 e), .v (.int .i64 p)]), (73, .ref 72 [0]), (93, .dead), (94, .tup [.ref 97 [0], .v (.int .i64 g), .v (.int .i64 q)]), (97, .tup [.dead, .v (.int .i64 g), .v (.int .i64 q)]), (98, .ref 97 [0]), (101, .tup [.ref 104 [0], .v (.int .i64 g), .v (.int .i64 q)]), (104, .tup [.dead, .v (.int .i64 g), .v (.int .i64 q)]), (105, .ref 104 [0]), (108, .tup [.ref 111 [0], .v (.int .i64 g), .v (.int .i64 q)]), (111, .tup [.dead, .v (.int .i64 g), .v (.int .i64 q)]), (112, .ref 111 [0]), (116, .v (.int .i64 n)), (117, .v (.int .i64 k)), (130, .dead)] =
      some (.exit 8, [(0, .v (.string s)), (5, .own 3 La), (6, .own 3 (b.map RowV.pv)), (7, .own 3 (c.map RowV.pv)), (10, .own 3 Lw), (13, .own 3 (wl v)), (16, .own 3 (wl v)), (21, .own 1 (tl l')), (24, .own 1 (tl f)), (27, .own 1 (tl f)), (35, .dead), (37, .dead), (39, .dead), (57, .dead), (58, .tup [.ref 60 [0], .v (.int .i64 e), .v (.int .i64 p)]), (60, .tup [.dead, .v (.int .i64 e), .v (.int .i64 p)]), (61, .ref 60 [0]), (64, .tup [.ref 66 [0], .v (.int .i64 e), .v (.int .i64 p)]), (66, .tup [.dead, .v (.int .i64 e), .v (.int .i64 p)]), (67, .ref 66 [0]), (70, .tup [.ref 72 [0], .v (.int .i64 e), .v (.int .i64 p)]), (72, .tup [.dead, .v (.int .i64 e), .v (.int .i64 p)]), (73, .ref 72 [0]), (93, .dead), (94, .tup [.ref 97 [0], .v (.int .i64 g), .v (.int .i64 q)]), (97, .tup [.dead, .v (.int .i64 g), .v (.int .i64 q)]), (98, .ref 97 [0]), (101, .tup [.ref 104 [0], .v (.int .i64 g), .v (.int .i64 q)]), (104, .tup [.dead, .v (.int .i64 g), .v (.int .i64 q)]), (105, .ref 104 [0]), (108, .tup [.ref 111 [0], .v (.int .i64 g), .v (.int .i64 q)]), (111, .tup [.dead, .v (.int .i64 g), .v (.int .i64 q)]), (112, .ref 111 [0]), (116, .v (.int .i64 n)), (117, .v (.int .i64 n)), (130, .dead)]) := by
  intro m
  induction m with
  | zero =>
    intro k l hm hk hl
    obtain rfl : k = n := by omega
    refine ⟨l, hl, ?_⟩
    rw [ex4_thicketlaw03_ScanOwn]
    simp
  | succ m ih =>
    intro k l hm hk hl
    have hlt : k < n := by omega
    have hlt2 : k < l.length := by omega
    have hw := wrap_succ hlt (by omega)
    obtain ⟨l', h1, h0⟩ := ih (k + 1) (l.set k ⟨#[103, 111, 110, 101]⟩) (by omega) (by omega) (by simp [hl])
    refine ⟨l', h1, ?_⟩
    rw [succ_cast] at h0
    rw [show tl (l.set k ⟨#[103, 111, 110, 101]⟩) = (tl l).set k (.v (.string ⟨#[103, 111, 110, 101]⟩)) by simp [tl, List.map_set]] at h0
    obtain ⟨w, hv⟩ : ∃ w, l[k] = w := ⟨_, rfl⟩
    have hg : (tl l)[k]'(by rw [tl_length]; exact hlt2) = .v (.string w) := by simp [tl, hv]
    rw [← h0, ex4_thicketlaw03_ScanOwn]
    simp [hlt, hlt2, hw, hg, RowV.pv, row, WordV.pv]
theorem own5 (s : ByteArray) (b c : List RowV) (La : List PV) (v : List WordV) (e p : Int) (Lw : List PV) (f : List ByteArray) (g q : Int) : ∀ (m i : Nat) (L : List PV), 9 - i = m → i ≤ 9 → L.length ≤ 1048577 + i → ∃ L' : List PV, L'.length = L.length + m ∧
    Exec T l5_thicketlaw03_ScanOwn [(0, .v (.string s)), (5, .own 3 La), (6, .own 3 (b.map RowV.pv)), (7, .own 3 (c.map RowV.pv)), (10, .own 3 Lw), (13, .own 3 (wl v)), (16, .own 3 (wl v)), (21, .own 1 L), (24, .own 1 (tl f)), (27, .own 1 (tl f)), (31, .v (.int .i64 i)), (35, .dead), (37, .dead), (39, .dead), (57, .dead), (58, .tup [.ref 60 [0], .v (.int .i64 e), .v (.int .i64 p)]), (60, .tup [.dead, .v (.int .i64 e), .v (.int .i64 p)]), (61, .ref 60 [0]), (64, .tup [.ref 66 [0], .v (.int .i64 e), .v (.int .i64 p)]), (66, .tup [.dead, .v (.int .i64 e), .v (.int .i64 p)]), (67, .ref 66 [0]), (70, .tup [.ref 72 [0], .v (.int .i64 e), .v (.int .i64 p)]), (72, .tup [.dead, .v (.int .i64 e), .v (.int .i64 p)]), (73, .ref 72 [0]), (93, .dead), (94, .tup [.ref 97 [0], .v (.int .i64 g), .v (.int .i64 q)]), (97, .tup [.dead, .v (.int .i64 g), .v (.int .i64 q)]), (98, .ref 97 [0]), (101, .tup [.ref 104 [0], .v (.int .i64 g), .v (.int .i64 q)]), (104, .tup [.dead, .v (.int .i64 g), .v (.int .i64 q)]), (105, .ref 104 [0]), (108, .tup [.ref 111 [0], .v (.int .i64 g), .v (.int .i64 q)]), (111, .tup [.dead, .v (.int .i64 g), .v (.int .i64 q)]), (112, .ref 111 [0]), (130, .dead)] =
      some (.exit 10, [(0, .v (.string s)), (5, .own 3 La), (6, .own 3 (b.map RowV.pv)), (7, .own 3 (c.map RowV.pv)), (10, .own 3 Lw), (13, .own 3 (wl v)), (16, .own 3 (wl v)), (21, .own 1 L'), (24, .own 1 (tl f)), (27, .own 1 (tl f)), (31, .v (.int .i64 9)), (35, .dead), (37, .dead), (39, .dead), (57, .dead), (58, .tup [.ref 60 [0], .v (.int .i64 e), .v (.int .i64 p)]), (60, .tup [.dead, .v (.int .i64 e), .v (.int .i64 p)]), (61, .ref 60 [0]), (64, .tup [.ref 66 [0], .v (.int .i64 e), .v (.int .i64 p)]), (66, .tup [.dead, .v (.int .i64 e), .v (.int .i64 p)]), (67, .ref 66 [0]), (70, .tup [.ref 72 [0], .v (.int .i64 e), .v (.int .i64 p)]), (72, .tup [.dead, .v (.int .i64 e), .v (.int .i64 p)]), (73, .ref 72 [0]), (93, .dead), (94, .tup [.ref 97 [0], .v (.int .i64 g), .v (.int .i64 q)]), (97, .tup [.dead, .v (.int .i64 g), .v (.int .i64 q)]), (98, .ref 97 [0]), (101, .tup [.ref 104 [0], .v (.int .i64 g), .v (.int .i64 q)]), (104, .tup [.dead, .v (.int .i64 g), .v (.int .i64 q)]), (105, .ref 104 [0]), (108, .tup [.ref 111 [0], .v (.int .i64 g), .v (.int .i64 q)]), (111, .tup [.dead, .v (.int .i64 g), .v (.int .i64 q)]), (112, .ref 111 [0]), (130, .dead)]) := by
  intro m
  induction m with
  | zero =>
    intro i L hm hi hl
    obtain rfl : i = 9 := by omega
    refine ⟨L, rfl, ?_⟩
    rw [ex5_thicketlaw03_ScanOwn]
    simp
  | succ m ih =>
    intro i L hm hi hl
    have hlt : i < 9 := by omega
    have hlt2 : (i : Int) < 9 := by omega
    have hw := wrap_succ hlt (by omega)
    have e1 : L.length ≤ 2199023255551 := by omega
    have e2 : L.length ≤ 4611686018427387903 := by omega
    have e3 : (L.length + 1) * 32 ≤ 140737488355328 := by omega
    have e4 : (L.length + 1) * 16 ≤ 140737488355328 := by omega
    have e5 : L.length ≤ 4398046511103 := by omega
    have e6 : L.length ≤ 8796093022207 := by omega
    obtain ⟨L', h1, h0⟩ := ih (i + 1) (L ++ [?a]) (by omega) (by omega) (by simp; omega)
    rotate_left 1
    refine ⟨L', by rw [h1]; simp; omega, ?_⟩
    rw [succ_cast] at h0
    rw [ex5_thicketlaw03_ScanOwn]
    simp [hlt, hlt2, hw, e1, e2, e3, e4, e5, e6]
    exact h0
end Go.AM.F
