/- The functions of BoundWindows: what each node gives (the program). -/
import Derived.Test.YtomeaojdihfgmaaKj
import Derived.Test.YtomeaojdihfgmaaKc
namespace Go.Proofs.Ytomeaojdihfgmaa
open Go.VM Go.Proofs.Ytomeaojdihfgmaa.Data
set_option linter.unusedVariables false
set_option linter.unusedSimpArgs false
attribute [local simp] run_seq run_cond run_block run_region run_skip run_exit run_ret runOps_nil runOps_cons stepO_plain stepO_guard seqR_normal seqR_ret seqR_exit seqR_ite condR_bool blockR_normal blockR_ret blockR_exit blockR_ite opsR_some opsR_ite regR_some regR_ite guardR_some putR_some putR_ite finR_normal finR_ret finR_ite wants runOp evalOp X.ev Env.at putE Env.keep startE binV unV resV mapO resOne loadV storeV V.cells V.isCell fillV fillE V.nat? run_loop run_regionD runDraw footO readsOp writesOp touchOp wtouchOp touchV inOrder meets
attribute [local simp] newBlk_app newBlk_one blk_lit0 blk_lit1 blk_lit2 blk_lit3 blk_lit4 blk_lit5 blk_lit6 blk_lit7 blk_tail blk_tail0 blk_head set_tail set_tail0 set_head Heap.blk_set nn nle wr1 wr2

def cellsB (l : List Bool) : List (List V) := (l.map fun b => [db b]).map (·.map .d)
theorem cellsB_at {l : List Bool} {i : Nat} {b : Bool} (h : l[i]? = some b) : (cellsB l)[i]? = some [.d (db b)] := by simp [cellsB, h]
theorem cellsB_len (l : List Bool) : (cellsB l).length = l.length := by simp [cellsB]

structure E42 (l : List Nd) (i : Nat) (b4 : Nat) (E : Env) : Prop where
  a0 : E.at 0 = .d (encs l)
  a4 : E.at 4 = .ptr b4 1 0 0
  a5 : E.at 5 = .clo 49 [.ptr b4 1 0 0]
  a12 : E.at 12 = .d (encs l)
  a13 : E.at 13 = V.int .i64 l.length
  a14 : E.at 14 = V.int .i64 i
/-- the list of what is given, held in a cell -/
structure Held (H : Heap) (b4 : Nat) (is : List Bool) : Prop where
  cell : ∃ v, H.blk b4 = some ⟨87, 1, [[v]]⟩ ∧ ((is = [] ∧ v = .nilS) ∨ ∃ b, v = .ref b 1 0 is.length is.length ∧ H.blk b = some ⟨4, 1, cellsB is⟩)
theorem Held.made {K : Heap} {b4 n : Nat} {k i : Nat} {L : Heap} {is : List Bool} {g : Bool} (his : is.length = i) (h4 : b4 < K.length) (hn : n = K.length) (hl : L.blk k = some ⟨4, 1, cellsB (is ++ [g])⟩) : Held (K.set b4 (some ⟨87, 1, [[.ref (n + k) 1 0 (i + 1) (i + 1)]]⟩) ++ L) b4 (is ++ [g]) := by
  subst his
  refine ⟨.ref (n + k) 1 0 (is.length + 1) (is.length + 1), ?_, .inr ⟨n + k, ?_, ?_⟩⟩
  · rw [blk_head (by simpa using h4), Heap.blk_set h4, if_pos rfl]
  · simp
  · rw [blk_tail (by simpa using hn), hl]

def Q42 (l : List Nd) (i b4 : Nat) (is : List Bool) (fit : Bool) (g : Bool) (r : R) : Prop :=
  match r with
  | some (.normal, E', H') => fit = true ∧ E42 l (i + 1) b4 E' ∧ Held H' b4 (is ++ [g])
  | some (.ret, E', H') => fit = false ∧ E'.at 2 = .nilS ∧ E'.at 3 = V.int .i64 i
  | _ => False

set_option maxHeartbeats 4000000 in
theorem round42 (O O' : Calls') (N : Nat) (hN : 1001 ≤ N) (h49 : ∀ (t : Bool) (P : V) (b : Nat) H, O.run 49 [.d (db t), P, .ptr b 1 0 0] H = runFn O' N v49 [.d (db t), P, .ptr b 1 0 0] H)
    (l : List Nd) (hl : l.length ≤ 60) (i : Nat) (hi : i < l.length) (b4 : Nat) (is : List Bool) (H : Heap) (E : Env) (his : is.length = i) (hk0 : 1 ≤ l[i].kind ∧ l[i].kind ≤ 19) (A B : Nat) (a b : Bool)
    (hA : 4 < l[i].kind → l[i].a = A ∧ is[A]? = some a) (hB : 6 < l[i].kind → l[i].b = B ∧ is[B]? = some b) (hh : Held H b4 is) (hE : E42 l i b4 E) :
    Q42 l i b4 is (fitsK l[i].kind a b) (gives l[i].kind) (run O N v42L0 E H) := by
  unfold v42L0
  generalize hc : v49L0 = lc
  obtain ⟨a0, a4, a5, a12, a13, a14⟩ := hE
  simp only [encs] at a0 a12
  have hlt : ((i : Int) < (l.length : Int)) := by omega
  have hw := wrap_small (i := i) (by omega)
  have hx2 : l[i]? = some l[i] := List.getElem?_eq_getElem hi
  generalize l[i] = x at *
  obtain ⟨k, n, xa, xb, xt⟩ := x
  simp only [] at *
  have hll : ∀ m E H, runLoop (run O' N lc) (m + 1) E H = loopR (run O' N lc) m (run O' N v49L0 E H) := fun m E H => by
    rw [hc, runLoop_step]
  have hl1 : ∀ E H, runLoop (run O' N lc) N E H = loopR (run O' N lc) (N - 1) (run O' N v49L0 E H) := fun E H => by
    rw [← hll, show N - 1 + 1 = N from by omega]
  have hl2 : ∀ E H, runLoop (run O' N lc) (N - 1) E H = loopR (run O' N lc) (N - 2) (run O' N v49L0 E H) := fun E H => by
    rw [← hll, show N - 2 + 1 = N - 1 from by omega]
  have hl3 : ∀ E H, runLoop (run O' N lc) (N - 2) E H = loopR (run O' N lc) (N - 3) (run O' N v49L0 E H) := fun E H => by
    rw [← hll, show N - 3 + 1 = N - 2 from by omega]
  have h49' : ∀ (t : Bool) (P : V) (b : Nat) H, O.run 49 [.d (db t), P, .ptr b 1 0 0] H = finR v49.res (run O' N v49.code (startE 0 [.d (db t), P, .ptr b 1 0 0]) H) := fun t P b H => by
    rw [h49, runFn_eq _ _ (Nat.le_of_ble_eq_true rfl)]
  unfold v49 at h49'
  rw [hc] at h49'
  simp only at h49'
  obtain ⟨vi, hb4, hvi⟩ := hh.cell
  have h4lt := Heap.blk_lt hb4
  have hroom : i + 1 ≤ 140737488355328 := by omega
  by_cases k4 : k ≤ 4
  · have k6' : ¬ k = 6 := by omega
    have k12' : ¬ 12 ≤ k := by omega
    rcases hvi with ⟨rfl, rfl⟩ | ⟨bi, hvi0, hbi⟩
    · simp [v49L0, a0, a4, a5, a12, a13, a14, hlt, hx2, hw, Nd.enc, elemsV, appV, room, slcV, bdV, loopR_exit, loopR_normal, loopR_ret, hb4, h4lt, Q42, fitsK, gives, k4, k6', k12']
      exact ⟨⟨rfl, rfl, rfl, rfl, rfl, rfl⟩, Held.made (is := []) (n := H.length) (k := 4) (i := 0) rfl (by simp [h4lt]) (by simp) (by simp [cellsB])⟩
    · have hbl := Heap.blk_lt hbi
      have hne1 : ¬ b4 = bi := fun e => by rw [e, hbi] at hb4; simp at hb4
      have hne2 : ¬ bi = b4 := fun e => hne1 e.symm
      have ht1 : (cellsB is).take i = cellsB is := by rw [← his, ← cellsB_len is, List.take_length]
      have hcl : i ≤ (cellsB is).length := by rw [cellsB_len]; omega
      rw [his] at hvi0
      subst hvi0
      simp [v49L0, a0, a4, a5, a12, a13, a14, hlt, hx2, hw, Nd.enc, elemsV, appV, room, slcV, bdV, loopR_exit, loopR_normal, loopR_ret, hb4, h4lt, Q42, fitsK, gives, his, hroom, hbi, hbl, hne1, hne2, hcl, ht1, k4, k6', k12']
      exact ⟨⟨rfl, rfl, rfl, rfl, rfl, rfl⟩, Held.made (is := is) (n := H.length) (k := 4) his (by simp [h4lt]) (by simp) (by simp [cellsB])⟩
  · obtain ⟨hxa, hAi⟩ := hA (by omega)
    rcases hvi with ⟨rfl, rfl⟩ | ⟨bi, hvi0, hbi⟩
    · simp at hAi
    · have hbl := Heap.blk_lt hbi
      have hne1 : ¬ b4 = bi := fun e => by rw [e, hbi] at hb4; simp at hb4
      have hne2 : ¬ bi = b4 := fun e => hne1 e.symm
      have ht1 : (cellsB is).take i = cellsB is := by rw [← his, ← cellsB_len is, List.take_length]
      have hcl : i ≤ (cellsB is).length := by rw [cellsB_len]; omega
      rw [his] at hvi0
      subst hvi0
      have hgA := cellsB_at hAi
      have hAl : A < i := by rw [← his]; exact (List.getElem?_eq_some_iff.1 hAi).1
      subst hxa
      by_cases k5 : k = 5
      · subst k5
        cases a
        · simp [v49L0, a0, a4, a5, a12, a13, a14, hlt, hx2, hw, Nd.enc, elemsV, appV, room, slcV, bdV, loopR_exit, loopR_normal, loopR_ret, hb4, h4lt, Q42, fitsK, gives, his, hroom, hbi, hbl, hne1, hne2, hcl, ht1, hgA, hAl, h49', hl1, hl2, hl3]
          exact ⟨⟨rfl, rfl, rfl, rfl, rfl, rfl⟩, Held.made (is := is) (n := H.length) (k := 4) his (by simp [h4lt]) (by simp) (by simp [cellsB])⟩
        · simp [v49L0, a0, a4, a5, a12, a13, a14, hlt, hx2, hw, Nd.enc, elemsV, appV, room, slcV, bdV, loopR_exit, loopR_normal, loopR_ret, hb4, h4lt, Q42, fitsK, gives, his, hroom, hbi, hbl, hne1, hne2, hcl, ht1, hgA, hAl, h49', hl1, hl2, hl3]
      by_cases k6 : k = 6
      · subst k6
        cases a
        · simp [v49L0, a0, a4, a5, a12, a13, a14, hlt, hx2, hw, Nd.enc, elemsV, appV, room, slcV, bdV, loopR_exit, loopR_normal, loopR_ret, hb4, h4lt, Q42, fitsK, gives, his, hroom, hbi, hbl, hne1, hne2, hcl, ht1, hgA, hAl, h49', hl1, hl2, hl3]
        · simp [v49L0, a0, a4, a5, a12, a13, a14, hlt, hx2, hw, Nd.enc, elemsV, appV, room, slcV, bdV, loopR_exit, loopR_normal, loopR_ret, hb4, h4lt, Q42, fitsK, gives, his, hroom, hbi, hbl, hne1, hne2, hcl, ht1, hgA, hAl, h49', hl1, hl2, hl3]
          exact ⟨⟨rfl, rfl, rfl, rfl, rfl, rfl⟩, Held.made (is := is) (n := H.length) (k := 4) his (by simp [h4lt]) (by simp) (by simp [cellsB])⟩
      by_cases k11 : k ≤ 11
      · obtain ⟨hxb, hBi⟩ := hB (by omega)
        have hgB := cellsB_at hBi
        have hBl : B < i := by rw [← his]; exact (List.getElem?_eq_some_iff.1 hBi).1
        subst hxb
        have d0 : ¬ 12 ≤ k := by omega
        have d1 : ¬ k = 16 := by omega
        have d2 : ¬ k = 17 := by omega
        have d3 : ¬ 18 ≤ k := by omega
        cases a <;> cases b
        · simp [v49L0, a0, a4, a5, a12, a13, a14, hlt, hx2, hw, Nd.enc, elemsV, appV, room, slcV, bdV, loopR_exit, loopR_normal, loopR_ret, hb4, h4lt, Q42, fitsK, gives, his, hroom, hbi, hbl, hne1, hne2, hcl, ht1, hgA, hAl, hgB, hBl, h49', hl1, hl2, hl3, k4, k5, k6, k11, d0, d1, d2, d3]
          exact ⟨⟨rfl, rfl, rfl, rfl, rfl, rfl⟩, Held.made (is := is) (n := H.length) (k := 4) his (by simp [h4lt]) (by simp) (by simp [cellsB])⟩
        · simp [v49L0, a0, a4, a5, a12, a13, a14, hlt, hx2, hw, Nd.enc, elemsV, appV, room, slcV, bdV, loopR_exit, loopR_normal, loopR_ret, hb4, h4lt, Q42, fitsK, gives, his, hroom, hbi, hbl, hne1, hne2, hcl, ht1, hgA, hAl, hgB, hBl, h49', hl1, hl2, hl3, k4, k5, k6, k11, d0, d1, d2, d3]
        · simp [v49L0, a0, a4, a5, a12, a13, a14, hlt, hx2, hw, Nd.enc, elemsV, appV, room, slcV, bdV, loopR_exit, loopR_normal, loopR_ret, hb4, h4lt, Q42, fitsK, gives, his, hroom, hbi, hbl, hne1, hne2, hcl, ht1, hgA, hAl, hgB, hBl, h49', hl1, hl2, hl3, k4, k5, k6, k11, d0, d1, d2, d3]
        · simp [v49L0, a0, a4, a5, a12, a13, a14, hlt, hx2, hw, Nd.enc, elemsV, appV, room, slcV, bdV, loopR_exit, loopR_normal, loopR_ret, hb4, h4lt, Q42, fitsK, gives, his, hroom, hbi, hbl, hne1, hne2, hcl, ht1, hgA, hAl, hgB, hBl, h49', hl1, hl2, hl3, k4, k5, k6, k11, d0, d1, d2, d3]
      by_cases k15 : k ≤ 15
      · obtain ⟨hxb, hBi⟩ := hB (by omega)
        have hgB := cellsB_at hBi
        have hBl : B < i := by rw [← his]; exact (List.getElem?_eq_some_iff.1 hBi).1
        subst hxb
        have d0 : 12 ≤ k := by omega
        have d1 : ¬ k = 16 := by omega
        have d2 : ¬ k = 17 := by omega
        have d3 : ¬ 18 ≤ k := by omega
        cases a <;> cases b
        · simp [v49L0, a0, a4, a5, a12, a13, a14, hlt, hx2, hw, Nd.enc, elemsV, appV, room, slcV, bdV, loopR_exit, loopR_normal, loopR_ret, hb4, h4lt, Q42, fitsK, gives, his, hroom, hbi, hbl, hne1, hne2, hcl, ht1, hgA, hAl, hgB, hBl, h49', hl1, hl2, hl3, k4, k5, k6, k11, k15, d0, d1, d2, d3]
          exact ⟨⟨rfl, rfl, rfl, rfl, rfl, rfl⟩, Held.made (is := is) (n := H.length) (k := 4) his (by simp [h4lt]) (by simp) (by simp [cellsB])⟩
        · simp [v49L0, a0, a4, a5, a12, a13, a14, hlt, hx2, hw, Nd.enc, elemsV, appV, room, slcV, bdV, loopR_exit, loopR_normal, loopR_ret, hb4, h4lt, Q42, fitsK, gives, his, hroom, hbi, hbl, hne1, hne2, hcl, ht1, hgA, hAl, hgB, hBl, h49', hl1, hl2, hl3, k4, k5, k6, k11, k15, d0, d1, d2, d3]
        · simp [v49L0, a0, a4, a5, a12, a13, a14, hlt, hx2, hw, Nd.enc, elemsV, appV, room, slcV, bdV, loopR_exit, loopR_normal, loopR_ret, hb4, h4lt, Q42, fitsK, gives, his, hroom, hbi, hbl, hne1, hne2, hcl, ht1, hgA, hAl, hgB, hBl, h49', hl1, hl2, hl3, k4, k5, k6, k11, k15, d0, d1, d2, d3]
        · simp [v49L0, a0, a4, a5, a12, a13, a14, hlt, hx2, hw, Nd.enc, elemsV, appV, room, slcV, bdV, loopR_exit, loopR_normal, loopR_ret, hb4, h4lt, Q42, fitsK, gives, his, hroom, hbi, hbl, hne1, hne2, hcl, ht1, hgA, hAl, hgB, hBl, h49', hl1, hl2, hl3, k4, k5, k6, k11, k15, d0, d1, d2, d3]
      by_cases k17 : k ≤ 17
      · obtain ⟨hxb, hBi⟩ := hB (by omega)
        have hgB := cellsB_at hBi
        have hBl : B < i := by rw [← his]; exact (List.getElem?_eq_some_iff.1 hBi).1
        subst hxb
        have d0 : 12 ≤ k := by omega
        have d1 : k = 16 ∨ k = 17 := by omega
        have d2 : ¬ 18 ≤ k := by omega
        cases a <;> cases b
        · simp [v49L0, a0, a4, a5, a12, a13, a14, hlt, hx2, hw, Nd.enc, elemsV, appV, room, slcV, bdV, loopR_exit, loopR_normal, loopR_ret, hb4, h4lt, Q42, fitsK, gives, his, hroom, hbi, hbl, hne1, hne2, hcl, ht1, hgA, hAl, hgB, hBl, h49', hl1, hl2, hl3, k4, k5, k6, k11, k15, k17, d0, d1, d2]
          exact ⟨⟨rfl, rfl, rfl, rfl, rfl, rfl⟩, Held.made (is := is) (n := H.length) (k := 4) his (by simp [h4lt]) (by simp) (by simp [cellsB])⟩
        · simp [v49L0, a0, a4, a5, a12, a13, a14, hlt, hx2, hw, Nd.enc, elemsV, appV, room, slcV, bdV, loopR_exit, loopR_normal, loopR_ret, hb4, h4lt, Q42, fitsK, gives, his, hroom, hbi, hbl, hne1, hne2, hcl, ht1, hgA, hAl, hgB, hBl, h49', hl1, hl2, hl3, k4, k5, k6, k11, k15, k17, d0, d1, d2]
        · simp [v49L0, a0, a4, a5, a12, a13, a14, hlt, hx2, hw, Nd.enc, elemsV, appV, room, slcV, bdV, loopR_exit, loopR_normal, loopR_ret, hb4, h4lt, Q42, fitsK, gives, his, hroom, hbi, hbl, hne1, hne2, hcl, ht1, hgA, hAl, hgB, hBl, h49', hl1, hl2, hl3, k4, k5, k6, k11, k15, k17, d0, d1, d2]
        · simp [v49L0, a0, a4, a5, a12, a13, a14, hlt, hx2, hw, Nd.enc, elemsV, appV, room, slcV, bdV, loopR_exit, loopR_normal, loopR_ret, hb4, h4lt, Q42, fitsK, gives, his, hroom, hbi, hbl, hne1, hne2, hcl, ht1, hgA, hAl, hgB, hBl, h49', hl1, hl2, hl3, k4, k5, k6, k11, k15, k17, d0, d1, d2]
          exact ⟨⟨rfl, rfl, rfl, rfl, rfl, rfl⟩, Held.made (is := is) (n := H.length) (k := 4) his (by simp [h4lt]) (by simp) (by simp [cellsB])⟩
      obtain ⟨hxb, hBi⟩ := hB (by omega)
      have hgB := cellsB_at hBi
      have hBl : B < i := by rw [← his]; exact (List.getElem?_eq_some_iff.1 hBi).1
      subst hxb
      have d0 : 12 ≤ k := by omega
      have d1 : ¬ k = 16 := by omega
      have d2 : ¬ k = 17 := by omega
      have d3 : 18 ≤ k := by omega
      cases a <;> cases b
      · simp [v49L0, a0, a4, a5, a12, a13, a14, hlt, hx2, hw, Nd.enc, elemsV, appV, room, slcV, bdV, loopR_exit, loopR_normal, loopR_ret, hb4, h4lt, Q42, fitsK, gives, his, hroom, hbi, hbl, hne1, hne2, hcl, ht1, hgA, hAl, hgB, hBl, h49', hl1, hl2, hl3, k4, k5, k6, k11, k15, k17, d0, d1, d2, d3]
      · simp [v49L0, a0, a4, a5, a12, a13, a14, hlt, hx2, hw, Nd.enc, elemsV, appV, room, slcV, bdV, loopR_exit, loopR_normal, loopR_ret, hb4, h4lt, Q42, fitsK, gives, his, hroom, hbi, hbl, hne1, hne2, hcl, ht1, hgA, hAl, hgB, hBl, h49', hl1, hl2, hl3, k4, k5, k6, k11, k15, k17, d0, d1, d2, d3]
      · simp [v49L0, a0, a4, a5, a12, a13, a14, hlt, hx2, hw, Nd.enc, elemsV, appV, room, slcV, bdV, loopR_exit, loopR_normal, loopR_ret, hb4, h4lt, Q42, fitsK, gives, his, hroom, hbi, hbl, hne1, hne2, hcl, ht1, hgA, hAl, hgB, hBl, h49', hl1, hl2, hl3, k4, k5, k6, k11, k15, k17, d0, d1, d2, d3]
      · simp [v49L0, a0, a4, a5, a12, a13, a14, hlt, hx2, hw, Nd.enc, elemsV, appV, room, slcV, bdV, loopR_exit, loopR_normal, loopR_ret, hb4, h4lt, Q42, fitsK, gives, his, hroom, hbi, hbl, hne1, hne2, hcl, ht1, hgA, hAl, hgB, hBl, h49', hl1, hl2, hl3, k4, k5, k6, k11, k15, k17, d0, d1, d2, d3]
        exact ⟨⟨rfl, rfl, rfl, rfl, rfl, rfl⟩, Held.made (is := is) (n := H.length) (k := 4) his (by simp [h4lt]) (by simp) (by simp [cellsB])⟩
end Go.Proofs.Ytomeaojdihfgmaa
/- The functions of BoundWindows: what each node gives (the program), whole. -/
namespace Go.Proofs.Ytomeaojdihfgmaa
open Go.VM Go.Proofs.Ytomeaojdihfgmaa.Data
set_option linter.unusedVariables false
set_option linter.unusedSimpArgs false
attribute [local simp] run_seq run_cond run_block run_region run_skip run_exit run_ret runOps_nil runOps_cons stepO_plain stepO_guard seqR_normal seqR_ret seqR_exit seqR_ite condR_bool blockR_normal blockR_ret blockR_exit blockR_ite opsR_some opsR_ite regR_some regR_ite guardR_some putR_some putR_ite finR_normal finR_ret finR_ite wants runOp evalOp X.ev Env.at putE Env.keep startE binV unV resV mapO resOne loadV storeV V.cells V.isCell fillV fillE V.nat? run_loop run_regionD runDraw footO readsOp writesOp touchOp wtouchOp touchV inOrder meets

/-- a node's parts lie before it -/
def PartOk (n : Nat) (x : Nd) : Prop := (1 ≤ x.kind ∧ x.kind ≤ 19) ∧ ∃ A B : Nat, x.a = A ∧ x.b = B ∧ (4 < x.kind → A < n) ∧ (6 < x.kind → B < n) ∧ (A = 0 ∨ A < n) ∧ (B = 0 ∨ B < n)

theorem node38_part {x : Nd} {sz dp : List Int} (hz : Szs sz dp) {r : Int × Int} (h : node38 x sz dp = some r) : PartOk sz.length x := by
  unfold node38 at h
  by_cases hc : cnt x.kind = 0
  · rw [if_pos hc] at h
    split at h
    · rename_i hr
      obtain ⟨h1, h2, _, _, _, _, h7, h8⟩ := hr
      have : x.kind ≤ 4 := by
        unfold cnt at hc
        by_cases k4 : x.kind ≤ 4
        · exact k4
        · by_cases k6 : x.kind ≤ 6 <;> simp [k4, k6] at hc
      exact ⟨⟨h1, h2⟩, 0, 0, h7, h8, by omega, by omega, by omega, by omega⟩
    · cases h
  · rw [if_neg hc] at h
    split at h
    · rename_i s d e1 e2
      have hl := (List.getElem?_eq_some_iff.1 e1).1
      have hs := hz.sz _ _ e1
      by_cases hc1 : cnt x.kind = 1
      · rw [if_pos hc1] at h
        split at h
        · rename_i hr
          obtain ⟨h1, h2, _, _, _, _, h7, h8⟩ := hr
          have : x.kind ≤ 6 := by
            unfold cnt at hc1
            by_cases k4 : x.kind ≤ 4
            · omega
            · by_cases k6 : x.kind ≤ 6
              · exact k6
              · simp [k4, k6] at hc1
          exact ⟨⟨h1, h2⟩, sz.length - 1, 0, h7, h8, by omega, by omega, by omega, by omega⟩
        · cases h
      · rw [if_neg hc1] at h
        split at h
        · cases h
        · split at h
          · split at h
            · rename_i hr
              obtain ⟨h1, h2, _, _, _, _, h7, h8⟩ := hr
              exact ⟨⟨h1, h2⟩, ((sz.length - 1 : Nat) - s).toNat, sz.length - 1, by omega, h8, by omega, by omega, by omega, by omega⟩
            · cases h
          · cases h
    · cases h

theorem sizes38_parts : ∀ (l : List Nd) (sz dp : List Int) (r : List Int × List Int), Szs sz dp → sizes38 l sz dp = some r → ∀ (i : Nat) (x : Nd), l[i]? = some x → PartOk (sz.length + i) x
  | [], sz, dp, r, hz, h, i, x, hx => by simp at hx
  | y :: l, sz, dp, r, hz, h, i, x, hx => by
    simp only [sizes38] at h
    split at h
    · rename_i s d hn
      cases i with
      | zero =>
        simp at hx
        subst hx
        exact node38_part hz hn
      | succ i =>
        have := sizes38_parts l _ _ r (node38_ok hz hn) h i x (by simpa using hx)
        rw [show sz.length + (i + 1) = (sz ++ [s]).length + i from by simp; omega]
        exact this
    · cases h

theorem told_parts {l : List Nd} (h : (told38 l).2.2 = true) (i : Nat) (x : Nd) (hx : l[i]? = some x) : PartOk i x := by
  unfold told38 at h
  split at h
  · rename_i sz dp he
    have := sizes38_parts l [] [] _ ⟨rfl, fun i n h => by simp at h, fun i n h => by simp at h⟩ he i x hx
    simpa using this
  · cases h

def kindAt (l : List Nd) (n : Int) : Int := match l[n.toNat]? with | some x => x.kind | none => 0
/-- the node at a place fits -/
def fitAt (l : List Nd) (i : Nat) : Bool := match l[i]? with | some x => fitsK x.kind (gives (kindAt l x.a)) (gives (kindAt l x.b)) | none => true
def givesAll (l : List Nd) : List Bool := l.map fun x => gives x.kind

theorem givesAll_take {l : List Nd} {i A : Nat} (h : A < i) (hi : i ≤ l.length) : (givesAll (l.take i))[A]? = some (gives (kindAt l (A : Int))) := by
  have h1 : (l.take i)[A]? = some (l[A]'(by omega)) := by rw [List.getElem?_take, if_pos h]; exact List.getElem?_eq_getElem _
  have h2 : l[A]? = some (l[A]'(by omega)) := List.getElem?_eq_getElem _
  simp only [givesAll, List.getElem?_map, h1, Option.map_some, kindAt, Int.toNat_natCast, h2]

def L42 (l : List Nd) (w : Nat) (r : R) : Prop :=
  match r with
  | some (.exit 0, E', H') => w = l.length ∧ ∃ b4, E42 l l.length b4 E' ∧ Held H' b4 (givesAll l)
  | some (.ret, E', H') => w ≠ l.length ∧ E'.at 2 = .nilS ∧ E'.at 3 = V.int .i64 w
  | _ => False

theorem loop42 (O O' : Calls') (N : Nat) (hN : 1001 ≤ N) (h49 : ∀ (t : Bool) (P : V) (b : Nat) H, O.run 49 [.d (db t), P, .ptr b 1 0 0] H = runFn O' N v49 [.d (db t), P, .ptr b 1 0 0] H)
    (l : List Nd) (hl : l.length ≤ 60) (hp : (told38 l).2.2 = true) (b4 : Nat) : ∀ (k i m : Nat) (H : Heap) (E : Env), i + k = l.length → Held H b4 (givesAll (l.take i)) → E42 l i b4 E →
    L42 l (firstBad (fitAt l) k i) (runLoop (run O N v42L0) (k + 1 + m) E H)
  | 0, i, m, H, E, hk, hh, hE => by
    obtain rfl : i = l.length := by omega
    obtain ⟨a0, a4, a5, a12, a13, a14⟩ := hE
    simp only [encs] at a0 a12
    rw [show 0 + 1 + m = m + 1 from by omega, runLoop_step]
    rw [List.take_length] at hh
    simp [v42L0, a0, a4, a5, a12, a13, a14, loopR_exit, L42, firstBad]
    exact ⟨b4, ⟨rfl, rfl, rfl, rfl, rfl, rfl⟩, hh⟩
  | k + 1, i, m, H, E, hk, hh, hE => by
    have hi : i < l.length := by omega
    have hx : l[i]? = some l[i] := List.getElem?_eq_getElem hi
    obtain ⟨hk0, A, B, eA, eB, hA, hB, _⟩ := told_parts hp i _ hx
    have hr := round42 O O' N hN h49 l hl i hi b4 (givesAll (l.take i)) H E (by simp [givesAll]; omega) hk0 A B (gives (kindAt l l[i].a)) (gives (kindAt l l[i].b))
      (fun h => ⟨eA, by rw [eA]; exact givesAll_take (hA h) (by omega)⟩) (fun h => ⟨eB, by rw [eB]; exact givesAll_take (hB h) (by omega)⟩) hh hE
    have hf : fitAt l i = fitsK l[i].kind (gives (kindAt l l[i].a)) (gives (kindAt l l[i].b)) := by simp only [fitAt, hx]
    rw [← hf] at hr
    rw [show k + 1 + 1 + m = (k + 1 + m) + 1 from by omega, runLoop_step, firstBad]
    unfold Q42 at hr
    split at hr
    · rename_i E' H' he
      obtain ⟨h1, h2, h3⟩ := hr
      rw [he, loopR_normal, if_pos h1]
      refine loop42 O O' N hN h49 l hl hp b4 k (i + 1) m H' E' (by omega) ?_ h2
      have e : givesAll (l.take (i + 1)) = givesAll (l.take i) ++ [gives l[i].kind] := by
        rw [List.take_add_one, hx]
        unfold givesAll
        rw [List.map_append]
        rfl
      rw [e]
      exact h3
    · rename_i E' H' he
      obtain ⟨h1, h2, h3⟩ := hr
      rw [he, loopR_ret, if_neg (by simp [h1])]
      exact ⟨by omega, h2, h3⟩
    · exact hr.elim

theorem firstBad_le (f : Nat → Bool) : ∀ k i, firstBad f k i ≤ i + k
  | 0, i => by simp [firstBad]
  | k + 1, i => by
    simp only [firstBad]
    split
    · have := firstBad_le f k (i + 1); omega
    · omega

theorem bools_freeze {H : Heap} {v : V} {l : List Bool} {n : Nat} (h : OwnL H v 4 1 (cellsB l)) : freezeC (n + 1) H v = some (bools l) := OwnL.freeze h
def wrong42 (l : List Nd) : Nat := firstBad (fitAt l) l.length 0

theorem fn42 (O O' : Calls') (N : Nat) (hN : 1001 ≤ N) (h49 : ∀ (t : Bool) (P : V) (b : Nat) H, O.run 49 [.d (db t), P, .ptr b 1 0 0] H = runFn O' N v49 [.d (db t), P, .ptr b 1 0 0] H)
    (l : List Nd) (hl : l.length ≤ 60) (hp : (told38 l).2.2 = true) : ∃ r H1, runFn O N v42 [.d (encs l)] [] = some (r, H1) ∧ freezeV 9 H1 r = some (.tup [.d (bools (if wrong42 l = l.length then givesAll l else [])), V.int .i64 (wrong42 l : Nat)]) := by
  rw [runFn_eq _ _ (Nat.le_of_ble_eq_true rfl)]
  have hL := loop42 O O' N hN h49 l hl hp 0 l.length 0 (N - (l.length + 1)) [some ⟨87, 1, [[.nilS]]⟩]
    [(0, .d (encs l)), (2, .nilS), (3, V.int .i64 0), (4, .ptr 0 1 0 0), (5, .clo 49 [.ptr 0 1 0 0]), (6, .undef), (7, .undef), (8, .undef), (9, .undef), (10, .undef), (12, .d (encs l)), (13, V.int .i64 l.length), (14, V.int .i64 0), (15, .undef), (25, .undef), (32, .undef), (39, .undef), (46, .undef), (51, .undef), (56, .undef), (78, .undef)]
    (by omega) ⟨.nilS, rfl, .inl ⟨rfl, rfl⟩⟩ ⟨rfl, rfl, rfl, rfl, rfl, rfl⟩
  rw [show l.length + 1 + (N - (l.length + 1)) = N from by omega] at hL
  unfold wrong42
  simp only [encs] at hL
  unfold L42 at hL
  split at hL
  · rename_i E H he
    obtain ⟨hw, b4, ⟨a0, a4, a5, a12, a13, a14⟩, hh⟩ := hL
    obtain ⟨v, h1, h2⟩ := hh.cell
    have ho : OwnL H v 4 1 (cellsB (givesAll l)) := by
      rcases h2 with ⟨h2, h3⟩ | ⟨b, h2, h3⟩
      · exact .inl ⟨by simp [h2, cellsB], h3⟩
      · exact .inr ⟨b, by rw [cellsB_len]; exact h2, h3⟩
    have f1 := bools_freeze (n := 8) ho
    simp only [encs] at a0
    refine ⟨.tup [v, V.int .i64 l.length], H, ?_, ?_⟩
    · simp [v42, encs, he, a0, a4, h1, newBlk]
    · simp [freezeV, mapO, freezeA_own ho, f1]
      simp [freezeA, freezeC_d, hw]
  · rename_i E H he
    obtain ⟨hw, a2, a3⟩ := hL
    refine ⟨.tup [.nilS, V.int .i64 (firstBad (fitAt l) l.length 0 : Nat)], H, ?_, ?_⟩
    · simp [v42, encs, he, a2, a3, newBlk]
    · rw [if_neg hw]
      simp [freezeV, freezeA, mapO, freezeC, freezeC_d, bools]
  · exact hL.elim
end Go.Proofs.Ytomeaojdihfgmaa
