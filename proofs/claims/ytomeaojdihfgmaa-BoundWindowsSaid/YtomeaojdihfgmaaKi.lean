/- The functions of BoundWindows: checks.Check (the program). -/
import Derived.Test.YtomeaojdihfgmaaKd
import Derived.Test.YtomeaojdihfgmaaVmG
import Derived.Test.YtomeaojdihfgmaaKc
import Derived.Test.YtomeaojdihfgmaaKa
namespace Go.Proofs.Ytomeaojdihfgmaa
open Go.VM Go.Proofs.Ytomeaojdihfgmaa.Data
set_option linter.unusedVariables false
set_option linter.unusedSimpArgs false
attribute [local simp] run_seq run_cond run_block run_region run_skip run_exit run_ret runOps_nil runOps_cons stepO_plain stepO_guard seqR_normal seqR_ret seqR_exit seqR_ite condR_bool blockR_normal blockR_ret blockR_exit blockR_ite opsR_some opsR_ite regR_some regR_ite guardR_some putR_some putR_ite finR_normal finR_ret finR_ite wants runOp evalOp X.ev Env.at putE Env.keep startE binV unV resV mapO resOne loadV storeV V.cells V.isCell fillV fillE V.nat? run_loop newBlk Heap.blk

theorem wrc1 : IntKind.wrap .i64 1 = 1 := wrap_id ⟨by omega, by omega⟩
theorem wrc2 : IntKind.wrap .i64 2 = 2 := wrap_id ⟨by omega, by omega⟩

set_option maxHeartbeats 4000000 in
theorem fn9 (O O' : Calls') (N : Nat) (hN : 1001 ≤ N) (q : Qy) (e16 : Int) (aA aW : Nat) (xA xW : Nd) (eA eW : Int) (h16 : ∀ H, O.run 16 [qv q] H = some (V.int .i64 e16, H))
    (h17 : ∀ (b n c : Nat) H, O.run 17 [.ref b 2 0 n c] H = runFn O' N v17 [.ref b 2 0 n c] H)
    (hA : e16 = 0 → 0 < q.arg.length → ∀ H, O'.run 18 [.d (encs q.arg)] H = some (.tup [V.int .i64 aA, V.int .i64 eA], H))
    (hW : e16 = 0 → 0 < q.where'.length → ∀ H, O'.run 19 [.d (encs q.where')] H = some (.tup [V.int .i64 aW, V.int .i64 eW], H)) (gA : e16 = 0 → 0 < q.arg.length → eA ≠ 0 → q.arg[aA]? = some xA) (gW : e16 = 0 → 0 < q.where'.length → eW ≠ 0 → q.where'[aW]? = some xW) :
    ∃ H1, runFn O N v9 [qv q] [] = some (if e16 = 0 then wishV q.arg.length q.where'.length xA.at' xW.at' eA eW else .tup [V.int .i64 0, V.int .i64 e16], H1) := by
  rw [runFn_eq _ _ (Nat.le_of_ble_eq_true rfl)]
  have h17' : ∀ (b n c : Nat) H, O.run 17 [.ref b 2 0 n c] H = finR v17.res (run O' N v17.code (startE 0 [.ref b 2 0 n c]) H) := fun b n c H => by
    rw [h17, runFn_eq _ _ (Nat.le_of_ble_eq_true rfl)]
  generalize hc : v17L0 = lc
  unfold v17 at h17'
  rw [hc] at h17'
  simp only at h17'
  have hll : ∀ m E H, runLoop (run O' N lc) (m + 1) E H = loopR (run O' N lc) m (run O' N v17L0 E H) := fun m E H => by
    rw [hc, runLoop_step]
  have hl1 : ∀ E H, runLoop (run O' N lc) N E H = loopR (run O' N lc) (N - 1) (run O' N v17L0 E H) := fun E H => by
    rw [← hll, show N - 1 + 1 = N from by omega]
  have hl2 : ∀ E H, runLoop (run O' N lc) (N - 1) E H = loopR (run O' N lc) (N - 2) (run O' N v17L0 E H) := fun E H => by
    rw [← hll, show N - 2 + 1 = N - 1 from by omega]
  have hl3 : ∀ E H, runLoop (run O' N lc) (N - 2) E H = loopR (run O' N lc) (N - 3) (run O' N v17L0 E H) := fun E H => by
    rw [← hll, show N - 3 + 1 = N - 2 from by omega]
  obtain ⟨agg, arg, src, join, wh, kind, size, every, byKey, late⟩ := q
  simp only [wishV, qv, Qy.enc, encs, ints, List.map_cons, List.map_nil] at *
  by_cases h0 : e16 = 0
  · subst h0
    simp only [forall_const, if_true] at *
    by_cases h1 : 0 < arg.length
    · have hA' := hA h1
      have n1 : ¬ arg.length = 0 := by omega
      by_cases h2 : eA = 0
      · by_cases h3 : 0 < wh.length
        · have hW' := hW h3
          have n3 : ¬ wh.length = 0 := by omega
          by_cases h4 : eW = 0
          · simp [v9, v17L0, h16, h17', hl1, hl2, hl3, loopR_normal, loopR_exit, loopR_ret, h1, h2, h3, h4, n1, n3, hA', hW', wrc1, wrc2]
          · have g := gW h3 h4
            simp [v9, v17L0, h16, h17', hl1, hl2, hl3, loopR_normal, loopR_exit, loopR_ret, h1, h2, h3, h4, n1, n3, hA', hW', g, Nd.enc, wrc1, wrc2]
        · have n3 : wh.length = 0 := by omega
          have hwn : wh = [] := List.eq_nil_of_length_eq_zero n3
          subst hwn
          simp only [List.map_nil] at h16
          simp [v9, v17L0, h16, h17', hl1, hl2, hl3, loopR_normal, loopR_exit, loopR_ret, h1, h2, n1, hA', wrc1, wrc2]
      · have g := gA h1 h2
        simp [v9, v17L0, h16, h17', hl1, hl2, hl3, loopR_normal, loopR_exit, loopR_ret, h1, h2, n1, hA', g, Nd.enc, wrc1, wrc2]
    · have n1 : arg.length = 0 := by omega
      have hwn1 : arg = [] := List.eq_nil_of_length_eq_zero n1
      subst hwn1
      simp only [List.map_nil] at h16
      by_cases h3 : 0 < wh.length
      · have hW' := hW h3
        have n3 : ¬ wh.length = 0 := by omega
        by_cases h4 : eW = 0
        · simp [v9, v17L0, h16, h17', hl1, hl2, hl3, loopR_normal, loopR_exit, loopR_ret, h3, h4, n3, hW', wrc1, wrc2]
        · have g := gW h3 h4
          simp [v9, v17L0, h16, h17', hl1, hl2, hl3, loopR_normal, loopR_exit, loopR_ret, h3, h4, n3, hW', g, Nd.enc, wrc1, wrc2]
      · have n3 : wh.length = 0 := by omega
        have hwn : wh = [] := List.eq_nil_of_length_eq_zero n3
        subst hwn
        simp only [List.map_nil] at h16
        simp [v9, v17L0, h16, h17', hl1, hl2, hl3, loopR_normal, loopR_exit, loopR_ret, wrc1, wrc2]
  · simp [v9, h16, h0]
end Go.Proofs.Ytomeaojdihfgmaa
/- The functions of BoundWindows: slide.Of, and the law itself. -/
namespace Go.Proofs.Ytomeaojdihfgmaa
open Go.VM Go.Proofs.Ytomeaojdihfgmaa.Data
set_option linter.unusedVariables false
set_option linter.unusedSimpArgs false
attribute [local simp] run_seq run_cond run_block run_region run_skip run_exit run_ret runOps_nil runOps_cons stepO_plain stepO_guard seqR_normal seqR_ret seqR_exit seqR_ite condR_bool blockR_normal blockR_ret blockR_exit blockR_ite opsR_some opsR_ite regR_some regR_ite guardR_some putR_some putR_ite finR_normal finR_ret finR_ite wants runOp evalOp X.ev Env.at putE Env.keep startE binV unV resV mapO resOne loadV storeV V.cells V.isCell fillV fillE V.nat? run_loop newBlk Heap.blk

/-- slide.Of at sliding windows: what All tells -/
theorem fn7s (O : Calls') (N : Nat) (s v t : Int) (es : List (List D)) (e : Int) (h13 : ∀ H, O.run 13 [win 2 s v] H = some (V.int .i64 (if okWin 2 s v then 0 else 8), H))
    (h15 : okWin 2 s v → ∀ H, O.run 15 [.d (di t), .d (di s), .d (di v)] H = some (.tup [.d (.sl es), V.int .i64 e], H)) :
    ∃ H1, runFn O N v7 [win 2 s v, .d (di t)] [] = some (if okWin 2 s v then .tup [.d (.sl es), V.int .i64 e] else .tup [.nilS, V.int .i64 8], H1) := by
  rw [runFn_eq _ _ (Nat.le_of_ble_eq_true rfl)]
  unfold win at *
  by_cases h : okWin 2 s v
  · have h15' := h15 h
    simp only [h, if_true] at h13 ⊢
    simp [v7, h13, h15']
  · simp only [h, if_false] at h13 ⊢
    simp [v7, h13]
def Q7 (x : Option (V × Heap)) : Prop := match x with
  | some (.tup [r, .d (.lit (.int .i64 e))], H1) => ∃ es, freezeV 9 H1 (.tup [r, V.int .i64 e]) = some (.tup [.d (.sl es), V.int .i64 e])
  | _ => False
theorem Q7_some {x : Option (V × Heap)} (h : Q7 x) : ∃ r H1 es e, x = some (.tup [r, V.int .i64 e], H1) ∧ freezeV 9 H1 (.tup [r, V.int .i64 e]) = some (.tup [.d (.sl es), V.int .i64 e]) := by
  unfold Q7 at h
  split at h
  · obtain ⟨es, h⟩ := h
    exact ⟨_, _, es, _, rfl, h⟩
  · exact h.elim
/-- slide.Of at any other kind: a list, and an error -/
theorem fn7o (O : Calls') (N : Nat) (k s v t : Int) (hk : ¬ k = 2) (h13 : ∀ H, O.run 13 [win k s v] H = some (V.int .i64 (if okWin k s v then 0 else 8), H))
    (h14 : ∀ H, O.run 14 [.d (di t), .d (di s)] H = some (spanV t s, H)) :
    ∃ r H1 es e, runFn O N v7 [win k s v, .d (di t)] [] = some (.tup [r, V.int .i64 e], H1) ∧ freezeV 9 H1 (.tup [r, V.int .i64 e]) = some (.tup [.d (.sl es), V.int .i64 e]) := by
  rw [runFn_eq _ _ (Nat.le_of_ble_eq_true rfl)]
  apply Q7_some
  unfold win at *
  by_cases h : okWin k s v
  · simp only [h, if_true] at h13
    by_cases k1 : k = 1
    · subst k1
      unfold spanV at h14
      by_cases c1 : s < 1 ∨ 1073741824 < s
      · simp only [c1, if_true] at h14
        simp [v7, h13, h14, Q7, freezeV, freezeA, mapO, freezeC]
      · by_cases c2 : t < -1099511627776 ∨ 1099511627776 < t
        · simp only [c1, c2, if_true, if_false] at h14
          simp [v7, h13, h14, Q7, freezeV, freezeA, mapO, freezeC]
        · simp only [c1, c2, if_false] at h14
          simp [v7, h13, h14, Q7, freezeV, freezeA, mapO, freezeC]
    · simp [v7, h13, hk, k1, Q7, freezeV, freezeA, mapO, freezeC]
  · simp only [h, if_false] at h13
    simp [v7, h13, Q7, freezeV, freezeA, mapO, freezeC]

/-- the law, by what its calls tell -/
theorem fn3 (O : Calls') (N : Nat) (q : Qy) (t n e : Int) (es : List (List D)) (g : Int) (h4 : ∀ H, O.run 4 [qv q] H = some (V.bool (greatQ q), H))
    (h5 : greatQ q = false → ∀ H, O.run 5 [qv q] H = some (.tup [V.int .i64 n, V.int .i64 e], H)) (h6 : greatQ q = false → ∀ H, O.run 6 [qv q] H = some (.tup [V.int .i64 n, V.int .i64 e], H))
    (h7 : greatQ q = false → ∀ H, O.run 7 [win q.kind q.size q.every, .d (di t)] H = some (.tup [.d (.sl es), V.int .i64 g], H))
    (hn : greatQ q = false → e = 0 → g = 0 → q.kind = 2 → (es.length : Int) ≤ n ∧ n - 1 ≤ es.length ∧ I (n - 1)) : ∃ H1, runFn O N v3 [qv q, .d (di t)] [] = some (V.bool true, H1) := by
  rw [runFn_eq _ _ (Nat.le_of_ble_eq_true rfl)]
  obtain ⟨agg, arg, src, join, wh, kind, size, every, byKey, late⟩ := q
  simp only [qv, Qy.enc, win, List.map_cons, List.map_nil] at *
  cases hg : greatQ ⟨agg, arg, src, join, wh, kind, size, every, byKey, late⟩ with
  | true =>
    rw [hg] at h4
    simp [v3, h4]
  | false =>
    rw [hg] at h4
    have h5' := h5 hg
    have h6' := h6 hg
    have h7' := h7 hg
    by_cases he : e = 0
    · by_cases hgg : g = 0
      · by_cases hk : kind = 2
        · subst hk
          obtain ⟨n1, n2, n3⟩ := hn hg he hgg rfl
          have hw : IntKind.wrap .i64 (n - 1) = n - 1 := wrap_id n3
          have n4 : n ≤ es.length + 1 := by omega
          simp [v3, h4, h5', h6', h7', he, hgg, n1, hw, n2, n4]
        · simp [v3, h4, h5', h6', h7', he, hgg, hk]
      · simp [v3, h4, h5', h6', h7', he, hgg]
    · simp [v3, h4, h5', h6', h7', he]
end Go.Proofs.Ytomeaojdihfgmaa
