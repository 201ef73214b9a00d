/- Runs of the functions of BoundWindows with unknowns in them: what all of them use. -/
import Derived.Test.YtomeaojdihfgmaaTab
import Derived.Test.YtomeaojdihfgmaaVmG
import Derived.Test.YtomeaojdihfgmaaData
namespace Go.Proofs.Ytomeaojdihfgmaa
set_option linter.unusedSimpArgs false
open Go.VM Go.Proofs.Ytomeaojdihfgmaa.Data
set_option linter.unusedVariables false

theorem wrap_id {n : Int} (h : I n) : IntKind.wrap .i64 n = n := by
  obtain ⟨h1, h2⟩ := h
  simp [IntKind.wrap, IntKind.bits, IntKind.signed]
  omega

/-- a call that is handed nothing own -/
theorem call_of {own : Nat → Bool} {X : Calls'} {N n f : Nat} {vf : VFn} {args : List V} {H H1 : Heap} {r v : V} (ht : tab f = some vf) (ho : own f = false) (ha : args.all (noRef 5) = true) (hr : runFn (callsAt tab own X N n) N vf args [] = some (r, H1)) (hv : freezeV 9 H1 r = some v) :
    (callsAt tab own X N (n + 1)).run f args H = some (v, H) := by
  simp only [callsAt, ht, ho, ha, Bool.not_false, Bool.and_self, if_true, hr, hv, Option.map_some]
end Go.Proofs.Ytomeaojdihfgmaa
/- The functions of BoundWindows: windows. -/
namespace Go.Proofs.Ytomeaojdihfgmaa
open Go.VM Go.Proofs.Ytomeaojdihfgmaa.Data
set_option linter.unusedVariables false
set_option linter.unusedSimpArgs false
attribute [local simp] run_seq run_cond run_block run_region run_skip run_exit run_ret runOps_nil runOps_cons stepO_plain stepO_guard seqR_normal seqR_ret seqR_exit seqR_ite condR_bool blockR_normal blockR_ret blockR_exit blockR_ite opsR_some opsR_ite regR_some regR_ite guardR_some putR_some putR_ite finR_normal finR_ret finR_ite wants runOp evalOp X.ev Env.at putE Env.keep startE binV resV mapO resOne loadV storeV newBlk Heap.blk V.cells V.isCell

def okWin (k s v : Int) : Prop := 1 ≤ s ∧ s ≤ 1073741824 ∧ if k = 2 then 1 ≤ v ∧ v ≤ s ∧ s ≤ 16 * v else (k = 1 ∨ k = 3) ∧ v = 0
instance (k s v : Int) : Decidable (okWin k s v) := by unfold okWin; infer_instance
def win (k s v : Int) : V := .agg [.d (du k), .d (di s), .d (di v)]

theorem fn13 (O : Calls') (N : Nat) (k s v : Int) (hv : I v) : ∃ H1, runFn O N v13 [win k s v] [] = some (V.int .i64 (if okWin k s v then 0 else 8), H1) := by
  rw [runFn_eq _ _ (Nat.le_of_ble_eq_true rfl)]
  unfold okWin win
  by_cases h1 : s < 1
  · have : ¬ 1 ≤ s := by omega
    simp [v13, h1, this]
  · have h1' : 1 ≤ s := by omega
    by_cases h2 : 1073741824 < s
    · have : ¬ s ≤ 1073741824 := by omega
      simp [v13, h1, h2, this]
    · have h2' : s ≤ 1073741824 := by omega
      by_cases k2 : k = 2
      · by_cases h3 : 1 ≤ v
        · by_cases h4 : v ≤ s
          · have hw : IntKind.wrap .i64 (16 * v) = 16 * v := wrap_id ⟨by omega, by omega⟩
            by_cases h5 : s ≤ 16 * v
            · simp [v13, h1, h2, k2, h3, h4, hw, h5, h1', h2']
            · simp [v13, h1, h2, k2, h3, h4, hw, h5, h1', h2']
          · simp [v13, h1, h2, k2, h3, h4, h1', h2']
        · simp [v13, h1, h2, k2, h3, h1', h2']
      · by_cases k1 : k = 1 <;> by_cases k3 : k = 3 <;> by_cases h6 : v = 0 <;> simp [v13, h1, h2, k1, k2, k3, h6, h1', h2']
end Go.Proofs.Ytomeaojdihfgmaa
/- The functions of BoundWindows: small ones. -/
namespace Go.Proofs.Ytomeaojdihfgmaa
open Go.VM Go.Proofs.Ytomeaojdihfgmaa.Data
set_option linter.unusedVariables false
set_option linter.unusedSimpArgs false
attribute [local simp] run_seq run_cond run_block run_region run_skip run_exit run_ret runOps_nil runOps_cons stepO_plain stepO_guard seqR_normal seqR_ret seqR_exit seqR_ite condR_bool blockR_normal blockR_ret blockR_exit blockR_ite opsR_some opsR_ite regR_some regR_ite guardR_some putR_some putR_ite finR_normal finR_ret finR_ite wants runOp evalOp X.ev Env.at putE Env.keep startE binV resV mapO resOne loadV storeV newBlk Heap.blk V.cells V.isCell

theorem fn29 (O : Calls') (N : Nat) (k s v : Int) (hv : I v) : ∃ H1, runFn O N v29 [win k s v] [] = some (V.bool (decide (okWin k s v)), H1) := by
  rw [runFn_eq _ _ (Nat.le_of_ble_eq_true rfl)]
  unfold okWin win
  by_cases h1 : s < 1
  · have : ¬ 1 ≤ s := by omega
    simp [v29, h1, this]
  · have h1' : 1 ≤ s := by omega
    by_cases h2 : 1073741824 < s
    · have : ¬ s ≤ 1073741824 := by omega
      simp [v29, h1, h2, this]
    · have h2' : s ≤ 1073741824 := by omega
      by_cases k2 : k = 2
      · by_cases h3 : 1 ≤ v
        · by_cases h4 : v ≤ s
          · have hw : IntKind.wrap .i64 (16 * v) = 16 * v := wrap_id ⟨by omega, by omega⟩
            by_cases h5 : s ≤ 16 * v
            · simp [v29, h1, h2, k2, h3, h4, hw, h5, h1', h2']
            · simp [v29, h1, h2, k2, h3, h4, hw, h5, h1', h2']
          · simp [v29, h1, h2, k2, h3, h4, h1', h2']
        · simp [v29, h1, h2, k2, h3, h1', h2']
      · by_cases k1 : k = 1
        · by_cases h6 : v = 0 <;> simp [v29, h1, h2, k1, h6, h1', h2']
        · by_cases k3 : k = 3 <;> by_cases h6 : v = 0 <;> simp [v29, h1, h2, k2, k1, k3, h6, h1', h2']

theorem fn46 (O : Calls') (N : Nat) (k : Int) : runFn O N v46 [.d (du k)] [] = some (V.bool (decide (k = 6 ∨ 12 ≤ k)), []) := by
  rw [runFn_eq _ _ (Nat.le_of_ble_eq_true rfl)]
  by_cases h1 : k = 6 <;> by_cases h2 : 12 ≤ k <;> simp [v46, h1, h2]

/-- how many windows a record may have: the program's way -/
def wins (k s v : Int) : Int := if k = 2 then (if 0 < s.tmod v then s.tdiv v + 1 else s.tdiv v) else 1

theorem fn10 (O : Calls') (N : Nat) (k s v : Int) (h : okWin k s v) : ∃ H1, runFn O N v10 [win k s v] [] = some (V.int .i64 (wins k s v), H1) := by
  rw [runFn_eq _ _ (Nat.le_of_ble_eq_true rfl)]
  unfold okWin at h
  unfold wins win
  by_cases k2 : k = 2
  · rw [if_pos k2] at h
    obtain ⟨h1, h2, h3, h4, h5⟩ := h
    have hv0 : v ≠ 0 := by omega
    have hd : 0 ≤ s.tdiv v ∧ s.tdiv v ≤ s := ⟨Int.tdiv_nonneg (by omega) (by omega), Int.tdiv_le_self _ (by omega)⟩
    have w1 : IntKind.wrap .i64 (s.tdiv v) = s.tdiv v := wrap_id ⟨by omega, by omega⟩
    have w2 : IntKind.wrap .i64 (s.tdiv v + 1) = s.tdiv v + 1 := wrap_id ⟨by omega, by omega⟩
    by_cases hm : 0 < s.tmod v <;> simp [v10, k2, hv0, w1, w2, hm]
  · simp [v10, k2]

theorem fn31 (O : Calls') (N : Nat) (t s : Int) : runFn O N v31 [.d (di t), .d (di s)] [] = some (V.int .i64 (if s < 1 ∨ 1073741824 < s then 2 else if t < -1099511627776 ∨ 1099511627776 < t then 16 else 0), []) := by
  rw [runFn_eq _ _ (Nat.le_of_ble_eq_true rfl)]
  by_cases h1 : s < 1
  · simp [v31, h1]
  · by_cases h2 : 1073741824 < s
    · simp [v31, h1, h2]
    · by_cases h3 : t < -1099511627776
      · simp [v31, h1, h2, h3]
      · by_cases h4 : 1099511627776 < t <;> simp [v31, h1, h2, h3, h4]
end Go.Proofs.Ytomeaojdihfgmaa
/- The functions of BoundWindows: times, sizes, single nodes. -/
namespace Go.Proofs.Ytomeaojdihfgmaa
open Go.VM Go.Proofs.Ytomeaojdihfgmaa.Data
set_option linter.unusedVariables false
set_option linter.unusedSimpArgs false
attribute [local simp] run_seq run_cond run_block run_region run_skip run_exit run_ret runOps_nil runOps_cons stepO_plain stepO_guard seqR_normal seqR_ret seqR_exit seqR_ite condR_bool blockR_normal blockR_ret blockR_exit blockR_ite opsR_some opsR_ite regR_some regR_ite guardR_some putR_some putR_ite finR_normal finR_ret finR_ite wants runOp evalOp X.ev Env.at putE Env.keep startE binV resV mapO resOne loadV storeV newBlk Heap.blk V.cells V.isCell fillV

theorem fn43 (O : Calls') (N : Nat) (k : Int) : runFn O N v43 [.d (du k)] [] = some (V.int .i64 (if k ≤ 4 then 0 else if k ≤ 6 then 1 else 2), []) := by
  rw [runFn_eq _ _ (Nat.le_of_ble_eq_true rfl)]
  by_cases h1 : k ≤ 4
  · simp [v43, h1]
  · by_cases h2 : k ≤ 6 <;> simp [v43, h1, h2]

/-- how many parts a kind has, and the error -/
theorem fn47 (O : Calls') (N : Nat) (k : Int) (h : 0 ≤ k) : runFn O N v47 [.d (du k)] [] = some (if 1 ≤ k ∧ k ≤ 19 then .tup [V.int .i64 (if k ≤ 4 then 0 else if k ≤ 6 then 1 else 2), V.int .i64 0] else .tup [V.int .i64 0, V.int .i64 2], []) := by
  rw [runFn_eq _ _ (Nat.le_of_ble_eq_true rfl)]
  by_cases h1 : 1 ≤ k
  · by_cases h2 : k ≤ 4
    · have : k ≤ 19 := by omega
      simp [v47, h1, h2, this]
    · by_cases h5 : k = 5
      · simp [v47, h5]
      · by_cases h6 : k = 6
        · simp [v47, h6]
        · have h7 : 7 ≤ k := by omega
          have h8 : ¬ k ≤ 6 := by omega
          by_cases h9 : k ≤ 19 <;> simp [v47, h1, h2, h5, h6, h7, h8, h9]
  · have h0 : k = 0 := by omega
    simp [v47, h0]

theorem fn22 (O : Calls') (N : Nat) (t s : Int) (h31 : ∀ H, O.run 31 [.d (di t), .d (di s)] H = some (V.int .i64 (if s < 1 ∨ 1073741824 < s then 2 else if t < -1099511627776 ∨ 1099511627776 < t then 16 else 0), H)) :
    runFn O N v22 [.d (di t), .d (di s)] [] = some (if s < 1 ∨ 1073741824 < s then .tup [V.int .i64 0, V.int .i64 2] else if t < -1099511627776 ∨ 1099511627776 < t then .tup [V.int .i64 0, V.int .i64 16] else .tup [V.int .i64 (t.fdiv s), V.int .i64 0], []) := by
  rw [runFn_eq _ _ (Nat.le_of_ble_eq_true rfl)]
  by_cases h1 : s < 1 ∨ 1073741824 < s
  · simp [v22, h31, h1]
  · by_cases h2 : t < -1099511627776 ∨ 1099511627776 < t
    · simp [v22, h31, h1, h2]
    · have hs : s ≠ 0 := by omega
      have hab : (t.tdiv s).natAbs ≤ t.natAbs := by rw [Int.natAbs_tdiv]; exact Nat.div_le_self _ _
      have w1 : IntKind.wrap .i64 (t.tdiv s) = t.tdiv s := wrap_id ⟨by omega, by omega⟩
      have w2 : IntKind.wrap .i64 (t.tdiv s - 1) = t.tdiv s - 1 := wrap_id ⟨by omega, by omega⟩
      by_cases h3 : t.tmod s < 0
      · have hf : t.fdiv s = t.tdiv s - 1 := by
          have e1 := Int.mul_tdiv_add_tmod t s
          have e2 := Int.mul_fdiv_add_fmod t s
          have e3 : 0 ≤ t.fmod s := Int.fmod_nonneg_of_pos _ (by omega)
          have e4 : t.fmod s < s := Int.fmod_lt_of_pos _ (by omega)
          have e5 : -s < t.tmod s := by
            have g1 := Int.natAbs_tmod t s
            have g2 := Nat.mod_lt t.natAbs (show 0 < s.natAbs by omega)
            omega
          have e6 : s * (t.fdiv s - t.tdiv s) = t.tmod s - t.fmod s := by rw [Int.mul_sub]; omega
          have e7 : t.fdiv s - t.tdiv s = -1 := by
            have l1 : t.fdiv s - t.tdiv s < 0 := by
              rcases Int.lt_or_le (t.fdiv s - t.tdiv s) 0 with h | h
              · exact h
              · have := Int.mul_nonneg (show (0 : Int) ≤ s by omega) h; omega
            have l2 : -2 < t.fdiv s - t.tdiv s := by
              rcases Int.lt_or_le (-2) (t.fdiv s - t.tdiv s) with h | h
              · exact h
              · have := Int.mul_le_mul_of_nonneg_left h (show (0 : Int) ≤ s by omega); omega
            omega
          omega
        simp [v22, h31, h1, h2, hs, w1, w2, h3, hf]
      · have hf : t.fdiv s = t.tdiv s := by
          have e1 := Int.mul_tdiv_add_tmod t s
          have e2 := Int.mul_fdiv_add_fmod t s
          have e3 : 0 ≤ t.fmod s := Int.fmod_nonneg_of_pos _ (by omega)
          have e4 : t.fmod s < s := Int.fmod_lt_of_pos _ (by omega)
          have e5 : t.tmod s < s := Int.tmod_lt_of_pos _ (by omega)
          have e6 : s * (t.fdiv s - t.tdiv s) = t.tmod s - t.fmod s := by rw [Int.mul_sub]; omega
          have e7 : t.fdiv s - t.tdiv s = 0 := by
            have l1 : t.fdiv s - t.tdiv s < 1 := by
              rcases Int.lt_or_le (t.fdiv s - t.tdiv s) 1 with h | h
              · exact h
              · have := Int.mul_le_mul_of_nonneg_left h (show (0 : Int) ≤ s by omega); omega
            have l2 : -1 < t.fdiv s - t.tdiv s := by
              rcases Int.lt_or_le (-1) (t.fdiv s - t.tdiv s) with h | h
              · exact h
              · have := Int.mul_le_mul_of_nonneg_left h (show (0 : Int) ≤ s by omega); omega
            omega
          omega
        simp [v22, h31, h1, h2, hs, w1, h3, hf]

theorem fn8 (O : Calls') (N : Nat) (es : List (List D)) : runFn O N v8 [.d (.sl es)] [] = some (V.bool (decide (70 < es.length)), []) := by
  rw [runFn_eq _ _ (Nat.le_of_ble_eq_true rfl)]
  simp [v8]
  omega
end Go.Proofs.Ytomeaojdihfgmaa
/- The functions of BoundWindows: windows of a time, great queries, a node by itself. -/
namespace Go.Proofs.Ytomeaojdihfgmaa
open Go.VM Go.Proofs.Ytomeaojdihfgmaa.Data
set_option linter.unusedVariables false
set_option linter.unusedSimpArgs false
attribute [local simp] run_seq run_cond run_block run_region run_skip run_exit run_ret runOps_nil runOps_cons stepO_plain stepO_guard seqR_normal seqR_ret seqR_exit seqR_ite condR_bool blockR_normal blockR_ret blockR_exit blockR_ite opsR_some opsR_ite regR_some regR_ite guardR_some putR_some putR_ite finR_normal finR_ret finR_ite wants runOp evalOp X.ev Env.at putE Env.keep startE binV resV mapO resOne loadV storeV newBlk Heap.blk V.cells V.isCell fillV

def numberV (t s : Int) : V := if s < 1 ∨ 1073741824 < s then .tup [V.int .i64 0, V.int .i64 2] else if t < -1099511627776 ∨ 1099511627776 < t then .tup [V.int .i64 0, V.int .i64 16] else .tup [V.int .i64 (t.fdiv s), V.int .i64 0]
/-- the tumbling window of a time -/
def spanV (t s : Int) : V := if s < 1 ∨ 1073741824 < s then .tup [.agg [V.int .i64 0, V.int .i64 0], V.int .i64 2] else if t < -1099511627776 ∨ 1099511627776 < t then .tup [.agg [V.int .i64 0, V.int .i64 0], V.int .i64 16] else .tup [.agg [V.int .i64 (t.fdiv s * s), V.int .i64 ((t.fdiv s + 1) * s)], V.int .i64 0]

theorem fdiv_bounds {t s : Int} (hs : 1 ≤ s) (hs2 : s ≤ 1073741824) (h1 : -1099511627776 ≤ t) (h2 : t ≤ 1099511627776) : t.fdiv s * s ≤ t ∧ t < (t.fdiv s + 1) * s ∧ -1099511627777 ≤ t.fdiv s ∧ t.fdiv s ≤ 1099511627776 := by
  have e2 := Int.mul_fdiv_add_fmod t s
  have e3 : 0 ≤ t.fmod s := Int.fmod_nonneg_of_pos _ (by omega)
  have e4 : t.fmod s < s := Int.fmod_lt_of_pos _ (by omega)
  have c1 : t.fdiv s * s = s * t.fdiv s := Int.mul_comm _ _
  have c2 : (t.fdiv s + 1) * s = s * t.fdiv s + s := by rw [Int.add_mul, Int.one_mul, c1]
  refine ⟨by omega, by omega, ?_, ?_⟩
  · rcases Int.lt_or_le (t.fdiv s) (-1099511627777) with h | h
    · have := Int.mul_le_mul_of_nonneg_left (show t.fdiv s ≤ -1099511627778 by omega) (show (0 : Int) ≤ s by omega)
      have : s * -1099511627778 ≤ 1 * -1099511627778 := Int.mul_le_mul_of_nonpos_right hs (by omega)
      omega
    · exact h
  · rcases Int.lt_or_le 1099511627776 (t.fdiv s) with h | h
    · have := Int.mul_le_mul_of_nonneg_left (show 1099511627777 ≤ t.fdiv s by omega) (show (0 : Int) ≤ s by omega)
      have : (1 : Int) * 1099511627777 ≤ s * 1099511627777 := Int.mul_le_mul_of_nonneg_right hs (by omega)
      omega
    · exact h

theorem fn14 (O : Calls') (N : Nat) (t s : Int) (h22 : ∀ H, O.run 22 [.d (di t), .d (di s)] H = some (numberV t s, H)) : ∃ H1, runFn O N v14 [.d (di t), .d (di s)] [] = some (spanV t s, H1) := by
  rw [runFn_eq _ _ (Nat.le_of_ble_eq_true rfl)]
  unfold numberV at h22
  unfold spanV
  by_cases h1 : s < 1 ∨ 1073741824 < s
  · simp [v14, h22, h1]
  · by_cases h2 : t < -1099511627776 ∨ 1099511627776 < t
    · simp [v14, h22, h1, h2]
    · obtain ⟨b1, b2, b3, b4⟩ := fdiv_bounds (t := t) (s := s) (by omega) (by omega) (by omega) (by omega)
      have c2 : (t.fdiv s + 1) * s = t.fdiv s * s + s := by rw [Int.add_mul, Int.one_mul]
      have w1 : IntKind.wrap .i64 (t.fdiv s * s) = t.fdiv s * s := wrap_id ⟨by omega, by omega⟩
      have w2 : IntKind.wrap .i64 (t.fdiv s + 1) = t.fdiv s + 1 := wrap_id ⟨by omega, by omega⟩
      have w3 : IntKind.wrap .i64 ((t.fdiv s + 1) * s) = (t.fdiv s + 1) * s := wrap_id ⟨by omega, by omega⟩
      simp [v14, h22, h1, h2, w1, w2, w3]

def qv (q : Qy) : V := .agg (q.enc.map .d)
def greatQ (q : Qy) : Bool := decide (70 < q.arg.length) || decide (70 < q.where'.length) || decide (10 < q.sources.length)

theorem fn4 (O : Calls') (N : Nat) (q : Qy) (h8 : ∀ (l : List Nd) H, O.run 8 [.d (encs l)] H = some (V.bool (decide (70 < l.length)), H)) : ∃ H1, runFn O N v4 [qv q] [] = some (V.bool (greatQ q), H1) := by
  rw [runFn_eq _ _ (Nat.le_of_ble_eq_true rfl)]
  unfold greatQ qv Qy.enc
  by_cases h1 : 70 < q.arg.length
  · simp [v4, h8, h1]
  · by_cases h2 : 70 < q.where'.length
    · simp [v4, h8, h1, h2]
    · simp [v4, h8, h1, h2, ints]
      omega

/-- how many windows a record may have: the reference's way -/
def winsR (k s v : Int) : Int := if k = 2 then (s + v - 1).tdiv v else 1
theorem fn12 (O : Calls') (N : Nat) (q : Qy) (h : okWin q.kind q.size q.every) : ∃ H1, runFn O N v12 [qv q] [] = some (V.int .i64 (winsR q.kind q.size q.every), H1) := by
  rw [runFn_eq _ _ (Nat.le_of_ble_eq_true rfl)]
  unfold okWin at h
  unfold winsR qv Qy.enc
  by_cases k2 : q.kind = 2
  · rw [if_pos k2] at h
    obtain ⟨h1, h2, h3, h4, h5⟩ := h
    have hv0 : q.every ≠ 0 := by omega
    have w1 : IntKind.wrap .i64 (q.size + q.every) = q.size + q.every := wrap_id ⟨by omega, by omega⟩
    have w2 : IntKind.wrap .i64 (q.size + q.every - 1) = q.size + q.every - 1 := wrap_id ⟨by omega, by omega⟩
    have hd : 0 ≤ (q.size + q.every - 1).tdiv q.every ∧ (q.size + q.every - 1).tdiv q.every ≤ q.size + q.every - 1 := ⟨Int.tdiv_nonneg (by omega) (by omega), Int.tdiv_le_self _ (by omega)⟩
    have w3 : IntKind.wrap .i64 ((q.size + q.every - 1).tdiv q.every) = (q.size + q.every - 1).tdiv q.every := wrap_id ⟨by omega, by omega⟩
    simp [v12, k2, hv0, w1, w2, w3]
  · simp [v12, k2]

/-- a node by itself is right, with parts that are told -/
def rightN (x : Nd) (a b : Int) : Prop := 1 ≤ x.kind ∧ x.kind ≤ 19 ∧ 0 ≤ x.n ∧ (x.n = 0 ∨ x.kind = 1) ∧ 0 ≤ x.at' ∧ x.at' ≤ 400 ∧ x.a = a ∧ x.b = b
instance (x : Nd) (a b : Int) : Decidable (rightN x a b) := by unfold rightN; infer_instance
theorem fn44 (O : Calls') (N : Nat) (x : Nd) (a b : Int) : ∃ H1, runFn O N v44 [.agg (x.enc.map .d), .d (di a), .d (di b)] [] = some (V.bool (decide (rightN x a b)), H1) := by
  rw [runFn_eq _ _ (Nat.le_of_ble_eq_true rfl)]
  unfold rightN Nd.enc
  by_cases h1 : 1 ≤ x.kind
  · by_cases h2 : x.kind ≤ 19
    · by_cases h3 : 0 ≤ x.n
      · by_cases h4 : x.n = 0
        · by_cases h6 : 0 ≤ x.at'
          · by_cases h7 : x.at' ≤ 400
            · by_cases h8 : x.a = a
              · by_cases h9 : x.b = b <;> simp [v44, h1, h2, h3, h4, h6, h7, h8, h9]
              · simp [v44, h1, h2, h3, h4, h6, h7, h8]
            · simp [v44, h1, h2, h3, h4, h6, h7]
          · simp [v44, h1, h2, h3, h4, h6]
        · by_cases h5 : x.kind = 1
          · by_cases h6 : 0 ≤ x.at'
            · by_cases h7 : x.at' ≤ 400
              · by_cases h8 : x.a = a
                · by_cases h9 : x.b = b <;> simp [v44, h1, h2, h3, h4, h5, h6, h7, h8, h9]
                · simp [v44, h1, h2, h3, h4, h5, h6, h7, h8]
              · simp [v44, h1, h2, h3, h4, h5, h6, h7]
            · simp [v44, h1, h2, h3, h4, h5, h6]
          · simp [v44, h1, h2, h3, h4, h5]
      · simp [v44, h1, h2, h3]
    · simp [v44, h1, h2]
  · simp [v44, h1]
end Go.Proofs.Ytomeaojdihfgmaa
/- Plain laws of BoundWindows: how many windows. -/
namespace Go.Proofs.Ytomeaojdihfgmaa
set_option linter.unusedVariables false
set_option linter.unusedSimpArgs false
open Go.VM Go.Proofs.Ytomeaojdihfgmaa.Data

theorem wins_eq {k s v : Int} (h : okWin k s v) : wins k s v = winsR k s v := by
  unfold okWin at h
  unfold wins winsR
  by_cases k2 : k = 2
  · rw [if_pos k2] at h
    rw [if_pos k2, if_pos k2]
    obtain ⟨h1, h2, h3, h4, h5⟩ := h
    rw [Int.tmod_eq_emod_of_nonneg (by omega), Int.tdiv_eq_ediv_of_nonneg (by omega), Int.tdiv_eq_ediv_of_nonneg (by omega)]
    have e := Int.mul_ediv_add_emod s v
    have r0 := Int.emod_nonneg s (show v ≠ 0 by omega)
    have r1 := Int.emod_lt_of_pos s (show 0 < v by omega)
    generalize s / v = q at *
    generalize s % v = r at *
    have hm : v * (q + 1) = v * q + v := by rw [Int.mul_add, Int.mul_one]
    by_cases hr : 0 < r
    · rw [if_pos hr]
      have e2 : s + v - 1 = (r - 1) + v * (q + 1) := by omega
      rw [e2, Int.add_mul_ediv_left _ _ (by omega), Int.ediv_eq_zero_of_lt (by omega) (by omega)]
      omega
    · rw [if_neg hr]
      have e2 : s + v - 1 = (v - 1) + v * q := by omega
      rw [e2, Int.add_mul_ediv_left _ _ (by omega), Int.ediv_eq_zero_of_lt (by omega) (by omega)]
      omega
  · rw [if_neg k2, if_neg k2]
end Go.Proofs.Ytomeaojdihfgmaa
