/- The functions of BoundWindows: the clauses of a query (the reference). -/
import Derived.Test.YtomeaojdihfgmaaKc
namespace Go.Proofs.Ytomeaojdihfgmaa
open Go.VM Go.Proofs.Ytomeaojdihfgmaa.Data
set_option linter.unusedVariables false
set_option linter.unusedSimpArgs false
attribute [local simp] run_seq run_cond run_block run_region run_skip run_exit run_ret runOps_nil runOps_cons stepO_plain stepO_guard seqR_normal seqR_ret seqR_exit seqR_ite condR_bool blockR_normal blockR_ret blockR_exit blockR_ite opsR_some opsR_ite regR_some regR_ite guardR_some putR_some putR_ite finR_normal finR_ret finR_ite wants runOp evalOp X.ev Env.at putE Env.keep startE binV unV resV mapO resOne loadV storeV newBlk Heap.blk V.cells V.isCell fillV V.nat? run_loop

/-- the error of a query's clauses, by the errors of its expressions and sources -/
def clErr (q : Qy) (eA eW eS : Int) : Int :=
  if q.agg < 1 ∨ 4 < q.agg ∨ q.late < 1 ∨ 2 < q.late then 8 else if q.agg = 1 ∧ 0 < q.arg.length then 8 else if q.agg ≠ 1 ∧ eA ≠ 0 then eA else if 0 < q.where'.length ∧ eW ≠ 0 then eW
  else if eS ≠ 0 then eS else if okWin q.kind q.size q.every ∧ ¬ (q.join = true ∧ q.kind ≠ 1) then 0 else 8

set_option maxHeartbeats 4000000 in
theorem fn20 (O : Calls') (N : Nat) (q : Qy) (eA eW eS : Int) (hA : ∀ H, O.run 27 [.d (encs q.arg)] H = some (V.int .i64 eA, H)) (hW : ∀ H, O.run 27 [.d (encs q.where')] H = some (V.int .i64 eW, H))
    (hS : ∀ H, O.run 28 [.d (ints q.sources), .d (db q.join)] H = some (V.int .i64 eS, H)) (hF : ∀ H, O.run 29 [win q.kind q.size q.every] H = some (V.bool (decide (okWin q.kind q.size q.every)), H)) :
    ∃ H1, runFn O N v20 [qv q] [] = some (V.int .i64 (clErr q eA eW eS), H1) := by
  rw [runFn_eq _ _ (Nat.le_of_ble_eq_true rfl)]
  obtain ⟨agg, arg, src, join, wh, kind, size, every, byKey, late⟩ := q
  simp only [clErr, qv, Qy.enc, encs, ints, win, List.map_cons, List.map_nil] at *
  by_cases h1 : agg < 1
  · simp [v20, h1]
  by_cases h2 : 4 < agg
  · simp [v20, h1, h2]
  by_cases h3 : late < 1
  · simp [v20, h1, h2, h3]
  by_cases h4 : 2 < late
  · simp [v20, h1, h2, h3, h4]
  by_cases h5 : agg = 1 ∧ 0 < arg.length
  · have h5a := h5.1
    have h5b := h5.2
    simp [v20, h1, h2, h3, h4, h5a, h5b]
  by_cases h6 : agg ≠ 1 ∧ eA ≠ 0
  · have h6a := h6.1
    have h6b := h6.2
    simp [v20, h1, h2, h3, h4, h6a, h6b, hA]
  by_cases h7 : 0 < wh.length ∧ eW ≠ 0
  · have h7a := h7.1
    have h7b := h7.2
    by_cases ha : agg = 1
    · have hl : arg.length = 0 := by omega
      simp [v20, h1, h2, h3, h4, ha, hl, h7a, h7b, hW]
    · have he : eA = 0 := by omega
      simp [v20, h1, h2, h3, h4, ha, he, h7a, h7b, hW, hA]
  have h5' : agg = 1 → ¬ 0 < arg.length := fun h h' => h5 ⟨h, h'⟩
  have h6' : ¬ agg = 1 → eA = 0 := fun h => by omega
  have h7' : 0 < wh.length → eW = 0 := fun h => by omega
  clear h5 h6 h7
  by_cases ha : agg = 1
  · have hl := h5' ha
    clear h5' h6'
    by_cases hw : 0 < wh.length
    · have hwe := h7' hw
      clear h7'
      by_cases h8 : eS = 0
      · by_cases hk : okWin kind size every <;> rcases Decidable.em (kind = 1) with rfl | hkk <;> cases join <;> simp [v20, *]
      · simp [v20, *]
    · clear h7'
      by_cases h8 : eS = 0
      · by_cases hk : okWin kind size every <;> rcases Decidable.em (kind = 1) with rfl | hkk <;> cases join <;> simp [v20, *]
      · simp [v20, *]
  · have he := h6' ha
    clear h5' h6'
    by_cases hw : 0 < wh.length
    · have hwe := h7' hw
      clear h7'
      by_cases h8 : eS = 0
      · by_cases hk : okWin kind size every <;> rcases Decidable.em (kind = 1) with rfl | hkk <;> cases join <;> simp [v20, *]
      · simp [v20, *]
    · clear h7'
      by_cases h8 : eS = 0
      · by_cases hk : okWin kind size every <;> rcases Decidable.em (kind = 1) with rfl | hkk <;> cases join <;> simp [v20, *]
      · simp [v20, *]
end Go.Proofs.Ytomeaojdihfgmaa
/- The functions of BoundWindows: the clauses of a query (the program). -/
namespace Go.Proofs.Ytomeaojdihfgmaa
open Go.VM Go.Proofs.Ytomeaojdihfgmaa.Data
set_option linter.unusedVariables false
set_option linter.unusedSimpArgs false
attribute [local simp] run_seq run_cond run_block run_region run_skip run_exit run_ret runOps_nil runOps_cons stepO_plain stepO_guard seqR_normal seqR_ret seqR_exit seqR_ite condR_bool blockR_normal blockR_ret blockR_exit blockR_ite opsR_some opsR_ite regR_some regR_ite guardR_some putR_some putR_ite finR_normal finR_ret finR_ite wants runOp evalOp X.ev Env.at putE Env.keep startE binV unV resV mapO resOne loadV storeV newBlk Heap.blk V.cells V.isCell fillV V.nat? run_loop

set_option maxHeartbeats 4000000 in
theorem fn16 (O : Calls') (N : Nat) (q : Qy) (eA eW eS : Int) (hA : ∀ H, O.run 24 [.d (encs q.arg)] H = some (V.int .i64 eA, H)) (hW : ∀ H, O.run 24 [.d (encs q.where')] H = some (V.int .i64 eW, H))
    (hS : ∀ H, O.run 25 [.d (ints q.sources), .d (db q.join)] H = some (V.int .i64 eS, H)) (hF : ∀ H, O.run 13 [win q.kind q.size q.every] H = some (V.int .i64 (if okWin q.kind q.size q.every then 0 else 8), H)) :
    ∃ H1, runFn O N v16 [qv q] [] = some (V.int .i64 (clErr q eA eW eS), H1) := by
  rw [runFn_eq _ _ (Nat.le_of_ble_eq_true rfl)]
  obtain ⟨agg, arg, src, join, wh, kind, size, every, byKey, late⟩ := q
  simp only [clErr, qv, Qy.enc, encs, ints, win, List.map_cons, List.map_nil] at *
  by_cases h1 : agg < 1
  · simp [v16, h1]
  by_cases h2 : 4 < agg
  · simp [v16, h1, h2]
  by_cases h3 : late < 1
  · have l1 : ¬ late = 1 := by omega
    have l2 : ¬ late = 2 := by omega
    simp [v16, h1, h2, h3, l1, l2]
  by_cases h4 : 2 < late
  · have l1 : ¬ late = 1 := by omega
    have l2 : ¬ late = 2 := by omega
    simp [v16, h1, h2, h3, h4, l1, l2]
  have hl12 : late = 1 ∨ late = 2 := by omega
  rcases hl12 with rfl | rfl
  all_goals
    by_cases h5 : agg = 1 ∧ 0 < arg.length
    · have h5a := h5.1
      have h5b := h5.2
      simp [v16, h1, h2, h3, h4, h5a, h5b]
    by_cases h6 : agg ≠ 1 ∧ eA ≠ 0
    · have h6a := h6.1
      have h6b := h6.2
      simp [v16, h1, h2, h3, h4, h6a, h6b, hA]
    by_cases h7 : 0 < wh.length ∧ eW ≠ 0
    · have h7a := h7.1
      have h7b := h7.2
      by_cases ha : agg = 1
      · have hl : arg.length = 0 := by omega
        simp [v16, h1, h2, h3, h4, ha, hl, h7a, h7b, hW]
      · have he : eA = 0 := by omega
        simp [v16, h1, h2, h3, h4, ha, he, h7a, h7b, hW, hA]
    have h5' : agg = 1 → ¬ 0 < arg.length := fun h h' => h5 ⟨h, h'⟩
    have h6' : ¬ agg = 1 → eA = 0 := fun h => by omega
    have h7' : 0 < wh.length → eW = 0 := fun h => by omega
    clear h5 h6 h7
    by_cases ha : agg = 1
    · have hl := h5' ha
      clear h5' h6'
      by_cases hw : 0 < wh.length
      · have hwe := h7' hw
        clear h7'
        by_cases h8 : eS = 0
        · by_cases hk : okWin kind size every <;> rcases Decidable.em (kind = 1) with rfl | hkk <;> cases join <;> simp [v16, *]
        · simp [v16, *]
      · clear h7'
        by_cases h8 : eS = 0
        · by_cases hk : okWin kind size every <;> rcases Decidable.em (kind = 1) with rfl | hkk <;> cases join <;> simp [v16, *]
        · simp [v16, *]
    · have he := h6' ha
      clear h5' h6'
      by_cases hw : 0 < wh.length
      · have hwe := h7' hw
        clear h7'
        by_cases h8 : eS = 0
        · by_cases hk : okWin kind size every <;> rcases Decidable.em (kind = 1) with rfl | hkk <;> cases join <;> simp [v16, *]
        · simp [v16, *]
      · clear h7'
        by_cases h8 : eS = 0
        · by_cases hk : okWin kind size every <;> rcases Decidable.em (kind = 1) with rfl | hkk <;> cases join <;> simp [v16, *]
        · simp [v16, *]
end Go.Proofs.Ytomeaojdihfgmaa
/- The functions of BoundWindows: where a kind is wrong (the reference). -/
namespace Go.Proofs.Ytomeaojdihfgmaa
open Go.VM Go.Proofs.Ytomeaojdihfgmaa.Data
set_option linter.unusedVariables false
set_option linter.unusedSimpArgs false
attribute [local simp] run_seq run_cond run_block run_region run_skip run_exit run_ret runOps_nil runOps_cons stepO_plain stepO_guard seqR_normal seqR_ret seqR_exit seqR_ite condR_bool blockR_normal blockR_ret blockR_exit blockR_ite opsR_some opsR_ite regR_some regR_ite guardR_some putR_some putR_ite finR_normal finR_ret finR_ite wants runOp evalOp X.ev Env.at putE Env.keep startE binV unV resV mapO resOne loadV storeV newBlk Heap.blk V.cells V.isCell fillV V.nat? run_loop

/-- where the first wish is not met, and the error -/
def wishV (la lw : Nat) (ta tw eA eW : Int) : V := if 0 < la ∧ eA ≠ 0 then .tup [V.int .i64 ta, V.int .i64 eA] else if 0 < lw ∧ eW ≠ 0 then .tup [V.int .i64 tw, V.int .i64 eW] else .tup [V.int .i64 0, V.int .i64 0]

theorem fn21 (O : Calls') (N : Nat) (q : Qy) (aA aW : Nat) (xA xW : Nd) (eA eW : Int) (hA : 0 < q.arg.length → ∀ H, O.run 30 [.d (encs q.arg), .d (db false)] H = some (.tup [V.int .i64 aA, V.int .i64 eA], H))
    (hW : 0 < q.where'.length → ∀ H, O.run 30 [.d (encs q.where'), .d (db true)] H = some (.tup [V.int .i64 aW, V.int .i64 eW], H)) (gA : 0 < q.arg.length → eA ≠ 0 → q.arg[aA]? = some xA) (gW : 0 < q.where'.length → eW ≠ 0 → q.where'[aW]? = some xW) :
    ∃ H1, runFn O N v21 [qv q] [] = some (wishV q.arg.length q.where'.length xA.at' xW.at' eA eW, H1) := by
  rw [runFn_eq _ _ (Nat.le_of_ble_eq_true rfl)]
  obtain ⟨agg, arg, src, join, wh, kind, size, every, byKey, late⟩ := q
  simp only [wishV, qv, Qy.enc, encs, ints, win, List.map_cons, List.map_nil] at *
  by_cases h1 : 0 < arg.length
  · have hA' := hA h1
    by_cases h2 : eA = 0
    · by_cases h3 : 0 < wh.length
      · have hW' := hW h3
        by_cases h4 : eW = 0
        · simp [v21, h1, h2, h3, h4, hA', hW']
        · have g := gW h3 h4
          simp [v21, h1, h2, h3, h4, hA', hW', g, Nd.enc]
      · simp [v21, h1, h2, h3, hA']
    · have g := gA h1 h2
      simp [v21, h1, h2, hA', g, Nd.enc]
  · by_cases h3 : 0 < wh.length
    · have hW' := hW h3
      by_cases h4 : eW = 0
      · simp [v21, h1, h3, h4, hW']
      · have g := gW h3 h4
        simp [v21, h1, h3, h4, hW', g, Nd.enc]
    · simp [v21, h1, h3]
end Go.Proofs.Ytomeaojdihfgmaa
