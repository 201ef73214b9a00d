/- The functions of BoundWindows: the first node that does not fit (the reference). -/
import Derived.Test.YtomeaojdihfgmaaKb
namespace Go.Proofs.Ytomeaojdihfgmaa
open Go.VM Go.Proofs.Ytomeaojdihfgmaa.Data
set_option linter.unusedVariables false
set_option linter.unusedSimpArgs false
attribute [local simp] run_seq run_cond run_block run_region run_skip run_exit run_ret runOps_nil runOps_cons stepO_plain stepO_guard seqR_normal seqR_ret seqR_exit seqR_ite condR_bool blockR_normal blockR_ret blockR_exit blockR_ite opsR_some opsR_ite regR_some regR_ite guardR_some putR_some putR_ite finR_normal finR_ret finR_ite wants runOp evalOp X.ev Env.at putE Env.keep startE binV unV resV mapO resOne loadV storeV newBlk Heap.blk V.cells V.isCell fillV V.nat? run_loop

/-- the first of k numbers from i on at which f is false, or the one behind them -/
def firstBad (f : Nat → Bool) : Nat → Nat → Nat
  | 0, i => i
  | k + 1, i => if f i then firstBad f k (i + 1) else i

def E45 (l : List Nd) (i : Nat) (j : Nat → V) : Env := [(0, .d (encs l)), (2, V.int .i64 0), (3, V.int .i64 i), (7, j 7), (13, j 13)]

theorem loop45 (O : Calls') (N : Nat) (l : List Nd) (f : Nat → Bool) (h50 : ∀ i, i < l.length → ∀ H, O.run 50 [.d (encs l), .d (di i)] H = some (V.bool (f i), H)) (hl : l.length < 1000) : ∀ (k i m : Nat) (j : Nat → V), i + k = l.length →
    (firstBad f k i = l.length → ∃ j', runLoop (run O N v45L0) (k + 1 + m) (E45 l i j) [] = some (.exit 0, E45 l l.length j', [])) ∧
    (firstBad f k i ≠ l.length → ∃ E, runLoop (run O N v45L0) (k + 1 + m) (E45 l i j) [] = some (.ret, E, []) ∧ E.at 2 = V.int .i64 (firstBad f k i : Nat))
  | 0, i, m, j, hk => by
    have hi : i = l.length := by omega
    subst hi
    rw [show 0 + 1 + m = m + 1 from by omega, runLoop_step]
    refine ⟨fun _ => ⟨fun s => if s = 7 then V.bool false else j s, ?_⟩, fun h => absurd rfl h⟩
    simp [v45L0, E45, encs, loopR_exit]
  | k + 1, i, m, j, hk => by
    have hi : i < l.length := by omega
    have hlt : ((i : Int) < (l.length : Int)) := by omega
    have hw := wrap_small (i := i) (by omega)
    have hf := h50 i hi
    simp only [encs] at hf
    rw [show k + 1 + 1 + m = (k + 1 + m) + 1 from by omega, runLoop_step]
    by_cases h1 : f i = true
    · obtain ⟨ih1, ih2⟩ := loop45 O N l f h50 hl k (i + 1) m (fun s => if s = 7 then V.bool true else if s = 13 then V.bool false else j s) (by omega)
      have hstep : run O N v45L0 (E45 l i j) [] = some (.normal, E45 l (i + 1) (fun s => if s = 7 then V.bool true else if s = 13 then V.bool false else j s), []) := by
        simp [v45L0, E45, encs, hlt, hi, hf, h1, hw]
      rw [hstep, loopR_normal]
      simp only [firstBad, h1, if_true]
      exact ⟨ih1, ih2⟩
    · have h1' : f i = false := by simpa using h1
      simp only [firstBad, h1', Bool.false_eq_true, if_false]
      refine ⟨fun h => by omega, fun _ => ?_⟩
      simp [v45L0, E45, encs, loopR_ret, hlt, hi, hf, h1']

theorem fn45 (O : Calls') (N : Nat) (hN : 1001 ≤ N) (l : List Nd) (f : Nat → Bool) (h50 : ∀ i, i < l.length → ∀ H, O.run 50 [.d (encs l), .d (di i)] H = some (V.bool (f i), H)) (hl : l.length < 1000) :
    runFn O N v45 [.d (encs l)] [] = some (V.int .i64 (firstBad f l.length 0 : Nat), []) := by
  rw [runFn_eq _ _ (Nat.le_of_ble_eq_true rfl)]
  obtain ⟨l1, l2⟩ := loop45 O N l f h50 hl l.length 0 (N - (l.length + 1)) (fun s => .undef) (by omega)
  rw [show l.length + 1 + (N - (l.length + 1)) = N from by omega] at l1 l2
  by_cases h : firstBad f l.length 0 = l.length
  · obtain ⟨j', e1⟩ := l1 h
    simp [E45, encs] at e1
    simp [v45, encs, e1, h]
  · obtain ⟨E, e1, e2⟩ := l2 h
    simp [E45, encs] at e1
    simp [v45, encs, e1, e2]
end Go.Proofs.Ytomeaojdihfgmaa
/- The functions of BoundWindows: a node fits (the reference). -/
namespace Go.Proofs.Ytomeaojdihfgmaa
open Go.VM Go.Proofs.Ytomeaojdihfgmaa.Data
set_option linter.unusedVariables false
set_option linter.unusedSimpArgs false
attribute [local simp] run_seq run_cond run_block run_region run_skip run_exit run_ret runOps_nil runOps_cons stepO_plain stepO_guard seqR_normal seqR_ret seqR_exit seqR_ite condR_bool blockR_normal blockR_ret blockR_exit blockR_ite opsR_some opsR_ite regR_some regR_ite guardR_some putR_some putR_ite finR_normal finR_ret finR_ite wants runOp evalOp X.ev Env.at putE Env.keep startE binV unV resV mapO resOne loadV storeV newBlk Heap.blk V.cells V.isCell fillV V.nat? run_loop run_regionD runDraw footO readsOp writesOp touchOp wtouchOp touchV inOrder meets

def gives (k : Int) : Bool := decide (k = 6 ∨ 12 ≤ k)
def fitsK (k : Int) (a b : Bool) : Bool :=
  if k ≤ 4 then true else if k = 5 then !a else if k = 6 then a else if k = 16 ∨ k = 17 then a == b else if 18 ≤ k then a && b else !a && !b

theorem fn50 (O : Calls') (N : Nat) (h46 : ∀ k H, O.run 46 [.d (du k)] H = some (V.bool (gives k), H)) (hr : ∀ k H, O.reads 46 [.d (du k)] H = []) (hw : ∀ k H, O.writes 46 [.d (du k)] H = []) (l : List Nd) (i a b : Nat) (hi : i < l.length) (ha : a < l.length) (hb : b < l.length) (ea : l[i].a = a) (eb : l[i].b = b) :
    ∃ H1, runFn O N v50 [.d (encs l), .d (di i)] [] = some (V.bool (fitsK l[i].kind (gives l[a].kind) (gives l[b].kind)), H1) := by
  rw [runFn_eq _ _ (Nat.le_of_ble_eq_true rfl)]
  have e1 : (l.map Nd.enc)[i]? = some (l[i].enc) := by simp [hi]
  have e2 : (l.map Nd.enc)[a]? = some (l[a].enc) := by simp [ha]
  have e3 : (l.map Nd.enc)[b]? = some (l[b].enc) := by simp [hb]
  generalize hx : l[i] = x at *
  generalize hy : l[a] = y at *
  generalize hz : l[b] = z at *
  obtain ⟨k, n, xa, xb, xt⟩ := x
  simp only at ea eb
  subst ea; subst eb
  simp only [Nd.enc] at e1 e2 e3
  unfold fitsK
  by_cases k4 : k ≤ 4
  · simp [v50, encs, e1, e2, e3, h46, hr, hw, k4]
  · by_cases k5 : k = 5
    · simp [v50, encs, e1, e2, e3, h46, hr, hw, k4, k5]
    · by_cases k6 : k = 6
      · simp [v50, encs, e1, e2, e3, h46, hr, hw, k4, k5, k6]
      · by_cases k16 : k = 16
        · simp [v50, encs, e1, e2, e3, h46, hr, hw, k4, k5, k6, k16]
        · by_cases k17 : k = 17
          · simp [v50, encs, e1, e2, e3, h46, hr, hw, k4, k5, k6, k16, k17]
          · by_cases k18 : 18 ≤ k
            · cases hga : gives y.kind <;> simp [v50, encs, e1, e2, e3, h46, hr, hw, k4, k5, k6, k16, k17, k18, hga]
            · cases hga : gives y.kind <;> simp [v50, encs, e1, e2, e3, h46, hr, hw, k4, k5, k6, k16, k17, k18, hga]
end Go.Proofs.Ytomeaojdihfgmaa
/- The functions of BoundWindows: kinds asked for, by what is told of an expression. -/
namespace Go.Proofs.Ytomeaojdihfgmaa
open Go.VM Go.Proofs.Ytomeaojdihfgmaa.Data
set_option linter.unusedVariables false
set_option linter.unusedSimpArgs false
attribute [local simp] run_seq run_cond run_block run_region run_skip run_exit run_ret runOps_nil runOps_cons stepO_plain stepO_guard seqR_normal seqR_ret seqR_exit seqR_ite condR_bool blockR_normal blockR_ret blockR_exit blockR_ite opsR_some opsR_ite regR_some regR_ite guardR_some putR_some putR_ite finR_normal finR_ret finR_ite wants runOp evalOp X.ev Env.at putE Env.keep startE binV unV resV mapO resOne loadV storeV newBlk Heap.blk V.cells V.isCell fillV V.nat? run_loop

/-- whether an expression is a truth value, where it is told, the error -/
def ofV (t : Bool) (at' e : Int) : V := .tup [V.bool t, V.int .i64 at', V.int .i64 e]
/-- what asking for a kind tells -/
def wantV (want t : Bool) (at' e : Int) : V := .tup [V.int .i64 at', V.int .i64 (if e = 0 ∧ t ≠ want then 42 else e)]

theorem fn30 (O : Calls') (N : Nat) (l : List Nd) (want t : Bool) (at' e : Int) (h39 : ∀ H, O.run 39 [.d (encs l)] H = some (ofV t at' e, H)) : runFn O N v30 [.d (encs l), .d (db want)] [] = some (wantV want t at' e, []) := by
  rw [runFn_eq _ _ (Nat.le_of_ble_eq_true rfl)]
  unfold ofV at h39
  unfold wantV
  by_cases h : e = 0
  · cases t <;> cases want <;> simp [v30, h39, h]
  · simp [v30, h39, h]
theorem fn26 (O : Calls') (N : Nat) (l : List Nd) (want t : Bool) (at' e : Int) (h37 : ∀ H, O.run 37 [.d (encs l)] H = some (ofV t at' e, H)) : runFn O N v26 [.d (encs l), .d (db want)] [] = some (wantV want t at' e, []) := by
  rw [runFn_eq _ _ (Nat.le_of_ble_eq_true rfl)]
  unfold ofV at h37
  unfold wantV
  by_cases h : e = 0
  · cases t <;> cases want <;> simp [v26, h37, h]
  · simp [v26, h37, h]
theorem fn18 (O : Calls') (N : Nat) (l : List Nd) (a b : Int) (h26 : ∀ H, O.run 26 [.d (encs l), .d (db false)] H = some (.tup [V.int .i64 a, V.int .i64 b], H)) : runFn O N v18 [.d (encs l)] [] = some (.tup [V.int .i64 a, V.int .i64 b], []) := by
  rw [runFn_eq _ _ (Nat.le_of_ble_eq_true rfl)]
  simp [v18, h26]
theorem fn19 (O : Calls') (N : Nat) (l : List Nd) (a b : Int) (h26 : ∀ H, O.run 26 [.d (encs l), .d (db true)] H = some (.tup [V.int .i64 a, V.int .i64 b], H)) : runFn O N v19 [.d (encs l)] [] = some (.tup [V.int .i64 a, V.int .i64 b], []) := by
  rw [runFn_eq _ _ (Nat.le_of_ble_eq_true rfl)]
  simp [v19, h26]

/-- the reference's way: the error of the nodes, the first one that does not fit, or what the last one gives -/
theorem fn39 (O : Calls') (N : Nat) (l : List Nd) (e : Int) (w : Nat) (hl : l.length < 1000) (h27 : ∀ H, O.run 27 [.d (encs l)] H = some (V.int .i64 e, H)) (h45 : e = 0 → ∀ H, O.run 45 [.d (encs l)] H = some (V.int .i64 w, H))
    (hpos : e = 0 → 0 < l.length) (h46 : ∀ k H, O.run 46 [.d (du k)] H = some (V.bool (gives k), H)) :
    runFn O N v39 [.d (encs l)] [] = some (if e ≠ 0 then ofV false 0 e else if w < l.length then ofV false w 42 else ofV (gives ((l.getLast?.map Nd.kind).getD 0)) (l.length - 1 : Int) 0, []) := by
  rw [runFn_eq _ _ (Nat.le_of_ble_eq_true rfl)]
  unfold ofV
  by_cases h : e = 0
  · have h45' := h45 h
    have hp := hpos h
    by_cases hw : w < l.length
    · have hw' : ((w : Int) < (l.length : Int)) := by omega
      simp [encs] at h27 h45'
      simp [v39, encs, h27, h45', h, hw, hw']
    · have hw' : ¬ ((w : Int) < (l.length : Int)) := by omega
      have hwr : IntKind.wrap .i64 ((l.length : Int) - 1) = (l.length : Int) - 1 := wrap_id ⟨by omega, by omega⟩
      have hge : (0 : Int) ≤ (l.length : Int) - 1 := by omega
      have hge2 : (1 : Int) ≤ (l.length : Int) := by omega
      have hge3 : 1 ≤ l.length := by omega
      have hnat : ((l.length : Int) - 1).toNat = l.length - 1 := by omega
      have hlast : (l.map Nd.enc)[l.length - 1]? = some ((l[l.length - 1]'(by omega)).enc) := by simp [show l.length - 1 < l.length by omega]
      have hgl : l.getLast? = some (l[l.length - 1]'(by omega)) := by rw [List.getLast?_eq_getElem?]; exact List.getElem?_eq_getElem _
      simp only [Nd.enc] at hlast
      rw [hgl]
      simp [encs] at h27 h45'
      simp only [encs, List.getElem?_map] at hlast
      simp [v39, encs, h27, h45', h, hw, hw', hwr, hge, hge2, hge3, hp, hnat, h46, show l.length - 1 < l.length by omega, Nd.enc]
  · simp [encs] at h27
    simp [v39, encs, h27, h]
end Go.Proofs.Ytomeaojdihfgmaa
/- The functions of BoundWindows: the error of an expression, by what is told of its nodes. -/
namespace Go.Proofs.Ytomeaojdihfgmaa
open Go.VM Go.Proofs.Ytomeaojdihfgmaa.Data
set_option linter.unusedVariables false
set_option linter.unusedSimpArgs false
attribute [local simp] run_seq run_cond run_block run_region run_skip run_exit run_ret runOps_nil runOps_cons stepO_plain stepO_guard seqR_normal seqR_ret seqR_exit seqR_ite condR_bool blockR_normal blockR_ret blockR_exit blockR_ite opsR_some opsR_ite regR_some regR_ite guardR_some putR_some putR_ite finR_normal finR_ret finR_ite wants runOp evalOp X.ev Env.at putE Env.keep startE binV unV resV mapO resOne loadV storeV newBlk Heap.blk V.cells V.isCell fillV V.nat? run_loop

/-- the error of n nodes that are right or not, of a depth -/
def exprErr (n : Nat) (ok : Bool) (d : Int) : Int := if 60 < n then 4 else if ok = false then 8 else if 20 < d then 34 else 0

theorem fn27 (O : Calls') (N : Nat) (l : List Nd) (sz dp : List Int) (ok : Bool) (d : Int) (h38 : l.length ≤ 60 → ∀ H, O.run 38 [.d (encs l)] H = some (.tup [.d (ints sz), .d (ints dp), V.bool ok], H))
    (hd : l.length ≤ 60 → ok = true → 0 < l.length ∧ dp[l.length - 1]? = some d) : runFn O N v27 [.d (encs l)] [] = some (V.int .i64 (exprErr l.length ok d), []) := by
  rw [runFn_eq _ _ (Nat.le_of_ble_eq_true rfl)]
  unfold exprErr
  by_cases h : 60 < l.length
  · have : ((60 : Int) < (l.length : Int)) := by omega
    simp [v27, encs, h, this]
  · have h' : ¬ ((60 : Int) < (l.length : Int)) := by omega
    have h3 := h38 (by omega)
    simp only [encs, ints] at h3
    cases ok with
    | false => simp [v27, encs, h, h', h3]
    | true =>
      obtain ⟨hp, hg⟩ := hd (by omega) rfl
      have hwr : IntKind.wrap .i64 ((l.length : Int) - 1) = (l.length : Int) - 1 := wrap_id ⟨by omega, by omega⟩
      have hge2 : (1 : Int) ≤ (l.length : Int) := by omega
      have hge3 : 1 ≤ l.length := by omega
      have hnat : ((l.length : Int) - 1).toNat = l.length - 1 := by omega
      by_cases h20 : 20 < d <;> simp [v27, encs, h, h', h3, hwr, hge2, hge3, hp, hnat, hg, h20]

theorem fn24 (O : Calls') (N : Nat) (l : List Nd) (x : V) (e : Int) (h33 : ∀ H, O.run 33 [.d (encs l)] H = some (.tup [x, V.int .i64 e], H)) : runFn O N v24 [.d (encs l)] [] = some (V.int .i64 e, []) := by
  rw [runFn_eq _ _ (Nat.le_of_ble_eq_true rfl)]
  simp only [encs] at h33
  simp [v24, encs, h33]

/-- what is told of nodes: index, size, depth -/
def tops (l : List (Int × Int × Int)) : D := .sl (l.map fun t => [di t.1, di t.2.1, di t.2.2])
theorem fn33 (O : Calls') (N : Nat) (l : List Nd) (ts : List (Int × Int × Int)) (ok : Bool) (t : Int × Int × Int) (h40 : l.length ≤ 60 → ∀ H, O.run 40 [.d (encs l)] H = some (.tup [.d (tops ts), V.bool ok], H))
    (hd : l.length ≤ 60 → ok = true → 0 < ts.length ∧ ts.length ≤ 60 ∧ ts[ts.length - 1]? = some t) : ∃ x, runFn O N v33 [.d (encs l)] [] = some (.tup [x, V.int .i64 (exprErr l.length ok t.2.2)], []) ∧ (x = .nilS ∨ x = .d (tops ts)) := by
  rw [runFn_eq _ _ (Nat.le_of_ble_eq_true rfl)]
  unfold exprErr
  by_cases h : 60 < l.length
  · have : ((60 : Int) < (l.length : Int)) := by omega
    refine ⟨.nilS, ?_, .inl rfl⟩
    simp [v33, encs, h, this]
  · have h' : ¬ ((60 : Int) < (l.length : Int)) := by omega
    have h3 := h40 (by omega)
    simp only [encs, tops] at h3
    cases ok with
    | false =>
      refine ⟨.nilS, ?_, .inl rfl⟩
      simp [v33, encs, h, h', h3]
    | true =>
      obtain ⟨hp, hm, hg⟩ := hd (by omega) rfl
      have hwr : IntKind.wrap .i64 ((ts.length : Int) - 1) = (ts.length : Int) - 1 := wrap_id ⟨by omega, by omega⟩
      have hge2 : (1 : Int) ≤ (ts.length : Int) := by omega
      have hge3 : 1 ≤ ts.length := by omega
      have hnat : ((ts.length : Int) - 1).toNat = ts.length - 1 := by omega
      by_cases h20 : 20 < t.2.2
      · refine ⟨.nilS, ?_, .inl rfl⟩
        simp [v33, encs, h, h', h3, hwr, hge2, hge3, hp, hnat, hg, h20]
      · refine ⟨.d (tops ts), ?_, .inr rfl⟩
        simp [v33, encs, tops, h, h', h3, hwr, hge2, hge3, hp, hnat, hg, h20]
end Go.Proofs.Ytomeaojdihfgmaa
/- The functions of BoundWindows: kinds.Of, by what is told of its nodes. -/
namespace Go.Proofs.Ytomeaojdihfgmaa
open Go.VM Go.Proofs.Ytomeaojdihfgmaa.Data
set_option linter.unusedVariables false
set_option linter.unusedSimpArgs false
attribute [local simp] run_seq run_cond run_block run_region run_skip run_exit run_ret runOps_nil runOps_cons stepO_plain stepO_guard seqR_normal seqR_ret seqR_exit seqR_ite condR_bool blockR_normal blockR_ret blockR_exit blockR_ite opsR_some opsR_ite regR_some regR_ite guardR_some putR_some putR_ite finR_normal finR_ret finR_ite wants runOp evalOp X.ev Env.at putE Env.keep startE binV unV resV mapO resOne loadV storeV newBlk Heap.blk V.cells V.isCell fillV V.nat? run_loop

def bools (l : List Bool) : D := .sl (l.map fun b => [db b])
theorem fn37 (O : Calls') (N : Nat) (l : List Nd) (e : Int) (is : List Bool) (w : Nat) (b : Bool) (hl : l.length < 1000) (h24 : ∀ H, O.run 24 [.d (encs l)] H = some (V.int .i64 e, H)) (h42 : e = 0 → ∀ H, O.run 42 [.d (encs l)] H = some (.tup [.d (bools is), V.int .i64 w], H))
    (hb : e = 0 → 0 < l.length ∧ w ≤ l.length ∧ (w = l.length → is[w - 1]? = some b)) :
    runFn O N v37 [.d (encs l)] [] = some (if e ≠ 0 then ofV false 0 e else if w < l.length then ofV false w 42 else ofV b (l.length - 1 : Int) 0, []) := by
  rw [runFn_eq _ _ (Nat.le_of_ble_eq_true rfl)]
  unfold ofV
  simp only [encs] at h24
  by_cases h : e = 0
  · have h4 := h42 h
    simp only [encs, bools] at h4
    obtain ⟨hp, hle, hbb⟩ := hb h
    by_cases hw : w < l.length
    · have hw' : ((w : Int) < (l.length : Int)) := by omega
      simp [v37, encs, h24, h4, h, hw, hw']
    · have hwl : w = l.length := by omega
      subst hwl
      have hg := hbb rfl
      have hwr : IntKind.wrap .i64 ((l.length : Int) - 1) = (l.length : Int) - 1 := wrap_id ⟨by omega, by omega⟩
      have hge2 : (1 : Int) ≤ (l.length : Int) := by omega
      have hge3 : 1 ≤ l.length := by omega
      have hnat : ((l.length : Int) - 1).toNat = l.length - 1 := by omega
      simp [v37, encs, h24, h4, h, hwr, hge2, hge3, hp, hnat, hg]
  · simp [v37, encs, h24, h]
end Go.Proofs.Ytomeaojdihfgmaa
/- The functions of BoundWindows: Many, and the reference's checks. -/
namespace Go.Proofs.Ytomeaojdihfgmaa
open Go.VM Go.Proofs.Ytomeaojdihfgmaa.Data
set_option linter.unusedVariables false
set_option linter.unusedSimpArgs false
attribute [local simp] run_seq run_cond run_block run_region run_skip run_exit run_ret runOps_nil runOps_cons stepO_plain stepO_guard seqR_normal seqR_ret seqR_exit seqR_ite condR_bool blockR_normal blockR_ret blockR_exit blockR_ite opsR_some opsR_ite regR_some regR_ite guardR_some putR_some putR_ite finR_normal finR_ret finR_ite wants runOp evalOp X.ev Env.at putE Env.keep startE binV unV resV mapO resOne loadV storeV newBlk Heap.blk V.cells V.isCell fillV V.nat? run_loop

theorem fn5 (O : Calls') (N : Nat) (q : Qy) (at' e n : Int) (h9 : ∀ H, O.run 9 [qv q] H = some (.tup [V.int .i64 at', V.int .i64 e], H)) (h10 : e = 0 → ∀ H, O.run 10 [win q.kind q.size q.every] H = some (V.int .i64 n, H)) :
    ∃ H1, runFn O N v5 [qv q] [] = some (if e = 0 then .tup [V.int .i64 n, V.int .i64 0] else .tup [V.int .i64 0, V.int .i64 e], H1) := by
  rw [runFn_eq _ _ (Nat.le_of_ble_eq_true rfl)]
  simp [qv, Qy.enc] at h9
  by_cases h : e = 0
  · have h2 := h10 h
    simp [win] at h2
    simp [v5, qv, Qy.enc, h9, h2, h]
  · simp [v5, qv, Qy.enc, h9, h]

theorem fn6 (O : Calls') (N : Nat) (q : Qy) (at' e n : Int) (h11 : ∀ H, O.run 11 [qv q] H = some (.tup [V.int .i64 at', V.int .i64 e], H)) (h12 : e = 0 → ∀ H, O.run 12 [qv q] H = some (V.int .i64 n, H)) :
    ∃ H1, runFn O N v6 [qv q] [] = some (if e = 0 then .tup [V.int .i64 n, V.int .i64 0] else .tup [V.int .i64 0, V.int .i64 e], H1) := by
  rw [runFn_eq _ _ (Nat.le_of_ble_eq_true rfl)]
  simp [qv, Qy.enc] at h11
  by_cases h : e = 0
  · have h2 := h12 h
    simp [qv, Qy.enc] at h2
    simp [v6, qv, Qy.enc, h11, h2, h]
  · simp [v6, qv, Qy.enc, h11, h]

theorem fn11 (O : Calls') (N : Nat) (q : Qy) (e1 at2 e2 : Int) (h20 : ∀ H, O.run 20 [qv q] H = some (V.int .i64 e1, H)) (h21 : e1 = 0 → ∀ H, O.run 21 [qv q] H = some (.tup [V.int .i64 at2, V.int .i64 e2], H)) :
    ∃ H1, runFn O N v11 [qv q] [] = some (if e1 = 0 then .tup [V.int .i64 at2, V.int .i64 e2] else .tup [V.int .i64 0, V.int .i64 e1], H1) := by
  rw [runFn_eq _ _ (Nat.le_of_ble_eq_true rfl)]
  simp [qv, Qy.enc] at h20
  by_cases h : e1 = 0
  · have h2 := h21 h
    simp [qv, Qy.enc] at h2
    simp [v11, qv, Qy.enc, h20, h2, h]
  · simp [v11, qv, Qy.enc, h20, h]
end Go.Proofs.Ytomeaojdihfgmaa
