/- The functions of BoundWindows: sources (the reference). -/
import Derived.Test.YtomeaojdihfgmaaKa
import Derived.Test.YtomeaojdihfgmaaData
namespace Go.Proofs.Ytomeaojdihfgmaa
open Go.VM Go.Proofs.Ytomeaojdihfgmaa.Data
set_option linter.unusedVariables false
set_option linter.unusedSimpArgs false
attribute [local simp] run_seq run_cond run_block run_region run_skip run_exit run_ret runOps_nil runOps_cons stepO_plain stepO_guard seqR_normal seqR_ret seqR_exit seqR_ite condR_bool blockR_normal blockR_ret blockR_exit blockR_ite opsR_some opsR_ite regR_some regR_ite guardR_some putR_some putR_ite finR_normal finR_ret finR_ite wants runOp evalOp X.ev Env.at putE Env.keep startE binV resV mapO resOne loadV storeV newBlk Heap.blk V.cells V.isCell fillV V.nat? run_loop

theorem ints_get {l : List Int} {i : Nat} (h : i < l.length) : (l.map fun n => [di n])[i]? = some [di l[i]] := by simp [h]

theorem wrap_small {i : Nat} (h : (i : Int) < 9223372036854775807) : IntKind.wrap .i64 ((i : Int) + 1) = ((i + 1 : Nat) : Int) := by
  rw [wrap_id ⟨by omega, by omega⟩]; omega

def E28 (l : List Int) (i : Nat) (j : Nat → V) : Env := [(0, .d (ints l)), (1, j 1), (4, V.int .i64 0), (5, V.int .i64 i), (6, j 6), (7, j 7), (10, j 10), (21, j 21), (25, j 25), (39, j 39), (43, j 43), (48, j 48), (59, j 59)]

theorem loop28 (O : Calls') (N : Nat) (l : List Int) (hl : l.length < 1000) : ∀ (k i m : Nat) (j : Nat → V), i + k = l.length →
    ((∀ x ∈ l.drop i, 0 ≤ x ∧ x ≤ 3) → ∃ j', runLoop (run O N v28L0) (k + 1 + m) (E28 l i j) [] = some (.exit 0, E28 l l.length j', []) ∧ j' 1 = j 1) ∧
    ((¬ ∀ x ∈ l.drop i, 0 ≤ x ∧ x ≤ 3) → ∃ E, runLoop (run O N v28L0) (k + 1 + m) (E28 l i j) [] = some (.ret, E, []) ∧ E.at 4 = V.int .i64 8)
  | 0, i, m, j, hk => by
    have hi : i = l.length := by omega
    subst hi
    rw [show 0 + 1 + m = m + 1 from by omega, runLoop_step]
    refine ⟨fun _ => ⟨fun s => if s = 25 then V.bool false else j s, ?_, by simp⟩, fun h => absurd (by simp) h⟩
    simp [v28L0, E28, ints, loopR_exit]
  | k + 1, i, m, j, hk => by
    have hi : i < l.length := by omega
    have hd : l.drop i = l[i] :: l.drop (i + 1) := List.drop_eq_getElem_cons hi
    have hlt : ((i : Int) < (l.length : Int)) := by omega
    have hn0 : (0 : Int) ≤ (i : Int) := by omega
    have hw := wrap_small (i := i) (by omega)
    rw [show k + 1 + 1 + m = (k + 1 + m) + 1 from by omega, runLoop_step]
    by_cases h1 : l[i] < 0
    · refine ⟨fun h => ?_, fun _ => ?_⟩
      · have := h l[i] (by rw [hd]; exact List.mem_cons_self); omega
      · simp [v28L0, E28, ints, loopR_ret, hlt, hi, h1]
    · by_cases h2 : 3 < l[i]
      · refine ⟨fun h => ?_, fun _ => ?_⟩
        · have := h l[i] (by rw [hd]; exact List.mem_cons_self); omega
        · simp [v28L0, E28, ints, loopR_ret, hlt, hi, h1, h2]
      · obtain ⟨ih1, ih2⟩ := loop28 O N l hl k (i + 1) m (fun s => if s = 25 then V.bool true else if s = 39 then V.bool false else j s) (by omega)
        have hstep : run O N v28L0 (E28 l i j) [] = some (.normal, E28 l (i + 1) (fun s => if s = 25 then V.bool true else if s = 39 then V.bool false else j s), []) := by
          simp [v28L0, E28, ints, hlt, hi, h1, h2, hw]
        rw [hstep, loopR_normal]
        refine ⟨fun h => ?_, fun h => ?_⟩
        · obtain ⟨j', e1, e2⟩ := ih1 fun x hx => h x (by rw [hd]; exact List.mem_cons_of_mem _ hx)
          exact ⟨j', e1, by rw [e2]; simp⟩
        · exact ih2 fun h' => h fun x hx => by
            rw [hd] at hx
            rcases List.mem_cons.1 hx with rfl | hx
            · omega
            · exact h' x hx

def E28' (l : List Int) (a i : Nat) (j : Nat → V) : Env := [(0, .d (ints l)), (1, j 1), (4, V.int .i64 0), (5, j 5), (6, V.int .i64 a), (7, V.int .i64 i), (10, j 10), (21, j 21), (25, j 25), (39, j 39), (43, j 43), (48, j 48), (59, j 59)]

attribute [local simp] run_regionD runDraw footO readsOp writesOp touchOp wtouchOp touchV inOrder meets

/-- is one of the first a, from i on, the one at a -/
theorem loop28' (O : Calls') (N : Nat) (l : List Int) (a : Nat) (ha : a < l.length) (hl : l.length < 1000) : ∀ (k i m : Nat) (j : Nat → V), i + k = a →
    ((∀ s, i ≤ s → s < a → l[s]? ≠ l[a]?) → ∃ j', runLoop (run O N v28L1) (k + 1 + m) (E28' l a i j) [] = some (.exit 4, E28' l a a j', []) ∧ j' 1 = j 1) ∧
    ((∃ s, i ≤ s ∧ s < a ∧ l[s]? = l[a]?) → ∃ E, runLoop (run O N v28L1) (k + 1 + m) (E28' l a i j) [] = some (.ret, E, []) ∧ E.at 4 = V.int .i64 43)
  | 0, i, m, j, hk => by
    have hi : i = a := by omega
    subst hi
    rw [show 0 + 1 + m = m + 1 from by omega, runLoop_step]
    refine ⟨fun _ => ⟨fun s => if s = 48 then V.bool false else j s, ?_, by simp⟩, fun ⟨s, h1, h2, _⟩ => by omega⟩
    simp [v28L1, E28', ints, loopR_exit]
  | k + 1, i, m, j, hk => by
    have hia : i < a := by omega
    have hi : i < l.length := by omega
    have hlt : ((i : Int) < (a : Int)) := by omega
    have hw := wrap_small (i := i) (by omega)
    rw [show k + 1 + 1 + m = (k + 1 + m) + 1 from by omega, runLoop_step]
    by_cases h1 : l[i] = l[a]
    · refine ⟨fun h => ?_, fun _ => ?_⟩
      · exact absurd (by simp [hi, ha, h1]) (h i (Nat.le_refl _) hia)
      · simp [v28L1, E28', ints, loopR_ret, hlt, hi, ha, hia, h1]
    · obtain ⟨ih1, ih2⟩ := loop28' O N l a ha hl k (i + 1) m (fun s => if s = 48 then V.bool true else if s = 59 then V.bool false else j s) (by omega)
      have hstep : run O N v28L1 (E28' l a i j) [] = some (.normal, E28' l a (i + 1) (fun s => if s = 48 then V.bool true else if s = 59 then V.bool false else j s), []) := by
        simp [v28L1, E28', ints, hlt, hi, ha, hia, h1, hw]
      rw [hstep, loopR_normal]
      refine ⟨fun h => ?_, fun ⟨s, g1, g2, g3⟩ => ?_⟩
      · obtain ⟨j', e1, e2⟩ := ih1 fun s g1 g2 => h s (by omega) g2
        exact ⟨j', e1, by rw [e2]; simp⟩
      · refine ih2 ⟨s, ?_, g2, g3⟩
        rcases Nat.lt_or_ge i s with h | h
        · omega
        · obtain rfl : s = i := by omega
          simp [hi, ha] at g3
          exact absurd g3 h1

theorem inner28 (O : Calls') (N : Nat) (hN : 1001 ≤ N) (l : List Int) (a : Nat) (ha : a < l.length) (hl : l.length < 1000) (j : Nat → V) :
    ((∀ s, s < a → l[s]? ≠ l[a]?) → ∃ j', runLoop (run O N v28L1) N (E28' l a 0 j) [] = some (.exit 4, E28' l a a j', []) ∧ j' 1 = j 1) ∧
    ((∃ s, s < a ∧ l[s]? = l[a]?) → ∃ E, runLoop (run O N v28L1) N (E28' l a 0 j) [] = some (.ret, E, []) ∧ E.at 4 = V.int .i64 43) := by
  have := loop28' O N l a ha hl a 0 (N - (a + 1)) j (by omega)
  rw [show a + 1 + (N - (a + 1)) = N from by omega] at this
  exact ⟨fun h => this.1 fun s _ h2 => h s h2, fun ⟨s, h1, h2⟩ => this.2 ⟨s, Nat.zero_le _, h1, h2⟩⟩

def E28o (l : List Int) (a : Nat) (j : Nat → V) : Env := [(0, .d (ints l)), (1, j 1), (4, V.int .i64 0), (5, j 5), (6, V.int .i64 a), (7, j 7), (10, j 10), (21, j 21), (25, j 25), (39, j 39), (43, j 43), (48, j 48), (59, j 59)]

theorem outer28 (O : Calls') (N : Nat) (hN : 1001 ≤ N) (l : List Int) (hl : l.length < 1000) : ∀ (k i m : Nat) (j : Nat → V), i + k = l.length →
    ((∀ a, i ≤ a → a < l.length → ∀ s, s < a → l[s]? ≠ l[a]?) → ∃ j', runLoop (run O N v28L2) (k + 1 + m) (E28o l i j) [] = some (.exit 2, E28o l l.length j', [])) ∧
    ((∃ a, i ≤ a ∧ a < l.length ∧ ∃ s, s < a ∧ l[s]? = l[a]?) → ∃ E, runLoop (run O N v28L2) (k + 1 + m) (E28o l i j) [] = some (.ret, E, []) ∧ E.at 4 = V.int .i64 43)
  | 0, i, m, j, hk => by
    have hi : i = l.length := by omega
    subst hi
    rw [show 0 + 1 + m = m + 1 from by omega, runLoop_step]
    refine ⟨fun _ => ⟨fun s => if s = 43 then V.bool false else j s, ?_⟩, fun ⟨a, h1, h2, _⟩ => by omega⟩
    simp [v28L2, E28o, ints, loopR_exit]
  | k + 1, i, m, j, hk => by
    have hi : i < l.length := by omega
    have hlt : ((i : Int) < (l.length : Int)) := by omega
    have hw := wrap_small (i := i) (by omega)
    rw [show k + 1 + 1 + m = (k + 1 + m) + 1 from by omega, runLoop_step]
    obtain ⟨in1, in2⟩ := inner28 O N hN l i hi hl (fun s => if s = 43 then V.bool true else j s)
    by_cases h1 : ∃ s, s < i ∧ l[s]? = l[i]?
    · obtain ⟨E, e1, e2⟩ := in2 h1
      refine ⟨fun h => ?_, fun _ => ?_⟩
      · obtain ⟨s, g1, g2⟩ := h1
        exact absurd g2 (h i (Nat.le_refl _) hi s g1)
      · refine ⟨E, ?_, e2⟩
        simp only [E28', ints, if_true, if_neg (show ¬ (1 : Nat) = 43 by omega), if_neg (show ¬ (5 : Nat) = 43 by omega), if_neg (show ¬ (10 : Nat) = 43 by omega), if_neg (show ¬ (21 : Nat) = 43 by omega), if_neg (show ¬ (25 : Nat) = 43 by omega), if_neg (show ¬ (39 : Nat) = 43 by omega), if_neg (show ¬ (48 : Nat) = 43 by omega), if_neg (show ¬ (59 : Nat) = 43 by omega), Int.ofNat_zero, Int.natCast_zero] at e1
        simp [v28L2, E28o, ints, loopR_ret, hlt, hi, e1]
    · have hno : ∀ s, s < i → l[s]? ≠ l[i]? := fun s g1 g2 => h1 ⟨s, g1, g2⟩
      obtain ⟨j', e1, _⟩ := in1 hno
      obtain ⟨ih1, ih2⟩ := outer28 O N hN l hl k (i + 1) m (fun s => if s = 7 then V.int .i64 i else j' s) (by omega)
      have hstep : run O N v28L2 (E28o l i j) [] = some (.normal, E28o l (i + 1) (fun s => if s = 7 then V.int .i64 i else j' s), []) := by
        simp only [E28', ints, if_true, if_neg (show ¬ (1 : Nat) = 43 by omega), if_neg (show ¬ (5 : Nat) = 43 by omega), if_neg (show ¬ (10 : Nat) = 43 by omega), if_neg (show ¬ (21 : Nat) = 43 by omega), if_neg (show ¬ (25 : Nat) = 43 by omega), if_neg (show ¬ (39 : Nat) = 43 by omega), if_neg (show ¬ (48 : Nat) = 43 by omega), if_neg (show ¬ (59 : Nat) = 43 by omega), Int.ofNat_zero, Int.natCast_zero] at e1
        simp [v28L2, E28o, ints, hlt, hi, e1, hw]
      rw [hstep, loopR_normal]
      refine ⟨fun h => ih1 fun a g1 g2 => h a (by omega) g2, fun ⟨a, g1, g2, g3⟩ => ih2 ⟨a, ?_, g2, g3⟩⟩
      rcases Nat.lt_or_ge i a with h | h
      · omega
      · obtain rfl : a = i := by omega
        exact absurd g3 h1

def noRep (l : List Int) : Prop := ∀ a, a < l.length → ∀ s, s < a → l[s]? ≠ l[a]?
open Classical in
/-- the error of sources -/
noncomputable def srcErr (l : List Int) (join : Bool) : Int := if 4 < l.length then 4 else if l.length = 0 ∨ (join = true ∧ l.length ≠ 2) then 8 else if ∀ x ∈ l, 0 ≤ x ∧ x ≤ 3 then (if noRep l then 0 else 43) else 8

theorem fn28 (O : Calls') (N : Nat) (hN : 1001 ≤ N) (l : List Int) (join : Bool) : runFn O N v28 [.d (ints l), .d (db join)] [] = some (V.int .i64 (srcErr l join), []) := by
  rw [runFn_eq _ _ (Nat.le_of_ble_eq_true rfl)]
  unfold srcErr
  by_cases h4 : 4 < l.length
  · have : ((4 : Int) < (l.length : Int)) := by omega
    simp [v28, ints, h4, this]
  · have h4' : ¬ ((4 : Int) < (l.length : Int)) := by omega
    by_cases h0 : l.length = 0
    · have hl0 : l = [] := List.eq_nil_of_length_eq_zero h0
      subst hl0
      simp [v28, ints]
    · have h0' : ¬ ((l.length : Int) = 0) := by omega
      by_cases hj : join = true ∧ l.length ≠ 2
      · obtain ⟨hj1, hj2⟩ := hj
        have hj2' : ¬ ((l.length : Int) = 2) := by omega
        simp [v28, ints, h4, h4', h0, h0', hj1, hj2, hj2']
      · have hb : join = true → ((l.length : Int) != 2) = false := fun h => by
          have : l.length = 2 := by
            rcases Nat.decEq l.length 2 with h2 | h2
            · exact absurd ⟨h, h2⟩ hj
            · exact h2
          rw [this]; rfl
        have hb0 : ((l.length : Int) == 0) = false := by simpa using h0'
        rw [if_neg h4, if_neg (fun h => h.elim h0 hj)]
        obtain ⟨l1, l2⟩ := loop28 O N l (by omega) l.length 0 (N - (l.length + 1)) (fun s => if s = 1 then V.bool join else if s = 10 then V.bool false else if s = 21 then V.bool false else .undef) (by omega)
        rw [show l.length + 1 + (N - (l.length + 1)) = N from by omega] at l1 l2
        simp only [List.drop_zero] at l1 l2
        by_cases hin : ∀ x ∈ l, 0 ≤ x ∧ x ≤ 3
        · rw [if_pos hin]
          obtain ⟨j', e1, ej⟩ := l1 hin
          obtain ⟨o1, o2⟩ := outer28 O N hN l (by omega) l.length 0 (N - (l.length + 1)) (fun s => if s = 5 then V.int .i64 l.length else j' s) (by omega)
          rw [show l.length + 1 + (N - (l.length + 1)) = N from by omega] at o1 o2
          by_cases hd : noRep l
          · rw [if_pos hd]
            obtain ⟨j2, e2⟩ := o1 fun a _ h2 s h3 => hd a h2 s h3
            simp [E28, E28o, ints] at e1 e2
            cases join
            · simp [v28, ints, h4, h4', hb0, e1, e2]
            · simp [v28, ints, h4, h4', hb0, hb rfl, e1, e2]
          · rw [if_neg hd]
            have hd' : ∃ a, 0 ≤ a ∧ a < l.length ∧ ∃ s, s < a ∧ l[s]? = l[a]? := by
              unfold noRep at hd
              simp only [Classical.not_forall, ne_eq, Classical.not_not] at hd
              obtain ⟨a, h1, s, h2, h3⟩ := hd
              exact ⟨a, Nat.zero_le _, h1, s, h2, h3⟩
            obtain ⟨E, e2, e3⟩ := o2 hd'
            simp [E28, E28o, ints] at e1 e2
            cases join
            · simp [v28, ints, h4, h4', hb0, e1, e2, e3]
            · simp [v28, ints, h4, h4', hb0, hb rfl, e1, e2, e3]
        · rw [if_neg hin]
          obtain ⟨E, e1, e2⟩ := l2 hin
          simp [E28, ints] at e1
          cases join
          · simp [v28, ints, h4, h4', hb0, e1, e2]
          · simp [v28, ints, h4, h4', hb0, hb rfl, e1, e2]
end Go.Proofs.Ytomeaojdihfgmaa
/- The functions of BoundWindows: sources (the program). -/
namespace Go.Proofs.Ytomeaojdihfgmaa
open Go.VM Go.Proofs.Ytomeaojdihfgmaa.Data
set_option linter.unusedVariables false
set_option linter.unusedSimpArgs false
attribute [local simp] run_seq run_cond run_block run_region run_skip run_exit run_ret runOps_nil runOps_cons stepO_plain stepO_guard seqR_normal seqR_ret seqR_exit seqR_ite condR_bool blockR_normal blockR_ret blockR_exit blockR_ite opsR_some opsR_ite regR_some regR_ite guardR_some putR_some putR_ite finR_normal finR_ret finR_ite wants runOp evalOp X.ev Env.at putE Env.keep startE binV resV mapO resOne loadV storeV newBlk Heap.blk V.cells V.isCell fillV V.nat? run_loop

def outside (n : Int) : Bool := decide (n < 0) || decide (4 ≤ n)
theorem fn34 (O : Calls') (N : Nat) (n : Int) : runFn O N v34 [.d (di n)] [] = some (V.bool (outside n), []) := by
  rw [runFn_eq _ _ (Nat.le_of_ble_eq_true rfl)]
  unfold outside
  by_cases h1 : n < 0
  · simp [v34, h1]
  · by_cases h2 : 4 ≤ n <;> simp [v34, h1, h2]

def E41 (l : List Int) (i : Nat) (j : Nat → V) : Env := [(0, .d (ints l)), (1, .clo 34 []), (4, j 4), (5, j 5), (7, V.int .i64 l.length), (8, V.int .i64 i), (9, j 9), (16, j 16)]

theorem loop41 (O : Calls') (N : Nat) (h34 : ∀ n H, O.run 34 [.d (di n)] H = some (V.bool (outside n), H)) (l : List Int) (hl : l.length < 1000) : ∀ (k i m : Nat) (j : Nat → V), i + k = l.length →
    ((∀ x ∈ l.drop i, outside x = false) → ∃ j', runLoop (run O N v41L0) (k + 1 + m) (E41 l i j) [] = some (.exit 0, E41 l l.length j', [])) ∧
    ((¬ ∀ x ∈ l.drop i, outside x = false) → ∃ E, runLoop (run O N v41L0) (k + 1 + m) (E41 l i j) [] = some (.ret, E, []) ∧ ∃ r : Int, E.at 4 = V.int .i64 r ∧ 0 ≤ r)
  | 0, i, m, j, hk => by
    have hi : i = l.length := by omega
    subst hi
    rw [show 0 + 1 + m = m + 1 from by omega, runLoop_step]
    refine ⟨fun _ => ⟨fun s => if s = 9 then V.bool false else j s, ?_⟩, fun h => absurd (by simp) h⟩
    simp [v41L0, E41, ints, loopR_exit]
  | k + 1, i, m, j, hk => by
    have hi : i < l.length := by omega
    have hd : l.drop i = l[i] :: l.drop (i + 1) := List.drop_eq_getElem_cons hi
    have hlt : ((i : Int) < (l.length : Int)) := by omega
    have hw := wrap_small (i := i) (by omega)
    rw [show k + 1 + 1 + m = (k + 1 + m) + 1 from by omega, runLoop_step]
    by_cases h1 : outside l[i] = true
    · refine ⟨fun h => ?_, fun _ => ?_⟩
      · have := h l[i] (by rw [hd]; exact List.mem_cons_self); rw [h1] at this; cases this
      · simp [v41L0, E41, ints, loopR_ret, hlt, hi, h34, h1]
    · have h1' : outside l[i] = false := by simpa using h1
      obtain ⟨ih1, ih2⟩ := loop41 O N h34 l hl k (i + 1) m (fun s => if s = 9 then V.bool true else if s = 16 then V.bool false else if s = 5 then V.int .i64 i else j s) (by omega)
      have hstep : run O N v41L0 (E41 l i j) [] = some (.normal, E41 l (i + 1) (fun s => if s = 9 then V.bool true else if s = 16 then V.bool false else if s = 5 then V.int .i64 i else j s), []) := by
        simp [v41L0, E41, ints, hlt, hi, h34, h1', hw]
      rw [hstep, loopR_normal]
      refine ⟨fun h => ih1 fun x hx => h x (by rw [hd]; exact List.mem_cons_of_mem _ hx), fun h => ih2 fun h' => h fun x hx => ?_⟩
      rw [hd] at hx
      rcases List.mem_cons.1 hx with rfl | hx
      · exact h1'
      · exact h' x hx

theorem fn41 (O : Calls') (N : Nat) (hN : 1001 ≤ N) (h34 : ∀ n H, O.run 34 [.d (di n)] H = some (V.bool (outside n), H)) (l : List Int) (hl : l.length < 1000) :
    ∃ r : Int, runFn O N v41 [.d (ints l), .clo 34 []] [] = some (V.int .i64 r, []) ∧ (0 ≤ r ↔ ¬ ∀ x ∈ l, outside x = false) := by
  rw [runFn_eq _ _ (Nat.le_of_ble_eq_true rfl)]
  obtain ⟨l1, l2⟩ := loop41 O N h34 l hl l.length 0 (N - (l.length + 1)) (fun s => if s = 4 then V.int .i64 0 else .undef) (by omega)
  rw [show l.length + 1 + (N - (l.length + 1)) = N from by omega] at l1 l2
  simp only [List.drop_zero] at l1 l2
  by_cases h : ∀ x ∈ l, outside x = false
  · obtain ⟨j', e1⟩ := l1 h
    simp [E41, ints] at e1
    refine ⟨-1, ?_, fun h1 => absurd h1 (by omega), fun h1 => absurd h h1⟩
    simp [v41, ints, e1]
  · obtain ⟨E, e1, r, e2, e3⟩ := l2 h
    simp [E41, ints] at e1
    refine ⟨r, ?_, fun _ => h, fun _ => e3⟩
    simp [v41, ints, e1, e2]

theorem fn35 (O : Calls') (N : Nat) (l : List Int) (r : Int) (h41 : ∀ H, O.run 41 [.d (ints l), .clo 34 []] H = some (V.int .i64 r, H)) : runFn O N v35 [.d (ints l), .clo 34 []] [] = some (V.bool (decide (0 ≤ r)), []) := by
  rw [runFn_eq _ _ (Nat.le_of_ble_eq_true rfl)]
  simp [v35, h41]

theorem outside_iff (l : List Int) : (∀ x ∈ l, outside x = false) ↔ ∀ x ∈ l, 0 ≤ x ∧ x ≤ 3 := by
  unfold outside
  constructor <;> intro h x hx <;> have := h x hx <;> simp at this ⊢ <;> omega
end Go.Proofs.Ytomeaojdihfgmaa
/- The functions of BoundWindows: sources (the program), as the reference's. -/
namespace Go.Proofs.Ytomeaojdihfgmaa
open Go.VM Go.Proofs.Ytomeaojdihfgmaa.Data
set_option linter.unusedVariables false
set_option linter.unusedSimpArgs false
attribute [local simp] run_seq run_cond run_block run_region run_skip run_exit run_ret runOps_nil runOps_cons stepO_plain stepO_guard seqR_normal seqR_ret seqR_exit seqR_ite condR_bool blockR_normal blockR_ret blockR_exit blockR_ite opsR_some opsR_ite regR_some regR_ite guardR_some putR_some putR_ite finR_normal finR_ret finR_ite wants runOp evalOp X.ev Env.at putE Env.keep startE binV resV mapO resOne loadV storeV newBlk Heap.blk V.cells V.isCell fillV V.nat? run_loop

theorem fold_len : ∀ (xs acc : List Lit), (∀ x ∈ xs, WideAt.IsKeyLit x) → (xs.foldl Maps.addKey acc).length ≤ acc.length + xs.length ∧ ((xs.foldl Maps.addKey acc).length = acc.length + xs.length ↔ xs.Nodup ∧ ∀ x ∈ xs, x ∉ acc)
  | [], acc, h => by simp
  | x :: xs, acc, h => by
    have hk := h x (by simp)
    have hany : acc.any (fun y => y.sameKey x) = true ↔ x ∈ acc := by
      rw [List.any_eq_true]
      constructor
      · rintro ⟨y, hy, hs⟩
        rw [WideAt.sameKey_iff hk] at hs
        subst hs; exact hy
      · exact fun hx => ⟨x, hx, WideAt.sameKey_self hk⟩
    simp only [List.foldl_cons, List.length_cons, List.nodup_cons, List.mem_cons, forall_eq_or_imp]
    by_cases hx : x ∈ acc
    · have e : Maps.addKey acc x = acc := by unfold Maps.addKey; rw [if_pos (hany.2 hx)]
      obtain ⟨h1, h2⟩ := fold_len xs acc fun y hy => h y (by simp [hy])
      rw [e]
      refine ⟨by omega, fun he => by omega, fun ⟨_, h3, _⟩ => absurd hx h3⟩
    · have e : Maps.addKey acc x = acc ++ [x] := by unfold Maps.addKey; rw [if_neg (fun h => hx (hany.1 h))]
      obtain ⟨h1, h2⟩ := fold_len xs (acc ++ [x]) fun y hy => h y (by simp [hy])
      rw [e]
      simp only [List.length_append, List.length_singleton] at h1 h2
      refine ⟨by omega, ?_⟩
      rw [show acc.length + (xs.length + 1) = acc.length + 1 + xs.length from by omega, h2]
      constructor
      · rintro ⟨g1, g2⟩
        exact ⟨⟨fun hm => g2 x hm (by simp), g1⟩, hx, fun y hy hya => g2 y hy (by simp [hya])⟩
      · rintro ⟨⟨g1, g2⟩, g3, g4⟩
        refine ⟨g2, fun y hy hya => ?_⟩
        rcases List.mem_append.1 hya with hm | hm
        · exact g4 y hy hm
        · simp at hm; subst hm; exact g1 hy

theorem count_lt (l : List Int) : Distinct.count l < l.length ↔ ¬ noRep l := by
  obtain ⟨h1, h2⟩ := fold_len (l.map fun n => Lit.int .i64 n) [] fun x hx => by
    obtain ⟨n, _, rfl⟩ := List.mem_map.1 hx
    trivial
  simp only [List.length_nil, List.length_map, Nat.zero_add, List.not_mem_nil, not_false_eq_true, implies_true, and_true] at h1 h2
  have h3 : (l.map fun n => Lit.int .i64 n).Nodup ↔ noRep l := by
    have e : (l.map fun n => Lit.int .i64 n).Nodup ↔ l.Nodup := by
      unfold List.Nodup
      rw [List.pairwise_map]
      constructor <;> intro h <;> refine h.imp fun hne => ?_
      · exact fun he => hne (by rw [he])
      · exact fun he => hne (by cases he; rfl)
    rw [e]
    unfold List.Nodup noRep
    rw [List.pairwise_iff_getElem]
    refine ⟨fun h a ha s hs he => h s a (by omega) ha hs ?_, fun h i j hi hj hij he => h j hj i hij ?_⟩
    · rw [List.getElem?_eq_getElem ha, List.getElem?_eq_getElem (show s < l.length by omega)] at he
      exact Option.some.inj he
    · rw [List.getElem?_eq_getElem hi, List.getElem?_eq_getElem hj, he]
  unfold Distinct.count
  rw [← h3, ← h2]
  omega

theorem fn25 (O : Calls') (N : Nat) (l : List Int) (join : Bool) (h35 : ∀ H, O.run 35 [.d (ints l), .clo 34 []] H = some (V.bool (decide (¬ ∀ x ∈ l, 0 ≤ x ∧ x ≤ 3)), H))
    (h36 : ∀ H, O.run 36 [.d (ints l)] H = some (V.int .i64 (Distinct.count l : Nat), H)) : runFn O N v25 [.d (ints l), .d (db join)] [] = some (V.int .i64 (srcErr l join), []) := by
  rw [runFn_eq _ _ (Nat.le_of_ble_eq_true rfl)]
  unfold srcErr
  by_cases h4 : 4 < l.length
  · have : ((4 : Int) < (l.length : Int)) := by omega
    simp [v25, ints, h4, this]
  · have h4' : ¬ ((4 : Int) < (l.length : Int)) := by omega
    by_cases h0 : l.length = 0
    · have hl0 : l = [] := List.eq_nil_of_length_eq_zero h0
      subst hl0
      simp [v25, ints]
    · have h0' : ¬ ((l.length : Int) = 0) := by omega
      have hb0 : ((l.length : Int) == 0) = false := by simpa using h0'
      by_cases hj : join = true ∧ l.length ≠ 2
      · obtain ⟨hj1, hj2⟩ := hj
        have hj2' : ¬ ((l.length : Int) = 2) := by omega
        simp [v25, ints, h4, h4', h0, h0', hj1, hj2, hj2']
      · have hb : join = true → ((l.length : Int) != 2) = false := fun h => by
          have : l.length = 2 := by
            rcases Nat.decEq l.length 2 with h2 | h2
            · exact absurd ⟨h, h2⟩ hj
            · exact h2
          rw [this]; rfl
        rw [if_neg h4, if_neg (fun h => h.elim h0 hj)]
        simp only [ints] at h35 h36
        by_cases hin : ∀ x ∈ l, 0 ≤ x ∧ x ≤ 3
        · rw [if_pos hin]
          have hd : decide (¬ ∀ x ∈ l, 0 ≤ x ∧ x ≤ 3) = false := decide_eq_false (fun h => h hin)
          simp only [hd] at h35
          by_cases hn : noRep l
          · rw [if_pos hn]
            have hc : ¬ ((Distinct.count l : Int) < (l.length : Int)) := fun h => (count_lt l).1 (by omega) hn
            cases join
            · simp [v25, ints, h4, h4', hb0, h35, h36, hc]
            · simp [v25, ints, h4, h4', hb0, hb rfl, h35, h36, hc]
          · rw [if_neg hn]
            have hc : ((Distinct.count l : Int) < (l.length : Int)) := by have := (count_lt l).2 hn; omega
            cases join
            · simp [v25, ints, h4, h4', hb0, h35, h36, hc]
            · simp [v25, ints, h4, h4', hb0, hb rfl, h35, h36, hc]
        · rw [if_neg hin]
          have hd : decide (¬ ∀ x ∈ l, 0 ≤ x ∧ x ≤ 3) = true := decide_eq_true hin
          simp only [hd] at h35
          cases join
          · simp [v25, ints, h4, h4', hb0, h35]
          · simp [v25, ints, h4, h4', hb0, hb rfl, h35]
end Go.Proofs.Ytomeaojdihfgmaa
