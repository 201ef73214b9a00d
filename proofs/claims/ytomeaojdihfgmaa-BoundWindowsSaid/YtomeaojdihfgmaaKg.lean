/- The functions of BoundWindows: the stack of parts (the program), its loop. -/
import Derived.Test.YtomeaojdihfgmaaKf
namespace Go.Proofs.Ytomeaojdihfgmaa
open Go.VM Go.Proofs.Ytomeaojdihfgmaa.Data
set_option linter.unusedVariables false
set_option linter.unusedSimpArgs false
attribute [local simp] run_seq run_cond run_block run_region run_skip run_exit run_ret runOps_nil runOps_cons stepO_plain stepO_guard seqR_normal seqR_ret seqR_exit seqR_ite condR_bool blockR_normal blockR_ret blockR_exit blockR_ite opsR_some opsR_ite regR_some regR_ite guardR_some putR_some putR_ite finR_normal finR_ret finR_ite wants runOp evalOp X.ev Env.at putE Env.keep startE binV unV resV mapO resOne loadV storeV V.cells V.isCell fillV fillE V.nat? run_loop run_regionD runDraw footO readsOp writesOp touchOp wtouchOp touchV inOrder meets

theorem Two40.push {H : Heap} {va vs : V} {all st : List Tp} (h : Two40 H va vs all st) (hl : all.length < 1000) (t : Tp) : ∃ b' H', appV (newBlk H 84 3 [[.d (di t.at'), .d (di t.size), .d (di t.depth)]]) 84 3 24 va [[.d (di t.at'), .d (di t.size), .d (di t.depth)]] = some (.ref b' 3 0 (all.length + 1) (all.length + 1), H') ∧
    Two40 H' (.ref b' 3 0 (all.length + 1) (all.length + 1)) vs (all ++ [t]) st := by
  obtain ⟨b', H', p1, p2, p3, p4, p5⟩ := push_own (bytes := 24) (x := [.d (di t.at'), .d (di t.size), .d (di t.depth)]) h.a (by rw [cellsT_len]; unfold room; omega)
  rw [cellsT_len] at p1
  refine ⟨b', H', p1, .inr ⟨b', by rw [cellsT_len]; simp, by rw [p2, cellsT_snoc]⟩, ?_, fun c hc hc2 => ?_⟩
  · rcases h.s with h1 | ⟨b, rest, h1, rfl, h2⟩
    · exact .inl h1
    · exact .inr ⟨b, rest, h1, rfl, by rw [p5 b (Heap.blk_lt h2) (fun hm => h.ne b hm (by simp [touchV])), h2]⟩
  · simp [touchV] at hc
    subst hc
    rcases h.s with ⟨rfl, _⟩ | ⟨b, rest, h1, rfl, h2⟩
    · simp [touchV] at hc2
    · simp [touchV] at hc2
      have := Heap.blk_lt h2
      omega

theorem second40 (O : Calls') (N : Nat) (l : List Nd) (hl : l.length ≤ 60) (i : Nat) (hi : i < l.length) (va : V) (all st st0 : List Tp) (t : Tp) (H : Heap) (E : Env) (n : Option (List Tp × Tp)) (hn : n = some (st, t)) (hal : all.length = i) (hM : M40 l i va all st t E H) :
    Q40 l i all n (seqR O N (VCode.region [⟨some 100, none, .bin .add (.t 17) (.c (.d (.lit (.int .i64 1))))⟩, ⟨some 17, none, .mv (.t 100)⟩] false [] k40) (blockR 1 (run O N (endL v40L1) E H))) := by
  obtain ⟨a0, a4, a15, a16, a17, b12, a12, h12, vs, a5, ht⟩ := hM
  obtain ⟨b', H', p1, p2⟩ := ht.push (by omega) t
  have hw := wrap_small (i := i) (by omega)
  simp only [encs] at a0 a15
  simp [endL, v40L1, VCode.tailR, a0, a4, a5, a12, a15, a16, a17, h12, elemsV_new, p1, hw, Q40, hn]
  exact ⟨_, _, ⟨rfl, rfl⟩, _, _, ⟨rfl, rfl, rfl, rfl, rfl, rfl⟩, p2⟩

/-- the stack's parts, the last one first, lie one behind the other and are all of i nodes -/
def chain : List Tp → Nat → Prop
  | [], i => i = 0
  | t :: r, i => t.at' + 1 = i ∧ 1 ≤ t.size ∧ t.size ≤ i ∧ 1 ≤ t.depth ∧ t.depth ≤ t.size ∧ ∃ k : Nat, (k : Int) + t.size = i ∧ chain r k

theorem chain_bd : ∀ {r : List Tp} {i : Nat}, chain r i → r.length ≤ i ∧ ∀ t ∈ r, 1 ≤ t.size ∧ t.size ≤ i ∧ 1 ≤ t.depth ∧ t.depth ≤ i
  | [], i, h => ⟨by simp, fun t ht => by cases ht⟩
  | t :: r, i, h => by
    obtain ⟨h1, h2, h3, h4, h5, k, h6, h7⟩ := h
    obtain ⟨g1, g2⟩ := chain_bd h7
    refine ⟨by simp; omega, fun u hu => ?_⟩
    rcases List.mem_cons.1 hu with rfl | hu
    · omega
    · have := g2 u hu; omega

theorem chain_top {x : Nd} {i : Nat} {st s0 : List Tp} {t : Tp} (hc : chain st.reverse i) (hn : node40 x i st = some (s0, t)) : chain (s0 ++ [t]).reverse (i + 1) := by
  unfold node40 at hn
  split at hn
  · cases hn
  · rename_i m hm
    split at hn
    · cases hn
    · rename_i hlt
      split at hn
      · simp only [Option.some.injEq, Prod.mk.injEq] at hn
        have hm2 : m = 0 ∨ m = 1 ∨ m = 2 := by
          unfold partsK at hm
          split at hm
          · obtain rfl := Option.some.inj hm
            unfold cnt
            by_cases k4 : x.kind ≤ 4
            · simp [k4]
            · by_cases k6 : x.kind ≤ 6 <;> simp [k4, k6]
          · cases hm
        rcases hm2 with rfl | rfl | rfl
        · simp [topT] at hn
          obtain ⟨rfl, rfl⟩ := hn
          simp only [List.reverse_append, List.reverse_cons, List.reverse_nil, List.nil_append, List.singleton_append, chain]
          exact ⟨by omega, by omega, by omega, by omega, by omega, i, by omega, hc⟩
        · obtain ⟨s1, p, rfl⟩ := snoc1 (l := st) (by omega)
          simp [topT] at hn
          obtain ⟨rfl, rfl⟩ := hn
          simp only [List.reverse_append, List.reverse_cons, List.reverse_nil, List.nil_append, List.singleton_append, chain] at hc ⊢
          obtain ⟨h1, h2, h3, h4, h5, k, h6, h7⟩ := hc
          refine ⟨by omega, by omega, by omega, ?_, ?_, k, by omega, h7⟩ <;> split <;> omega
        · obtain ⟨s1, p, q, rfl⟩ := snoc2 (l := st) (by omega)
          simp [topT] at hn
          obtain ⟨rfl, rfl⟩ := hn
          simp only [List.reverse_append, List.reverse_cons, List.reverse_nil, List.nil_append, List.singleton_append, List.cons_append, chain] at hc ⊢
          obtain ⟨h1, h2, h3, h4, h5, k, h6, g1, g2, g3, g4, g5, k', g6, g7⟩ := hc
          refine ⟨by omega, by omega, by omega, ?_, ?_, k', by omega, g7⟩ <;> (repeat' split) <;> omega
      · cases hn

theorem node40_at {x : Nd} {i : Nat} {st s0 : List Tp} {t : Tp} (hn : node40 x i st = some (s0, t)) : ∀ n, s0.length ≤ n ∨ True := fun _ => .inr trivial

/-- what is told of the nodes from the i-th on, behind those that are told -/
def tops40 : List Nd → Nat → List Tp → List Tp → Bool × List Tp × List Tp
  | [], _, all, st => (true, all, st)
  | x :: l, i, all, st => match node40 x i st with
    | some (s0, t) => tops40 l (i + 1) (all ++ [t]) (s0 ++ [t])
    | none => (false, all, st)

def L40 (l : List Nd) (o : Bool × List Tp × List Tp) (r : R) : Prop :=
  match r with
  | some (.exit 0, E', H') => ∃ all st va vs, o = (true, all, st) ∧ all.length = l.length ∧ st.length ≤ l.length ∧ chain st.reverse l.length ∧ E40 l l.length va vs E' ∧ Two40 H' va vs all st
  | some (.ret, E', H') => ∃ all st, o = (false, all, st) ∧ OwnL H' (E'.at 2) 84 3 (cellsT all) ∧ E'.at 3 = V.bool false
  | _ => False

theorem loop40 (O : Calls') (N : Nat) (hN : 1001 ≤ N) (h47 : ∀ k H, 0 ≤ k → O.run 47 [.d (du k)] H = some (.tup [V.int .i64 ((partsK k).getD 0 : Nat), V.int .i64 (if (partsK k).isSome then 0 else 2)], H))
    (h48n : ∀ H, O.run 48 [.nilS, V.int .i64 0] H = some (.tup [.nilS, .nilS], H))
    (h48 : ∀ (H : Heap) (b len cap n : Nat), len < 1000 → len ≤ cap → n ≤ len → 0 < len → O.run 48 [.ref b 3 0 len cap, V.int .i64 n] H = some (.tup [.ref b 3 0 (len - n) cap, if cap = len - n then .d (.sl []) else .ref b 3 (len - n) n (cap - (len - n))], H))
    (l : List Nd) (hl : l.length ≤ 60) (hwf : ∀ x ∈ l, x.wf) : ∀ (k i m : Nat) (va vs : V) (all st : List Tp) (H : Heap) (E : Env), i + k = l.length → all.length = i → chain st.reverse i → Two40 H va vs all st → E40 l i va vs E →
    L40 l (tops40 (l.drop i) i all st) (runLoop (run O N v40L1) (k + 1 + m) E H)
  | 0, i, m, va, vs, all, st, H, E, hk, hal, hc, ht, hE => by
    obtain rfl : i = l.length := by omega
    obtain ⟨a0, a4, a5, a15, a16, a17⟩ := hE
    simp only [encs] at a0 a15
    have hb := (chain_bd hc).1
    rw [List.length_reverse] at hb
    rw [show 0 + 1 + m = m + 1 from by omega, runLoop_step]
    simp [v40L1, a0, a4, a5, a15, a16, a17, loopR_exit, L40, tops40]
    exact ⟨_, _, ⟨rfl, rfl⟩, hal, hb, hc, _, _, ⟨rfl, rfl, rfl, rfl, rfl, rfl⟩, ht⟩
  | k + 1, i, m, va, vs, all, st, H, E, hk, hal, hc, ht, hE => by
    have hi : i < l.length := by omega
    obtain ⟨hb1, hb2⟩ := chain_bd hc
    rw [List.length_reverse] at hb1
    rw [show k + 1 + 1 + m = (k + 1 + m) + 1 from by omega, runLoop_step, List.drop_eq_getElem_cons hi, tops40]
    have hr := first40 O N hN (endL v40L1) h47 h48n h48 l hl i hi (hwf _ (List.getElem_mem hi)).1 va vs all st H E hal hb1 (fun t h => by have := hb2 t (List.mem_reverse.2 h); omega) ht hE
    rw [show cutL v40L1 (endL v40L1) = v40L1 from rfl] at hr
    rcases hr with ⟨hn, E', H', he, g1, g2⟩ | ⟨s0, t, E', H', hn, hM, he⟩
    · rw [he, hn, loopR_ret]
      exact ⟨_, _, rfl, g1, g2⟩
    · have hq := second40 O N l hl i hi va all s0 st t H' E' (some (s0, t)) rfl hal hM
      rw [← he] at hq
      rw [hn]
      unfold Q40 at hq
      split at hq
      · rename_i E2 H2 he2
        obtain ⟨s1, t1, va', vs', e1, hE2, ht2⟩ := hq
        simp only [Option.some.injEq, Prod.mk.injEq] at e1
        obtain ⟨rfl, rfl⟩ := e1
        rw [he2, loopR_normal]
        exact loop40 O N hN h47 h48n h48 l hl hwf k (i + 1) m va' vs' _ _ H2 E2 (by omega) (by simp [hal]) (chain_top hc hn) ht2 hE2
      · rename_i E2 H2 he2
        cases hq.1
      · exact hq.elim
end Go.Proofs.Ytomeaojdihfgmaa
