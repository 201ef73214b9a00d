/- The functions of BoundWindows: the stack of parts (the program). -/
import Derived.Test.YtomeaojdihfgmaaKe
import Derived.Test.YtomeaojdihfgmaaVmG
namespace Go.Proofs.Ytomeaojdihfgmaa
open Go.VM Go.Proofs.Ytomeaojdihfgmaa.Data
set_option linter.unusedVariables false
set_option linter.unusedSimpArgs false
attribute [local simp] run_seq run_cond run_block run_region run_skip run_exit run_ret runOps_nil runOps_cons stepO_plain stepO_guard seqR_normal seqR_ret seqR_exit seqR_ite condR_bool blockR_normal blockR_ret blockR_exit blockR_ite opsR_some opsR_ite regR_some regR_ite guardR_some putR_some putR_ite finR_normal finR_ret finR_ite wants runOp evalOp X.ev Env.at putE Env.keep startE binV unV resV mapO resOne loadV storeV V.cells V.isCell fillV fillE V.nat? run_loop run_regionD runDraw footO readsOp writesOp touchOp wtouchOp touchV inOrder meets
attribute [local simp] newBlk_app newBlk_one blk_lit0 blk_lit1 blk_lit2 blk_lit3 blk_lit4 blk_lit5 blk_lit6 blk_lit7 blk_tail blk_tail0 blk_head set_tail set_tail0 set_head

theorem snoc1 {α : Type} {l : List α} (h : 1 ≤ l.length) : ∃ s0 p, l = s0 ++ [p] :=
  ⟨l.dropLast, l.getLast (by intro e; simp [e] at h), (List.dropLast_concat_getLast _).symm⟩
theorem snoc2 {α : Type} {l : List α} (h : 2 ≤ l.length) : ∃ s0 p q, l = s0 ++ [p, q] := by
  obtain ⟨s1, q, rfl⟩ := snoc1 (l := l) (by omega)
  simp at h
  obtain ⟨s0, p, rfl⟩ := snoc1 (l := s1) (by omega)
  exact ⟨s0, p, q, by simp⟩
theorem nn {n : Nat} : ¬ ((n : Int) < 0) := by omega
theorem nle {n : Nat} : ¬ n + 1 ≤ n := by omega
theorem wr1 : IntKind.wrap .i64 1 = 1 := wrap_id ⟨by omega, by omega⟩
theorem wr2 : IntKind.wrap .i64 2 = 2 := wrap_id ⟨by omega, by omega⟩
attribute [local simp] nn nle wr1 wr2
/-- what is told of a node: index, size, depth -/
structure Tp where
  at' : Int
  size : Int
  depth : Int
def Tp.enc (t : Tp) : List D := [di t.at', di t.size, di t.depth]
def cellsT (l : List Tp) : List (List V) := (l.map Tp.enc).map (·.map .d)
theorem cellsT_at {l : List Tp} {i : Nat} {t : Tp} (h : l[i]? = some t) : (cellsT l)[i]? = some [.d (di t.at'), .d (di t.size), .d (di t.depth)] := by simp [cellsT, h, Tp.enc]
theorem cellsT_len (l : List Tp) : (cellsT l).length = l.length := by simp [cellsT]
theorem cellsT_snoc (l : List Tp) (t : Tp) : cellsT l ++ [[.d (di t.at'), .d (di t.size), .d (di t.depth)]] = cellsT (l ++ [t]) := by simp [cellsT, Tp.enc]

/-- the stack: at the head of a block of its own, with room behind it -/
def OwnS (H : Heap) (v : V) (es : List Tp) : Prop := (v = .nilS ∧ es = []) ∨ ∃ b rest, es ≠ [] ∧ v = .ref b 3 0 es.length (es.length + rest.length) ∧ H.blk b = some ⟨84, 3, cellsT es ++ rest⟩

theorem fn48n (O : Calls') (N : Nat) (H : Heap) : runFn O N v48 [.nilS, V.int .i64 0] H = some (.tup [.nilS, .nilS], H) := by
  rw [runFn_eq _ _ (Nat.le_of_ble_eq_true rfl)]
  have h0 : IntKind.wrap .i64 (0 : Int) = 0 := wrap_id ⟨by omega, by omega⟩
  simp [v48, slcV, bdV, h0]

theorem fn48 (O : Calls') (N : Nat) (H : Heap) (b len cap n : Nat) (hl : len < 1000) (hc : len ≤ cap) (hn : n ≤ len) (hp : 0 < len) : runFn O N v48 [.ref b 3 0 len cap, V.int .i64 n] H = some (.tup [.ref b 3 0 (len - n) cap, if cap = len - n then .d (.sl []) else .ref b 3 (len - n) n (cap - (len - n))], H) := by
  rw [runFn_eq _ _ (Nat.le_of_ble_eq_true rfl)]
  have h0 : IntKind.wrap .i64 ((len : Int) - n) = (len - n : Nat) := by rw [wrap_id ⟨by omega, by omega⟩]; omega
  have h1 : len - n ≤ cap := by omega
  have h2 : ¬ cap = 0 := by omega
  have h3 : len - (len - n) = n := by omega
  have h4 : len - n ≤ len := by omega
  by_cases h5 : cap = len - n
  · obtain rfl : n = 0 := by omega
    obtain rfl : cap = len := by omega
    have h0' : IntKind.wrap .i64 (cap : Int) = cap := wrap_id ⟨by omega, by omega⟩
    simp [v48, slcV, bdV, h0', h2]
  · simp [v48, slcV, bdV, h0, h1, h2, h3, h4, hc, h5]

structure E40 (l : List Nd) (i : Nat) (va vs : V) (E : Env) : Prop where
  a0 : E.at 0 = .d (encs l)
  a4 : E.at 4 = va
  a5 : E.at 5 = vs
  a15 : E.at 15 = .d (encs l)
  a16 : E.at 16 = V.int .i64 l.length
  a17 : E.at 17 = V.int .i64 i

/-- the two slices, apart -/
structure Two40 (H : Heap) (va vs : V) (all st : List Tp) : Prop where
  a : OwnL H va 84 3 (cellsT all)
  s : OwnS H vs st
  ne : ∀ c ∈ touchV va, c ∉ touchV vs

theorem Two40.lt {H : Heap} {va vs : V} {all st : List Tp} (h : Two40 H va vs all st) : ∀ c ∈ touchV va, c < H.length := h.a.lt
/-- the stack behind a push that made a block -/
theorem Two40.made {H : Heap} {va vs : V} {all st st' : List Tp} {t : Tp} (h : Two40 H va vs all st) {K L : Heap} {k : Nat} (hK : K.length = H.length) (hb : ∀ c ∈ touchV va, K.blk c = H.blk c)
    (hl : L.blk k = some ⟨84, 3, cellsT (st' ++ [t])⟩) : Two40 (K ++ L) va (.ref (H.length + k) 3 0 (st'.length + 1) (st'.length + 1)) all (st' ++ [t]) := by
  refine ⟨h.a.mono fun c hc hl => ?_, .inr ⟨H.length + k, [], by simp, by simp, ?_⟩, fun c hc hc2 => ?_⟩
  · rw [blk_head (by rw [hK]; exact hl), hb c hc]
  · rw [blk_tail hK.symm, hl]; simp
  · have := h.a.lt c hc
    simp [touchV] at hc2; omega
/-- the stack behind a push in place -/
theorem Two40.put {H : Heap} {va : V} {b : Nat} {L : Heap} {n c : Nat} {all st st' : List Tp} {t : Tp} {rest : List (List V)} (h : Two40 H va (.ref b 3 0 n c) all st) (hb : b < H.length) :
    Two40 (H.set b (some ⟨84, 3, cellsT (st' ++ [t]) ++ rest⟩) ++ L) va (.ref b 3 0 (st'.length + 1) (st'.length + 1 + rest.length)) all (st' ++ [t]) := by
  have hne : ∀ c ∈ touchV va, c ≠ b := fun c hc e => h.ne c hc (by simp [touchV, e])
  refine ⟨h.a.mono fun c hc hl => ?_, .inr ⟨b, rest, by simp, by simp, ?_⟩, fun c hc hc2 => ?_⟩
  · rw [blk_head (by simpa using hl), Heap.blk_set hb, if_neg (hne c hc)]
  · rw [blk_head (by simpa using hb), Heap.blk_set hb, if_pos rfl]
  · exact h.ne c hc (by simpa [touchV] using hc2)

def partsK (k : Int) : Option Nat := if 1 ≤ k ∧ k ≤ 19 then some (cnt k) else none
/-- what the program tells of a node behind parts -/
def topT (x : Nd) (i : Nat) (parts : List Tp) : Tp :=
  match parts with
  | [] => ⟨i, 1, 1⟩
  | [p] => ⟨i, 1 + p.size, if 1 < p.depth + 1 then p.depth + 1 else 1⟩
  | p :: q :: _ => ⟨i, 1 + p.size + q.size, let d := if 1 < p.depth + 1 then p.depth + 1 else 1; if d < q.depth + 1 then q.depth + 1 else d⟩
def ownA (parts : List Tp) : Int := match parts with | [] => 0 | p :: _ => p.at'
def ownB (parts : List Tp) : Int := match parts with | _ :: q :: _ => q.at' | _ => 0
/-- the node is what its parts ask for -/
def own40 (x : Nd) (parts : List Tp) : Prop := x.n = (if x.kind = 1 then (if x.n < 0 then 0 else x.n) else 0) ∧ x.a = ownA parts ∧ x.b = ownB parts ∧ 0 ≤ x.at' ∧ x.at' ≤ 400
instance (x : Nd) (parts : List Tp) : Decidable (own40 x parts) := by unfold own40; infer_instance
def node40 (x : Nd) (i : Nat) (st : List Tp) : Option (List Tp × Tp) :=
  match partsK x.kind with
  | none => none
  | some n => if st.length < n then none else if own40 x (st.drop (st.length - n)) then some (st.take (st.length - n), topT x i (st.drop (st.length - n))) else none

def Q40 (l : List Nd) (i : Nat) (all : List Tp) (n : Option (List Tp × Tp)) (r : R) : Prop :=
  match r with
  | some (.normal, E', H') => ∃ st t va vs, n = some (st, t) ∧ E40 l (i + 1) va vs E' ∧ Two40 H' va vs (all ++ [t]) (st ++ [t])
  | some (.ret, E', H') => n = none ∧ OwnL H' (E'.at 2) 84 3 (cellsT all) ∧ E'.at 3 = V.bool false
  | _ => False

/-- the first part of a round: what is left is the list of all -/
def M40 (l : List Nd) (i : Nat) (va : V) (all st : List Tp) (t : Tp) (E : Env) (H : Heap) : Prop :=
  E.at 0 = .d (encs l) ∧ E.at 4 = va ∧ E.at 15 = .d (encs l) ∧ E.at 16 = V.int .i64 l.length ∧ E.at 17 = V.int .i64 i ∧ ∃ b12, E.at 12 = .ptr b12 3 0 0 ∧ H.blk b12 = some ⟨84, 3, [[.d (di t.at'), .d (di t.size), .d (di t.depth)]]⟩ ∧ ∃ vs, E.at 5 = vs ∧ Two40 H va vs all (st ++ [t])
def P40 (O : Calls') (N : Nat) (t40 : VCode) (l : List Nd) (i : Nat) (va : V) (all st : List Tp) (H : Heap) (n : Option (List Tp × Tp)) (r : R) : Prop :=
  (n = none ∧ ∃ E' H', r = some (.ret, E', H') ∧ OwnL H' (E'.at 2) 84 3 (cellsT all) ∧ E'.at 3 = V.bool false) ∨
  (∃ st' t E' H', n = some (st', t) ∧ M40 l i va all st' t E' H' ∧ r = seqR O N (VCode.region [⟨some 100, none, .bin .add (.t 17) (.c (.d (.lit (.int .i64 1))))⟩, ⟨some 17, none, .mv (.t 100)⟩] false [] k40) (blockR 1 (run O N t40 E' H')))

set_option maxHeartbeats 4000000 in
theorem first40 (O : Calls') (N : Nat) (hN : 1001 ≤ N) (t40 : VCode) (h47 : ∀ k H, 0 ≤ k → O.run 47 [.d (du k)] H = some (.tup [V.int .i64 ((partsK k).getD 0 : Nat), V.int .i64 (if (partsK k).isSome then 0 else 2)], H))
    (h48n : ∀ H, O.run 48 [.nilS, V.int .i64 0] H = some (.tup [.nilS, .nilS], H))
    (h48 : ∀ (H : Heap) (b len cap n : Nat), len < 1000 → len ≤ cap → n ≤ len → 0 < len → O.run 48 [.ref b 3 0 len cap, V.int .i64 n] H = some (.tup [.ref b 3 0 (len - n) cap, if cap = len - n then .d (.sl []) else .ref b 3 (len - n) n (cap - (len - n))], H))
    (l : List Nd) (hl : l.length ≤ 60) (i : Nat) (hi : i < l.length) (hw0 : U l[i].kind) (va vs : V) (all st : List Tp) (H : Heap) (E : Env) (hal : all.length = i) (hsl : st.length ≤ i) (hbd : ∀ t ∈ st, 1 ≤ t.size ∧ t.size ≤ 60 ∧ 1 ≤ t.depth ∧ t.depth ≤ 60) (ht : Two40 H va vs all st) (hE : E40 l i va vs E) :
    P40 O N t40 l i va all st H (node40 l[i] i st) (run O N (cutL v40L1 t40) E H) := by
  unfold v40L1
  simp only [cutL, VCode.putR]
  generalize hc : v40L0 = lc
  obtain ⟨a0, a4, a5, a15, a16, a17⟩ := hE
  simp only [encs] at a0 a15
  have hlt : ((i : Int) < (l.length : Int)) := by omega
  have hw := wrap_small (i := i) (by omega)
  have hx2 : l[i]? = some l[i] := List.getElem?_eq_getElem hi
  generalize l[i] = x at *
  have hk := fun H => h47 x.kind H hw0.1
  unfold node40
  obtain ⟨k, n, xa, xb, xt⟩ := x
  simp only [] at *
  cases hpk : partsK k with
  | none =>
    rw [hpk] at hk
    simp at hk
    simp [a0, a4, a5, a15, a16, a17, hlt, hx2, Nd.enc, hk, P40]
    exact ⟨_, _, ⟨rfl, rfl⟩, ht.a.mono fun c _ hc => by simp [hc], rfl⟩
  | some m =>
    rw [hpk] at hk
    simp at hk
    simp only
    by_cases hsm : st.length < m
    · rw [if_pos hsm]
      rcases ht.s with ⟨rfl, rfl⟩ | ⟨b, rest, hne, rfl, hb⟩
      · have hm0 : 0 < m := hsm
        simp [a0, a4, a5, a15, a16, a17, hlt, hx2, Nd.enc, hk, hm0, P40]
        exact ⟨_, _, ⟨rfl, rfl⟩, ht.a.mono fun c _ hc => by simp [hc], rfl⟩
      · simp [a0, a4, a5, a15, a16, a17, hlt, hx2, Nd.enc, hk, hsm, P40]
        exact ⟨_, _, ⟨rfl, rfl⟩, ht.a.mono fun c _ hc => by simp [hc], rfl⟩
    · rw [if_neg hsm]
      have hl : ∀ m E H, runLoop (run O N lc) (m + 1) E H = loopR (run O N lc) m (run O N v40L0 E H) := fun m E H => by
        rw [hc, runLoop_step]
      have hl1 : ∀ E H, runLoop (run O N lc) N E H = loopR (run O N lc) (N - 1) (run O N v40L0 E H) := fun E H => by
        rw [← hl, show N - 1 + 1 = N from by omega]
      have hl2 : ∀ E H, runLoop (run O N lc) (N - 1) E H = loopR (run O N lc) (N - 2) (run O N v40L0 E H) := fun E H => by
        rw [← hl, show N - 2 + 1 = N - 1 from by omega]
      have hl3 : ∀ E H, runLoop (run O N lc) (N - 2) E H = loopR (run O N lc) (N - 3) (run O N v40L0 E H) := fun E H => by
        rw [← hl, show N - 3 + 1 = N - 2 from by omega]
      obtain ⟨c2, hm1, hm2⟩ : ∃ c2, ((maxV (V.int .i64 xt) (V.int .i64 0)).bind fun a => minV a (V.int .i64 400)) = some (V.int .i64 c2) ∧ (c2 = xt ↔ 0 ≤ xt ∧ xt ≤ 400) := by
        by_cases h1 : xt < 0
        · exact ⟨0, by simp [maxV, minV, h1], by omega⟩
        · by_cases h2 : 400 < xt
          · exact ⟨400, by simp [maxV, minV, h1, h2], by omega⟩
          · exact ⟨xt, by simp [maxV, minV, h1, h2], by omega⟩
      obtain ⟨c1, hm3⟩ : ∃ c1, maxV (V.int .i64 xt) (V.int .i64 0) = some (V.int .i64 c1) := ⟨_, rfl⟩
      rw [hm3, Option.bind_some] at hm1
      obtain ⟨c3, hm4, hm5⟩ : ∃ c3, maxV (V.int .i64 n) (V.int .i64 0) = some (V.int .i64 c3) ∧ c3 = (if n < 0 then 0 else n) := ⟨_, rfl, rfl⟩
      rcases Nat.eq_zero_or_pos m with rfl | hm0
      · simp only [Nat.sub_zero, List.drop_length, List.take_length]
        have hroom : (st.length + 1) * 24 ≤ 140737488355328 := by omega
        by_cases hk1 : k = 1
        · subst hk1
          have heq : cellsEq [1, 1, 1, 1, 1] [.d (du 1), .d (di c3), .d (di 0), .d (di 0), .d (di c2)] [.d (du 1), .d (di n), .d (di xa), .d (di xb), .d (di xt)] = some (decide (own40 ⟨1, n, xa, xb, xt⟩ [])) := by
            have e1 : (c3 = n) ↔ n = (if n < 0 then 0 else n) := by rw [hm5]; exact eq_comm
            simp only [cellsEq, kindEq, own40, ownA, ownB, if_true, if_true, ← e1, ← hm2, Option.some.injEq]
            rw [Bool.eq_iff_iff]
            simp only [Bool.and_eq_true, beq_iff_eq, decide_eq_true_eq, and_true, true_and]
            omega
          by_cases hown : own40 ⟨1, n, xa, xb, xt⟩ []
          · rcases ht.s with ⟨rfl, rfl⟩ | ⟨b, rest, hne, rfl, hb⟩
            · simp [v40L0, a0, a4, a5, a15, a16, a17, hlt, hx2, Nd.enc, hk, hl1, hl2, hl3, loopR_exit, loopR_normal, hm1, hm3, hm4, elemsV, appV, room, P40, h48n, heq, hown]
              exact ⟨_, _, ⟨rfl, rfl⟩, _, _, ⟨rfl, rfl, rfl, rfl, rfl, H.length + 2, rfl, by simp [topT], _, rfl, ht.made (st' := []) (k := 4) rfl (fun _ _ => rfl) (by simp [cellsT, Tp.enc, topT])⟩, rfl⟩
            · have hb0 := Heap.blk_lt hb
              have hL : 0 < st.length := List.length_pos_iff.2 hne
              have hp := fun H => h48 H b st.length (st.length + rest.length) 0 (by omega) (by omega) (by omega) hL
              simp at hp
              rcases rest with _ | ⟨r, rs⟩
              · simp at hp a5 hb
                have ht1 : (cellsT st).take st.length = cellsT st := by rw [← cellsT_len st, List.take_length]
                simp [v40L0, a0, a4, a5, a15, a16, a17, hlt, hx2, Nd.enc, hk, hl1, hl2, hl3, loopR_exit, loopR_normal, hm1, hm3, hm4, elemsV, appV, room, P40, hp, heq, hown, hb, hb0, cellsT_len, hroom, ht1]
                refine ⟨_, _, ⟨rfl, rfl⟩, _, _, ⟨rfl, rfl, rfl, rfl, rfl, H.length + 2, rfl, by simp [topT], _, rfl, ?_⟩, rfl⟩
                refine ht.made (k := 4) (by simp) (fun c hc => ?_) (by simp [cellsT, Tp.enc, topT])
                rw [Heap.blk_set hb0, if_neg (fun e => ht.ne c hc (by simp [touchV, e]))]
              · simp at hp a5 hb
                have hd1 : (cellsT st ++ r :: rs).drop (st.length + 1) = rs := by rw [← cellsT_len st, List.drop_append]; simp
                have ht1 : (cellsT st ++ r :: rs).take st.length = cellsT st := by rw [← cellsT_len st, List.take_left]
                simp [v40L0, a0, a4, a5, a15, a16, a17, hlt, hx2, Nd.enc, hk, hl1, hl2, hl3, loopR_exit, loopR_normal, hm1, hm3, hm4, elemsV, appV, room, P40, hp, heq, hown, hb, hb0, cellsT_len, ht1, hd1]
                refine ⟨_, _, ⟨rfl, rfl⟩, _, _, ⟨rfl, rfl, rfl, rfl, rfl, H.length + 2, rfl, by simp [topT], _, rfl, ?_⟩, rfl⟩
                have := fun L => ht.put (st' := st) (t := topT ⟨1, n, xa, xb, xt⟩ i []) (rest := rs) (L := L) hb0
                simp only [show st.length + 1 + rs.length = st.length + (rs.length + 1) from by omega] at this
                simp [cellsT, Tp.enc, topT] at this ⊢
                exact this _
          · rcases ht.s with ⟨rfl, rfl⟩ | ⟨b, rest, hne, rfl, hb⟩
            · simp [v40L0, a0, a4, a5, a15, a16, a17, hlt, hx2, Nd.enc, hk, hl1, hl2, hl3, loopR_exit, loopR_normal, hm1, hm3, hm4, elemsV, appV, room, P40, h48n, heq, hown]
              exact ⟨_, _, ⟨rfl, rfl⟩, ht.a.mono fun c _ hc => by simp [hc], rfl⟩
            · have hb0 := Heap.blk_lt hb
              have hL : 0 < st.length := List.length_pos_iff.2 hne
              have hp := fun H => h48 H b st.length (st.length + rest.length) 0 (by omega) (by omega) (by omega) hL
              simp at hp
              rcases rest with _ | ⟨r, rs⟩
              · simp at hp a5 hb
                simp [v40L0, a0, a4, a5, a15, a16, a17, hlt, hx2, Nd.enc, hk, hl1, hl2, hl3, loopR_exit, loopR_normal, hm1, hm3, hm4, elemsV, appV, room, P40, hp, heq, hown, hb, hb0]
                exact ⟨_, _, ⟨rfl, rfl⟩, ht.a.mono fun c _ hc => by simp [hc], rfl⟩
              · simp at hp a5 hb
                simp [v40L0, a0, a4, a5, a15, a16, a17, hlt, hx2, Nd.enc, hk, hl1, hl2, hl3, loopR_exit, loopR_normal, hm1, hm3, hm4, elemsV, appV, room, P40, hp, heq, hown, hb, hb0]
                exact ⟨_, _, ⟨rfl, rfl⟩, ht.a.mono fun c _ hc => by simp [hc], rfl⟩
        · have heq : cellsEq [1, 1, 1, 1, 1] [.d (du k), .d (di 0), .d (di 0), .d (di 0), .d (di c2)] [.d (du k), .d (di n), .d (di xa), .d (di xb), .d (di xt)] = some (decide (own40 ⟨k, n, xa, xb, xt⟩ [])) := by
            simp only [cellsEq, kindEq, own40, ownA, ownB, if_true, if_neg hk1, ← hm2, Option.some.injEq]
            rw [Bool.eq_iff_iff]
            simp only [Bool.and_eq_true, beq_iff_eq, decide_eq_true_eq, and_true, true_and]
            omega
          by_cases hown : own40 ⟨k, n, xa, xb, xt⟩ []
          · rcases ht.s with ⟨rfl, rfl⟩ | ⟨b, rest, hne, rfl, hb⟩
            · simp [v40L0, a0, a4, a5, a15, a16, a17, hlt, hx2, Nd.enc, hk, hl1, hl2, hl3, loopR_exit, loopR_normal, hm1, hm3, hm4, elemsV, appV, room, P40, hk1, h48n, heq, hown]
              exact ⟨_, _, ⟨rfl, rfl⟩, _, _, ⟨rfl, rfl, rfl, rfl, rfl, H.length + 2, rfl, by simp [topT], _, rfl, ht.made (st' := []) (k := 4) rfl (fun _ _ => rfl) (by simp [cellsT, Tp.enc, topT])⟩, rfl⟩
            · have hb0 := Heap.blk_lt hb
              have hL : 0 < st.length := List.length_pos_iff.2 hne
              have hp := fun H => h48 H b st.length (st.length + rest.length) 0 (by omega) (by omega) (by omega) hL
              simp at hp
              rcases rest with _ | ⟨r, rs⟩
              · simp at hp a5 hb
                have ht1 : (cellsT st).take st.length = cellsT st := by rw [← cellsT_len st, List.take_length]
                simp [v40L0, a0, a4, a5, a15, a16, a17, hlt, hx2, Nd.enc, hk, hl1, hl2, hl3, loopR_exit, loopR_normal, hm1, hm3, hm4, elemsV, appV, room, P40, hk1, hp, heq, hown, hb, hb0, cellsT_len, hroom, ht1]
                refine ⟨_, _, ⟨rfl, rfl⟩, _, _, ⟨rfl, rfl, rfl, rfl, rfl, H.length + 2, rfl, by simp [topT], _, rfl, ?_⟩, rfl⟩
                refine ht.made (k := 4) (by simp) (fun c hc => ?_) (by simp [cellsT, Tp.enc, topT])
                rw [Heap.blk_set hb0, if_neg (fun e => ht.ne c hc (by simp [touchV, e]))]
              · simp at hp a5 hb
                have hd1 : (cellsT st ++ r :: rs).drop (st.length + 1) = rs := by rw [← cellsT_len st, List.drop_append]; simp
                have ht1 : (cellsT st ++ r :: rs).take st.length = cellsT st := by rw [← cellsT_len st, List.take_left]
                simp [v40L0, a0, a4, a5, a15, a16, a17, hlt, hx2, Nd.enc, hk, hl1, hl2, hl3, loopR_exit, loopR_normal, hm1, hm3, hm4, elemsV, appV, room, P40, hk1, hp, heq, hown, hb, hb0, cellsT_len, ht1, hd1]
                refine ⟨_, _, ⟨rfl, rfl⟩, _, _, ⟨rfl, rfl, rfl, rfl, rfl, H.length + 2, rfl, by simp [topT], _, rfl, ?_⟩, rfl⟩
                have := fun L => ht.put (st' := st) (t := topT ⟨k, n, xa, xb, xt⟩ i []) (rest := rs) (L := L) hb0
                simp only [show st.length + 1 + rs.length = st.length + (rs.length + 1) from by omega] at this
                simp [cellsT, Tp.enc, topT] at this ⊢
                exact this _
          · rcases ht.s with ⟨rfl, rfl⟩ | ⟨b, rest, hne, rfl, hb⟩
            · simp [v40L0, a0, a4, a5, a15, a16, a17, hlt, hx2, Nd.enc, hk, hl1, hl2, hl3, loopR_exit, loopR_normal, hm1, hm3, hm4, elemsV, appV, room, P40, hk1, h48n, heq, hown]
              exact ⟨_, _, ⟨rfl, rfl⟩, ht.a.mono fun c _ hc => by simp [hc], rfl⟩
            · have hb0 := Heap.blk_lt hb
              have hL : 0 < st.length := List.length_pos_iff.2 hne
              have hp := fun H => h48 H b st.length (st.length + rest.length) 0 (by omega) (by omega) (by omega) hL
              simp at hp
              rcases rest with _ | ⟨r, rs⟩
              · simp at hp a5 hb
                simp [v40L0, a0, a4, a5, a15, a16, a17, hlt, hx2, Nd.enc, hk, hl1, hl2, hl3, loopR_exit, loopR_normal, hm1, hm3, hm4, elemsV, appV, room, P40, hk1, hp, heq, hown, hb, hb0]
                exact ⟨_, _, ⟨rfl, rfl⟩, ht.a.mono fun c _ hc => by simp [hc], rfl⟩
              · simp at hp a5 hb
                simp [v40L0, a0, a4, a5, a15, a16, a17, hlt, hx2, Nd.enc, hk, hl1, hl2, hl3, loopR_exit, loopR_normal, hm1, hm3, hm4, elemsV, appV, room, P40, hk1, hp, heq, hown, hb, hb0]
                exact ⟨_, _, ⟨rfl, rfl⟩, ht.a.mono fun c _ hc => by simp [hc], rfl⟩
      · have hk1 : ¬ k = 1 := fun e => by
          subst e
          simp [partsK, cnt] at hpk
          omega
        have hm12 : m = 1 ∨ m = 2 := by
          unfold partsK at hpk
          split at hpk
          · obtain rfl := Option.some.inj hpk
            unfold cnt at hm0 ⊢
            by_cases k4 : k ≤ 4
            · simp [k4] at hm0
            · by_cases k6 : k ≤ 6 <;> simp [k4, k6]
          · cases hpk
        rcases hm12 with rfl | rfl
        · obtain ⟨s0, p, rfl⟩ := snoc1 (l := st) (by omega)
          rw [show (s0 ++ [p]).length - 1 = s0.length from by simp, List.drop_left, List.take_left]
          obtain ⟨p1, p2, p3, p4⟩ := hbd p (by simp)
          have heq : cellsEq [1, 1, 1, 1, 1] [.d (du k), .d (di 0), .d (di p.at'), .d (di 0), .d (di c2)] [.d (du k), .d (di n), .d (di xa), .d (di xb), .d (di xt)] = some (decide (own40 ⟨k, n, xa, xb, xt⟩ [p])) := by
            simp only [cellsEq, kindEq, own40, ownA, ownB, if_true, if_neg hk1, ← hm2, Option.some.injEq]
            rw [Bool.eq_iff_iff]
            simp only [Bool.and_eq_true, beq_iff_eq, decide_eq_true_eq, and_true, true_and]
            omega
          have w1 : IntKind.wrap .i64 (1 + p.size) = 1 + p.size := wrap_id ⟨by omega, by omega⟩
          have w2 : IntKind.wrap .i64 (p.depth + 1) = p.depth + 1 := wrap_id ⟨by omega, by omega⟩
          have x1 : maxV (V.int .i64 1) (V.int .i64 (p.depth + 1)) = some (V.int .i64 (if 1 < p.depth + 1 then p.depth + 1 else 1)) := rfl
          generalize hg : (if 1 < p.depth + 1 then p.depth + 1 else 1) = g1 at x1
          have htop : topT ⟨k, n, xa, xb, xt⟩ i [p] = ⟨i, 1 + p.size, g1⟩ := by simp only [topT, hg]
          rw [htop]
          rcases ht.s with ⟨rfl, h0⟩ | ⟨b, rest, hne, rfl, hb⟩
          · simp at h0
          have hb0 := Heap.blk_lt hb
          have hsl' : s0.length + 1 ≤ i := by simpa using hsl
          have hp := fun H => h48 H b (s0.length + 1) (s0.length + 1 + rest.length) 1 (by omega) (by omega) (by omega) (by omega)
          have hnc : ¬ s0.length + 1 + rest.length = s0.length := by omega
          have hcc : s0.length + 1 + rest.length - s0.length = 1 + rest.length := by omega
          simp only [Nat.add_sub_cancel, if_neg hnc, hcc] at hp
          generalize hC : s0.length + 1 + rest.length = C at hp
          have hlen : (s0 ++ [p]).length = s0.length + 1 := by simp
          rw [hlen, hC] at a5 ht
          have hge : s0.length + 1 ≤ C := by omega
          obtain ⟨es, hes⟩ : ∃ es, cellsT (s0 ++ [p]) ++ rest = es := ⟨_, rfl⟩
          rw [hes] at hb
          have gp : es[s0.length]? = some [.d (di p.at'), .d (di p.size), .d (di p.depth)] := by rw [← hes]; simp [cellsT, Tp.enc]
          have gl : s0.length + 1 ≤ es.length := by rw [← hes, List.length_append, cellsT_len, hlen]; omega
          have gt : es.take s0.length = cellsT s0 := by rw [← hes]; simp [cellsT]
          have gd : es.drop (s0.length + 1) = [] ++ rest := by rw [← hes]; simp [cellsT, List.drop_append]
          have hsm' : ¬ ((s0.length : Int) + 1 < 1) := by omega
          simp at hk hp
          by_cases hown : own40 ⟨k, n, xa, xb, xt⟩ [p]
          · simp [v40L0, a0, a4, a5, a15, a16, a17, hlt, hx2, Nd.enc, hk, hl1, hl2, hl3, loopR_exit, loopR_normal, hm1, hm3, hm4, elemsV, appV, room, P40, hk1, w1, w2, x1, hp, heq, hown, hb, hb0, gp, gl, gt, gd, hge, hsm']
            refine ⟨_, _, ⟨rfl, rfl⟩, _, _, ⟨rfl, rfl, rfl, rfl, rfl, H.length + 2, rfl, by simp, _, rfl, ?_⟩, rfl⟩
            have := fun L => ht.put (st' := s0) (t := ⟨i, 1 + p.size, g1⟩) (rest := rest) (L := L) hb0
            simp only [show s0.length + 1 + (rest).length = C from by first | omega | (simp [cellsT]; omega)] at this
            simp [cellsT, Tp.enc] at this ⊢
            exact this _
          · simp [v40L0, a0, a4, a5, a15, a16, a17, hlt, hx2, Nd.enc, hk, hl1, hl2, hl3, loopR_exit, loopR_normal, hm1, hm3, hm4, elemsV, appV, room, P40, hk1, w1, w2, x1, hp, heq, hown, hb, hb0, gp, gl, gt, gd, hge, hsm']
            exact ⟨_, _, ⟨rfl, rfl⟩, ht.a.mono fun c _ hc => by simp [hc], rfl⟩
        · obtain ⟨s0, p, q, rfl⟩ := snoc2 (l := st) (by omega)
          rw [show (s0 ++ [p, q]).length - 2 = s0.length from by simp, List.drop_left, List.take_left]
          obtain ⟨p1, p2, p3, p4⟩ := hbd p (by simp)
          obtain ⟨q1, q2, q3, q4⟩ := hbd q (by simp)
          have heq : cellsEq [1, 1, 1, 1, 1] [.d (du k), .d (di 0), .d (di p.at'), .d (di q.at'), .d (di c2)] [.d (du k), .d (di n), .d (di xa), .d (di xb), .d (di xt)] = some (decide (own40 ⟨k, n, xa, xb, xt⟩ [p, q])) := by
            simp only [cellsEq, kindEq, own40, ownA, ownB, if_true, if_neg hk1, ← hm2, Option.some.injEq]
            rw [Bool.eq_iff_iff]
            simp only [Bool.and_eq_true, beq_iff_eq, decide_eq_true_eq, and_true, true_and]
            omega
          have w1 : IntKind.wrap .i64 (1 + p.size) = 1 + p.size := wrap_id ⟨by omega, by omega⟩
          have w2 : IntKind.wrap .i64 (p.depth + 1) = p.depth + 1 := wrap_id ⟨by omega, by omega⟩
          have x1 : maxV (V.int .i64 1) (V.int .i64 (p.depth + 1)) = some (V.int .i64 (if 1 < p.depth + 1 then p.depth + 1 else 1)) := rfl
          generalize hg : (if 1 < p.depth + 1 then p.depth + 1 else 1) = g1 at x1
          have w3 : IntKind.wrap .i64 (1 + p.size + q.size) = 1 + p.size + q.size := wrap_id ⟨by omega, by omega⟩
          have w4 : IntKind.wrap .i64 (q.depth + 1) = q.depth + 1 := wrap_id ⟨by omega, by omega⟩
          have x2 : maxV (V.int .i64 g1) (V.int .i64 (q.depth + 1)) = some (V.int .i64 (if g1 < q.depth + 1 then q.depth + 1 else g1)) := rfl
          generalize hg2 : (if g1 < q.depth + 1 then q.depth + 1 else g1) = g2 at x2
          have htop : topT ⟨k, n, xa, xb, xt⟩ i [p, q] = ⟨i, 1 + p.size + q.size, g2⟩ := by simp only [topT, hg, hg2]
          rw [htop]
          rcases ht.s with ⟨rfl, h0⟩ | ⟨b, rest, hne, rfl, hb⟩
          · simp at h0
          have hb0 := Heap.blk_lt hb
          have hsl' : s0.length + 2 ≤ i := by simpa using hsl
          have hp := fun H => h48 H b (s0.length + 2) (s0.length + 2 + rest.length) 2 (by omega) (by omega) (by omega) (by omega)
          have hnc : ¬ s0.length + 2 + rest.length = s0.length := by omega
          have hcc : s0.length + 2 + rest.length - s0.length = 2 + rest.length := by omega
          simp only [Nat.add_sub_cancel, if_neg hnc, hcc] at hp
          generalize hC : s0.length + 2 + rest.length = C at hp
          have hlen : (s0 ++ [p, q]).length = s0.length + 2 := by simp
          rw [hlen, hC] at a5 ht
          have hge : s0.length + 1 ≤ C := by omega
          obtain ⟨es, hes⟩ : ∃ es, cellsT (s0 ++ [p, q]) ++ rest = es := ⟨_, rfl⟩
          rw [hes] at hb
          have gp : es[s0.length]? = some [.d (di p.at'), .d (di p.size), .d (di p.depth)] := by rw [← hes]; simp [cellsT, Tp.enc]
          have gq : es[s0.length + 1]? = some [.d (di q.at'), .d (di q.size), .d (di q.depth)] := by rw [← hes]; simp [cellsT, Tp.enc]
          have gl : s0.length + 1 ≤ es.length := by rw [← hes, List.length_append, cellsT_len, hlen]; omega
          have gt : es.take s0.length = cellsT s0 := by rw [← hes]; simp [cellsT]
          have gd : es.drop (s0.length + 1) = cellsT [q] ++ rest := by rw [← hes]; simp [cellsT, List.drop_append]
          have hsm' : ¬ ((s0.length : Int) + 2 < 2) := by omega
          simp at hk hp
          by_cases hown : own40 ⟨k, n, xa, xb, xt⟩ [p, q]
          · simp [v40L0, a0, a4, a5, a15, a16, a17, hlt, hx2, Nd.enc, hk, hl1, hl2, hl3, loopR_exit, loopR_normal, hm1, hm3, hm4, elemsV, appV, room, P40, hk1, w1, w2, x1, w3, w4, x2, hp, heq, hown, hb, hb0, gp, gq, gl, gt, gd, hge, hsm']
            refine ⟨_, _, ⟨rfl, rfl⟩, _, _, ⟨rfl, rfl, rfl, rfl, rfl, H.length + 2, rfl, by simp, _, rfl, ?_⟩, rfl⟩
            have := fun L => ht.put (st' := s0) (t := ⟨i, 1 + p.size + q.size, g2⟩) (rest := cellsT [q] ++ rest) (L := L) hb0
            simp only [show s0.length + 1 + (cellsT [q] ++ rest).length = C from by first | omega | (simp [cellsT]; omega)] at this
            simp [cellsT, Tp.enc] at this ⊢
            exact this _
          · simp [v40L0, a0, a4, a5, a15, a16, a17, hlt, hx2, Nd.enc, hk, hl1, hl2, hl3, loopR_exit, loopR_normal, hm1, hm3, hm4, elemsV, appV, room, P40, hk1, w1, w2, x1, w3, w4, x2, hp, heq, hown, hb, hb0, gp, gq, gl, gt, gd, hge, hsm']
            exact ⟨_, _, ⟨rfl, rfl⟩, ht.a.mono fun c _ hc => by simp [hc], rfl⟩
end Go.Proofs.Ytomeaojdihfgmaa
