/- Plain laws of BoundWindows: the two ways to tell the sizes of nodes agree. And nodes.tops, whole. -/
import Derived.Test.YtomeaojdihfgmaaKg
namespace Go.Proofs.Ytomeaojdihfgmaa
open Go.VM Go.Proofs.Ytomeaojdihfgmaa.Data
set_option linter.unusedVariables false
set_option linter.unusedSimpArgs false
attribute [local simp] run_seq run_cond run_block run_region run_skip run_exit run_ret runOps_nil runOps_cons stepO_plain stepO_guard seqR_normal seqR_ret seqR_exit seqR_ite condR_bool blockR_normal blockR_ret blockR_exit blockR_ite opsR_some opsR_ite regR_some regR_ite guardR_some putR_some putR_ite finR_normal finR_ret finR_ite wants runOp evalOp X.ev Env.at putE Env.keep startE binV unV resV mapO resOne loadV storeV V.cells V.isCell fillV fillE V.nat? run_loop run_regionD runDraw footO readsOp writesOp touchOp wtouchOp touchV inOrder meets

/-- the two states agree -/
structure Agree (sz dp : List Int) (all st : List Tp) : Prop where
  sz : sz = all.map (·.size)
  dp : dp = all.map (·.depth)
  mem : ∀ t ∈ st, all[t.at'.toNat]? = some t
  ch : chain st.reverse all.length

theorem Agree.get {sz dp : List Int} {all st : List Tp} (h : Agree sz dp all st) {t : Tp} (ht : t ∈ st) : sz[t.at'.toNat]? = some t.size ∧ dp[t.at'.toNat]? = some t.depth := by
  have := h.mem t ht
  rw [h.sz, h.dp]
  simp [this]

theorem chain_at : ∀ {r : List Tp} {i : Nat}, chain r i → ∀ t ∈ r, 0 ≤ t.at' ∧ t.at' < i
  | [], i, h => fun t ht => by cases ht
  | u :: r, i, ⟨h1, h2, h3, h4, h5, k, h6, h7⟩ => fun t ht => by
    rcases List.mem_cons.1 ht with rfl | ht
    · omega
    · have := chain_at h7 t ht; omega

theorem Agree.snoc {sz dp : List Int} {all st s0 : List Tp} {t : Tp} (h : Agree sz dp all st) (hs : ∀ u ∈ s0, u ∈ st) (hat : t.at' = all.length) (hc : chain (s0 ++ [t]).reverse (all.length + 1)) : Agree (sz ++ [t.size]) (dp ++ [t.depth]) (all ++ [t]) (s0 ++ [t]) := by
  refine ⟨by simp [h.sz], by simp [h.dp], fun u hu => ?_, by simpa using hc⟩
  rcases List.mem_append.1 hu with hu | hu
  · have hu' := hs u hu
    have h1 := chain_at h.ch u (List.mem_reverse.2 hu')
    rw [List.getElem?_append_left (by omega)]
    exact h.mem u hu'
  · simp at hu
    subst hu
    rw [hat]
    simp

theorem right_own0 {x : Nd} (hk : 1 ≤ x.kind ∧ x.kind ≤ 19) (parts : List Tp) : rightN x (ownA parts) (ownB parts) ↔ own40 x parts := by
  unfold rightN own40
  by_cases h1 : x.kind = 1
  · by_cases h2 : x.n < 0
    · simp [h1, h2]; omega
    · simp [h1, h2]; omega
  · simp [h1]; omega

theorem partsK_some {k : Int} {m : Nat} (h : partsK k = some m) : 1 ≤ k ∧ k ≤ 19 ∧ m = cnt k := by
  unfold partsK at h
  split at h
  · exact ⟨by omega, by omega, (Option.some.inj h).symm⟩
  · cases h
theorem partsK_none {k : Int} (h : partsK k = none) : ¬ (1 ≤ k ∧ k ≤ 19) := by
  unfold partsK at h
  split at h
  · cases h
  · assumption
theorem cnt_three (k : Int) : cnt k = 0 ∨ cnt k = 1 ∨ cnt k = 2 := by
  unfold cnt
  by_cases k4 : k ≤ 4
  · simp [k4]
  · by_cases k6 : k ≤ 6 <;> simp [k4, k6]

theorem node_none {x : Nd} {sz dp : List Int} (hk : ¬ (1 ≤ x.kind ∧ x.kind ≤ 19)) : node38 x sz dp = none := by
  have hr : ∀ a b, ¬ rightN x a b := fun a b h => hk ⟨h.1, h.2.1⟩
  unfold node38
  (repeat' split) <;> first | rfl | (exact absurd ‹_› (hr _ _))

theorem node_agree {x : Nd} {sz dp : List Int} {all st : List Tp} (h : Agree sz dp all st) :
    match node40 x all.length st with
    | some (s0, t) => node38 x sz dp = some (t.size, t.depth) ∧ t.at' = all.length ∧ (∀ u ∈ s0, u ∈ st)
    | none => node38 x sz dp = none := by
  have hsl : sz.length = all.length := by rw [h.sz, List.length_map]
  cases hp : partsK x.kind with
  | none =>
    simp only [node40, hp]
    exact node_none (partsK_none hp)
  | some m =>
    obtain ⟨k1, k2, rfl⟩ := partsK_some hp
    simp only [node40, hp]
    rcases cnt_three x.kind with hc | hc | hc
    · rw [hc]
      simp only [Nat.not_lt_zero, if_false, Nat.sub_zero, List.drop_length, List.take_length]
      have hr := right_own0 ⟨k1, k2⟩ (x := x) []
      simp only [ownA, ownB] at hr
      unfold node38
      rw [if_pos hc]
      by_cases ho : own40 x []
      · rw [if_pos ho, if_pos (hr.2 ho)]
        exact ⟨rfl, rfl, fun u hu => hu⟩
      · rw [if_neg ho, if_neg (fun hh => ho (hr.1 hh))]
    · rw [hc]
      rcases Nat.eq_zero_or_pos st.length with h0 | h0
      · have hs0 := List.eq_nil_of_length_eq_zero h0
        subst hs0
        have ha := h.ch
        simp [chain] at ha
        subst ha
        have : sz = [] := by simp [h.sz]
        subst this
        simp [node38, hc]
      · obtain ⟨s0, p, rfl⟩ := snoc1 (l := st) h0
        have hch := h.ch
        simp only [List.reverse_append, List.reverse_cons, List.reverse_nil, List.nil_append, List.singleton_append, chain] at hch
        obtain ⟨h1, h2, h3, h4, h5, k, h6, h7⟩ := hch
        obtain ⟨g1, g2⟩ := h.get (t := p) (by simp)
        have hat : p.at'.toNat = sz.length - 1 := by omega
        have hat2 : ((sz.length - 1 : Nat) : Int) = p.at' := by omega
        rw [hat] at g1 g2
        have hr := right_own0 ⟨k1, k2⟩ (x := x) [p]
        simp only [ownA, ownB] at hr
        rw [if_neg (by simp), show (s0 ++ [p]).length - 1 = s0.length from by simp, List.drop_left, List.take_left]
        unfold node38
        rw [if_neg (show ¬ cnt x.kind = 0 by omega), g1, g2]
        simp only
        rw [if_pos hc, hat2]
        by_cases ho : own40 x [p]
        · rw [if_pos ho, if_pos (hr.2 ho)]
          refine ⟨?_, rfl, fun u hu => by simp [hu]⟩
          simp only [topT, if_pos (show 1 < p.depth + 1 by omega)]
          rw [Int.add_comm 1 p.depth]
        · rw [if_neg ho, if_neg (fun hh => ho (hr.1 hh))]
    · rw [hc]
      rcases Nat.lt_or_ge st.length 2 with h0 | h0
      · rw [if_pos h0]
        simp only
        rcases Nat.eq_zero_or_pos st.length with h00 | h01
        · have hs0 := List.eq_nil_of_length_eq_zero h00
          subst hs0
          have ha := h.ch
          simp [chain] at ha
          subst ha
          have : sz = [] := by simp [h.sz]
          subst this
          simp [node38, hc]
        · obtain ⟨s0, p, rfl⟩ := snoc1 (l := st) h01
          simp at h0
          obtain rfl : s0 = [] := List.eq_nil_of_length_eq_zero (by omega)
          have hch := h.ch
          simp only [List.nil_append, List.reverse_cons, List.reverse_nil, chain] at hch
          obtain ⟨h1, h2, h3, h4, h5, k, h6, h7⟩ := hch
          obtain ⟨g1, g2⟩ := h.get (t := p) (by simp)
          have hat : p.at'.toNat = sz.length - 1 := by omega
          have hat2 : ((sz.length - 1 : Nat) : Int) = p.at' := by omega
          rw [hat] at g1 g2
          unfold node38
          rw [if_neg (show ¬ cnt x.kind = 0 by omega), g1, g2]
          simp only
          rw [if_neg (show ¬ cnt x.kind = 1 by omega), hat2, if_pos (by omega)]
      · obtain ⟨s0, p, q, rfl⟩ := snoc2 (l := st) h0
        have hch := h.ch
        simp only [List.reverse_append, List.reverse_cons, List.reverse_nil, List.nil_append, List.singleton_append, List.cons_append, chain] at hch
        obtain ⟨h1, h2, h3, h4, h5, k, h6, e1, e2, e3, e4, e5, k', e6, h7⟩ := hch
        obtain ⟨g1, g2⟩ := h.get (t := q) (by simp)
        obtain ⟨f1, f2⟩ := h.get (t := p) (by simp)
        have hat : q.at'.toNat = sz.length - 1 := by omega
        have hat2 : ((sz.length - 1 : Nat) : Int) = q.at' := by omega
        rw [hat] at g1 g2
        have hr := right_own0 ⟨k1, k2⟩ (x := x) [p, q]
        simp only [ownA, ownB] at hr
        rw [if_neg (by simp), show (s0 ++ [p, q]).length - 2 = s0.length from by simp, List.drop_left, List.take_left]
        unfold node38
        rw [if_neg (show ¬ cnt x.kind = 0 by omega), g1, g2]
        simp only
        rw [if_neg (show ¬ cnt x.kind = 1 by omega), hat2, if_neg (show ¬ q.at' - q.size < 0 by omega), show q.at' - q.size = p.at' from by omega, f1, f2]
        simp only
        by_cases ho : own40 x [p, q]
        · rw [if_pos ho, if_pos (hr.2 ho)]
          refine ⟨?_, rfl, fun u hu => by simp [hu]⟩
          simp only [topT, if_pos (show 1 < p.depth + 1 by omega), Option.some.injEq, Prod.mk.injEq]
          refine ⟨by omega, ?_⟩
          (repeat' split) <;> omega
        · rw [if_neg ho, if_neg (fun hh => ho (hr.1 hh))]

theorem tops_sizes : ∀ (l : List Nd) (sz dp : List Int) (all st : List Tp), Agree sz dp all st →
    match tops40 l all.length all st with
    | (true, all', st') => ∃ sz' dp', sizes38 l sz dp = some (sz', dp') ∧ Agree sz' dp' all' st' ∧ all'.length = all.length + l.length
    | (false, _, _) => sizes38 l sz dp = none
  | [], sz, dp, all, st, h => ⟨sz, dp, rfl, h, rfl⟩
  | x :: l, sz, dp, all, st, h => by
    have hn := node_agree (x := x) h
    simp only [tops40, sizes38]
    split at hn
    · rename_i s0 t he
      obtain ⟨h1, h2, h3⟩ := hn
      rw [he, h1]
      simp only
      have := tops_sizes l (sz ++ [t.size]) (dp ++ [t.depth]) (all ++ [t]) (s0 ++ [t]) (h.snoc h3 h2 (chain_top h.ch he))
      rw [show (all ++ [t]).length = all.length + 1 from by simp] at this
      split at this
      · rename_i all' st' he2
        obtain ⟨sz', dp', g1, g2, g3⟩ := this
        exact ⟨sz', dp', g1, g2, by simp; omega⟩
      · exact this
    · rename_i he
      rw [he, hn]

/-- what the program tells of an expression: the tops, whether they are right -/
def told40 (l : List Nd) : List Tp × Bool := match tops40 l 0 [] [] with | (b, all, st) => (all, b && decide (st.length = 1))

theorem told_agree (l : List Nd) : (told40 l).2 = (told38 l).2.2 ∧ ((told40 l).2 = true → 0 < l.length ∧ (told40 l).1.length = l.length ∧ ∃ t, (told40 l).1[l.length - 1]? = some t ∧ (told38 l).2.1[l.length - 1]? = some t.depth) := by
  have h := tops_sizes l [] [] [] [] ⟨rfl, rfl, fun t ht => (by cases ht), rfl⟩
  simp only [List.length_nil] at h
  unfold told40 told38
  split at h
  · rename_i all st he
    obtain ⟨sz, dp, h1, h2, h3⟩ := h
    simp only [Nat.zero_add] at h3
    rw [he, h1]
    simp only [Bool.true_and, decide_eq_true_eq]
    have hch := h2.ch
    rw [h3] at hch
    have key : st.length = 1 ↔ (0 < l.length ∧ sz[l.length - 1]? = some (l.length : Int)) := by
      rcases Nat.eq_zero_or_pos st.length with h0 | h0
      · have hs0 := List.eq_nil_of_length_eq_zero h0
        subst hs0
        simp [chain] at hch
        simp [hch]
      · obtain ⟨s0, p, rfl⟩ := snoc1 (l := st) h0
        simp only [List.reverse_append, List.reverse_cons, List.reverse_nil, List.nil_append, List.singleton_append, chain] at hch
        obtain ⟨g1, g2, g3, g4, g5, k, g6, g7⟩ := hch
        obtain ⟨f1, f2⟩ := h2.get (t := p) (by simp)
        rw [show p.at'.toNat = l.length - 1 from by omega] at f1
        rw [f1]
        simp only [List.length_append, List.length_singleton, Option.some.injEq]
        constructor
        · intro hh
          have : s0 = [] := List.eq_nil_of_length_eq_zero (by omega)
          subst this
          simp [chain] at g7
          omega
        · rintro ⟨hh, hp⟩
          have : k = 0 := by omega
          subst this
          have := (chain_bd g7).1
          simp at this
          simp [this]
    refine ⟨by rw [decide_eq_decide]; exact key, fun hst => ?_⟩
    have hk := key.1 hst
    obtain ⟨s0, p, rfl⟩ := snoc1 (l := st) (by omega)
    simp only [List.reverse_append, List.reverse_cons, List.reverse_nil, List.nil_append, List.singleton_append, chain] at hch
    obtain ⟨g1, g2, g3, g4, g5, k, g6, g7⟩ := hch
    obtain ⟨f1, f2⟩ := h2.get (t := p) (by simp)
    have f3 := h2.mem p (by simp)
    rw [show p.at'.toNat = l.length - 1 from by omega] at f1 f2 f3
    exact ⟨hk.1, h3, p, f3, f2⟩
  · rename_i a b he
    rw [he, h]
    simp

def topsT (l : List Tp) : D := .sl (l.map Tp.enc)
theorem cellsT_freeze {H : Heap} {v : V} {l : List Tp} {n : Nat} (h : OwnL H v 84 3 (cellsT l)) : freezeC (n + 1) H v = some (topsT l) := OwnL.freeze h
theorem ownL_shape {H : Heap} {v : V} {ty sz : Nat} {es : List (List V)} (h : OwnL H v ty sz es) : v = .nilS ∨ ∃ b n, v = .ref b sz 0 n n := by
  rcases h with ⟨_, h⟩ | ⟨b, h, _⟩
  · exact .inl h
  · exact .inr ⟨b, _, h⟩
theorem freezeA_own {H : Heap} {v : V} {ty sz : Nat} {es : List (List V)} {n : Nat} (h : OwnL H v ty sz es) : freezeA n H v = (freezeC n H v).map .d := by
  rcases ownL_shape h with rfl | ⟨b, m, rfl⟩ <;> rfl

theorem fn40 (O : Calls') (N : Nat) (hN : 1001 ≤ N) (h47 : ∀ k H, 0 ≤ k → O.run 47 [.d (du k)] H = some (.tup [V.int .i64 ((partsK k).getD 0 : Nat), V.int .i64 (if (partsK k).isSome then 0 else 2)], H))
    (h48n : ∀ H, O.run 48 [.nilS, V.int .i64 0] H = some (.tup [.nilS, .nilS], H))
    (h48 : ∀ (H : Heap) (b len cap n : Nat), len < 1000 → len ≤ cap → n ≤ len → 0 < len → O.run 48 [.ref b 3 0 len cap, V.int .i64 n] H = some (.tup [.ref b 3 0 (len - n) cap, if cap = len - n then .d (.sl []) else .ref b 3 (len - n) n (cap - (len - n))], H))
    (l : List Nd) (hl : l.length ≤ 60) (hwf : ∀ x ∈ l, x.wf) : ∃ r H1, runFn O N v40 [.d (encs l)] [] = some (r, H1) ∧ freezeV 9 H1 r = some (.tup [.d (topsT (told40 l).1), V.bool (told40 l).2]) := by
  rw [runFn_eq _ _ (Nat.le_of_ble_eq_true rfl)]
  have hL := fun E => loop40 O N hN h47 h48n h48 l hl hwf l.length 0 (N - (l.length + 1)) .nilS .nilS [] [] [] E (by omega) rfl rfl ⟨.inl ⟨rfl, rfl⟩, .inl ⟨rfl, rfl⟩, fun c hc => by simp [touchV] at hc⟩
  rw [show l.length + 1 + (N - (l.length + 1)) = N from by omega] at hL
  simp only [List.drop_zero] at hL
  have hL' := hL [(0, .d (encs l)), (2, .nilS), (3, V.bool false), (4, .nilS), (5, .nilS), (6, .undef), (7, .undef), (8, .undef), (9, .undef), (10, .undef), (11, .undef), (12, .undef), (13, .undef), (14, .undef), (15, .d (encs l)), (16, V.int .i64 l.length), (17, V.int .i64 0), (18, .undef), (35, .undef), (52, .undef), (53, .undef), (54, .undef), (55, .undef), (60, .undef), (83, .undef), (90, .undef)] ⟨rfl, rfl, rfl, rfl, rfl, rfl⟩
  clear hL
  simp only [encs] at hL'
  unfold told40
  unfold L40 at hL'
  split at hL'
  · rename_i E H he
    obtain ⟨all, st, va, vs, hs, hlen, hsl, hch, ⟨a0, a4, a5, a15, a16, a17⟩, ht⟩ := hL'
    rw [hs]
    have f1 := cellsT_freeze (n := 8) ht.a
    refine ⟨.tup [va, V.bool (decide (st.length = 1))], H, ?_, ?_⟩
    · rcases ht.s with ⟨rfl, rfl⟩ | ⟨b, rest, hne, rfl, hb⟩
      · simp [v40, encs, he, a4, a5]
      · simp [v40, encs, he, a4, a5]
        rw [Bool.eq_iff_iff]
        simp
        omega
    · simp [freezeV, mapO, freezeA_own ht.a, f1]
      simp [freezeA, freezeC_d]
  · rename_i E H he
    obtain ⟨all, st, hs, a2, a3⟩ := hL'
    rw [hs]
    have f1 := cellsT_freeze (n := 8) a2
    refine ⟨.tup [E.at 2, V.bool false], H, ?_, ?_⟩
    · simp [v40, encs, he, a3]
    · simp [freezeV, mapO, freezeA_own a2, f1]
      simp [freezeA, freezeC_d]
  · exact hL'.elim
end Go.Proofs.Ytomeaojdihfgmaa
