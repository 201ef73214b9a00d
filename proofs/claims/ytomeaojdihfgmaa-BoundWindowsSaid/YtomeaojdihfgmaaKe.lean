/- The functions of BoundWindows: the sizes and depths of nodes (the reference). -/
import Derived.Test.YtomeaojdihfgmaaKc
import Derived.Test.YtomeaojdihfgmaaVmG
namespace Go.Proofs.Ytomeaojdihfgmaa
open Go.VM Go.Proofs.Ytomeaojdihfgmaa.Data
set_option linter.unusedVariables false
set_option linter.unusedSimpArgs false
attribute [local simp] run_seq run_cond run_block run_region run_skip run_exit run_ret runOps_nil runOps_cons stepO_plain stepO_guard seqR_normal seqR_ret seqR_exit seqR_ite condR_bool blockR_normal blockR_ret blockR_exit blockR_ite opsR_some opsR_ite regR_some regR_ite guardR_some putR_some putR_ite finR_normal finR_ret finR_ite wants runOp evalOp X.ev Env.at putE Env.keep startE binV unV resV mapO resOne loadV V.cells V.isCell fillV fillE V.nat? run_loop run_regionD runDraw footO readsOp writesOp touchOp wtouchOp touchV inOrder meets

/-- how many parts a kind has -/
def cnt (k : Int) : Nat := if k ≤ 4 then 0 else if k ≤ 6 then 1 else 2
def cells1 (l : List Int) : List (List V) := (l.map fun n => [di n]).map (·.map .d)
theorem cells1_at {l : List Int} {i : Nat} {n : Int} (h : l[i]? = some n) : (cells1 l)[i]? = some [.d (di n)] := by simp [cells1, h]
theorem cells1_len (l : List Int) : (cells1 l).length = l.length := by simp [cells1]
theorem cells1_snoc (l : List Int) (n : Int) : cells1 l ++ [[.d (di n)]] = cells1 (l ++ [n]) := by simp [cells1]

/-- size and depth of a node behind those that are told -/
def node38 (x : Nd) (sz dp : List Int) : Option (Int × Int) :=
  if cnt x.kind = 0 then (if rightN x 0 0 then some (1, 1) else none)
  else match sz[sz.length - 1]?, dp[sz.length - 1]? with
    | some s, some d =>
      if cnt x.kind = 1 then (if rightN x (sz.length - 1 : Nat) 0 then some (1 + s, 1 + d) else none)
      else if (sz.length - 1 : Nat) - s < 0 then none
      else match sz[((sz.length - 1 : Nat) - s).toNat]?, dp[((sz.length - 1 : Nat) - s).toNat]? with
        | some s2, some d2 => if rightN x ((sz.length - 1 : Nat) - s) (sz.length - 1 : Nat) then some (1 + s + s2, if d < d2 then 1 + d2 else 1 + d) else none
        | _, _ => none
    | _, _ => none

structure Szs (sz dp : List Int) : Prop where
  len : dp.length = sz.length
  sz : ∀ (i : Nat) (n : Int), sz[i]? = some n → 1 ≤ n ∧ n ≤ i + 1
  dp : ∀ (i : Nat) (n : Int), dp[i]? = some n → 1 ≤ n ∧ n ≤ i + 1

theorem Szs.get {sz dp : List Int} (h : Szs sz dp) {i : Nat} (hi : i < sz.length) : ∃ s d, sz[i]? = some s ∧ dp[i]? = some d ∧ 1 ≤ s ∧ s ≤ i + 1 ∧ 1 ≤ d ∧ d ≤ i + 1 := by
  have h1 : sz[i]? = some sz[i] := List.getElem?_eq_getElem hi
  have h2 : dp[i]? = some (dp[i]'(by rw [h.len]; exact hi)) := List.getElem?_eq_getElem _
  exact ⟨_, _, h1, h2, (h.sz i _ h1).1, (h.sz i _ h1).2, (h.dp i _ h2).1, (h.dp i _ h2).2⟩

theorem Szs.snoc {sz dp : List Int} (h : Szs sz dp) {s d : Int} (h1 : 1 ≤ s) (h2 : s ≤ sz.length + 1) (h3 : 1 ≤ d) (h4 : d ≤ sz.length + 1) : Szs (sz ++ [s]) (dp ++ [d]) := by
  refine ⟨by simp [h.len], fun i n hn => ?_, fun i n hn => ?_⟩
  · by_cases hi : i < sz.length
    · rw [List.getElem?_append_left hi] at hn; exact h.sz i n hn
    · rw [List.getElem?_append_right (by omega)] at hn
      have := (List.getElem?_eq_some_iff.1 hn).1
      simp at this
      obtain rfl : i = sz.length := by omega
      simp at hn; subst hn; omega
  · by_cases hi : i < dp.length
    · rw [List.getElem?_append_left hi] at hn; exact h.dp i n hn
    · rw [List.getElem?_append_right (by omega)] at hn
      have := (List.getElem?_eq_some_iff.1 hn).1
      simp at this
      obtain rfl : i = dp.length := by omega
      simp at hn; subst hn; rw [h.len]; omega

theorem node38_ok {x : Nd} {sz dp : List Int} (h : Szs sz dp) {s d : Int} (hn : node38 x sz dp = some (s, d)) : Szs (sz ++ [s]) (dp ++ [d]) := by
  unfold node38 at hn
  split at hn
  · split at hn
    · simp at hn; exact h.snoc (by omega) (by omega) (by omega) (by omega)
    · cases hn
  · split at hn
    · rename_i s1 d1 e1 e2
      have a1 := h.sz _ _ e1
      have a2 := h.dp _ _ e2
      have hl : sz.length ≠ 0 := by
        intro h0
        have := (List.getElem?_eq_some_iff.1 e1).1; omega
      split at hn
      · split at hn
        · simp at hn; exact h.snoc (by omega) (by omega) (by omega) (by omega)
        · cases hn
      · split at hn
        · cases hn
        · split at hn
          · rename_i s2 d2 e3 e4
            have a3 := h.sz _ _ e3
            have a4 := h.dp _ _ e4
            split at hn
            · simp at hn
              obtain ⟨rfl, rfl⟩ := hn
              refine h.snoc (by omega) (by omega) ?_ ?_ <;> split <;> omega
            · cases hn
          · cases hn
    · cases hn

/-- the two slices, apart -/
structure Two (H : Heap) (vs vd : V) (sz dp : List Int) : Prop where
  s : OwnL H vs 3 1 (cells1 sz)
  d : OwnL H vd 3 1 (cells1 dp)
  ne : ∀ c ∈ touchV vs, c ∉ touchV vd

theorem Two.push {H : Heap} {vs vd : V} {sz dp : List Int} (h : Two H vs vd sz dp) (hl : sz.length < 1000) (hl2 : dp.length = sz.length) (s d : Int) : ∃ b1 H1 b2 H2,
    appV (newBlk H 3 1 [[.d (di s)]]) 3 1 8 vs [[.d (di s)]] = some (.ref b1 1 0 (sz.length + 1) (sz.length + 1), H1) ∧
    appV (newBlk H1 3 1 [[.d (di d)]]) 3 1 8 vd [[.d (di d)]] = some (.ref b2 1 0 (sz.length + 1) (sz.length + 1), H2) ∧
    Two H2 (.ref b1 1 0 (sz.length + 1) (sz.length + 1)) (.ref b2 1 0 (sz.length + 1) (sz.length + 1)) (sz ++ [s]) (dp ++ [d]) := by
  obtain ⟨b1, H1, p1, p2, p3, p4, p5⟩ := push_own (bytes := 8) (x := [.d (di s)]) h.s (by rw [cells1_len]; unfold room; omega)
  have hd : OwnL H1 vd 3 1 (cells1 dp) := h.d.mono fun c hc hcl => p5 c hcl fun hm => h.ne c hm hc
  obtain ⟨b2, H2, q1, q2, q3, q4, q5⟩ := push_own (bytes := 8) (x := [.d (di d)]) hd (by rw [cells1_len]; unfold room; omega)
  rw [cells1_len] at p1 q1
  rw [hl2] at q1
  refine ⟨b1, H1, b2, H2, p1, q1, .inr ⟨b1, by rw [cells1_len]; simp, ?_⟩, .inr ⟨b2, by rw [cells1_len]; simp [hl2], by rw [q2, cells1_snoc]⟩, fun c hc hc2 => ?_⟩
  · rw [q5 b1 (by omega) (fun hm => ?_), p2, cells1_snoc]
    have := h.d.lt _ hm; omega
  · simp [touchV] at hc hc2
    omega

theorem Two.loads {H : Heap} {vs vd : V} {sz dp : List Int} (h : Two H vs vd sz dp) (hz : Szs sz dp) (h0 : 0 < sz.length) : ∃ bs bd, vs = .ref bs 1 0 sz.length sz.length ∧ vd = .ref bd 1 0 sz.length sz.length ∧ H.blk bs = some ⟨3, 1, cells1 sz⟩ ∧ H.blk bd = some ⟨3, 1, cells1 dp⟩ := by
  rcases h.s with ⟨h1, _⟩ | ⟨bs, h1, h2⟩
  · have := cells1_len sz; rw [h1] at this; simp at this; omega
  rcases h.d with ⟨h3, _⟩ | ⟨bd, h3, h4⟩
  · have := cells1_len dp; rw [h3, hz.len] at this; simp at this; omega
  rw [cells1_len] at h1 h3
  rw [hz.len] at h3
  exact ⟨bs, bd, h1, h3, h2, h4⟩

structure E38 (l : List Nd) (i : Nat) (vs vd : V) (E : Env) : Prop where
  a0 : E.at 0 = .d (encs l)
  a2 : E.at 2 = .nilS
  a3 : E.at 3 = .nilS
  a4 : E.at 4 = V.bool false
  a5 : E.at 5 = vs
  a6 : E.at 6 = vd
  a7 : E.at 7 = V.int .i64 i
def Q38 (l : List Nd) (i : Nat) (sz dp : List Int) (n : Option (Int × Int)) (r : R) : Prop :=
  match r with
  | some (.normal, E', H') => ∃ s d vs vd, n = some (s, d) ∧ E38 l (i + 1) vs vd E' ∧ Two H' vs vd (sz ++ [s]) (dp ++ [d])
  | some (.ret, E', H') => n = none ∧ E'.at 2 = .nilS ∧ E'.at 3 = .nilS ∧ E'.at 4 = V.bool false
  | _ => False

set_option maxHeartbeats 4000000 in
theorem round38 (O : Calls') (N : Nat) (h43 : ∀ k H, O.run 43 [.d (du k)] H = some (V.int .i64 (cnt k : Nat), H))
    (h44 : ∀ (x : Nd) (a b : Int) H, O.run 44 [.agg (x.enc.map .d), .d (di a), .d (di b)] H = some (V.bool (decide (rightN x a b)), H))
    (l : List Nd) (hl : l.length ≤ 60) (i : Nat) (hi : i < l.length) (vs vd : V) (sz dp : List Int) (H : Heap) (E : Env) (hsz : sz.length = i) (hz : Szs sz dp) (ht : Two H vs vd sz dp) (hE : E38 l i vs vd E) :
    Q38 l i sz dp (node38 l[i] sz dp) (run O N v38L0 E H) := by
  obtain ⟨a0, a2, a3, a4, a5, a6, a7⟩ := hE
  simp only [encs] at a0
  have hlt : ((i : Int) < (l.length : Int)) := by omega
  have hw := wrap_small (i := i) (by omega)
  have hx : (l.map Nd.enc)[i]? = some (l[i].enc) := by simp [hi]
  have hx2 : l[i]? = some l[i] := List.getElem?_eq_getElem hi
  generalize l[i] = x at *
  have h44' := h44 x
  have hk := h43 x.kind
  unfold node38
  obtain ⟨k, n, xa, xb, xt⟩ := x
  simp only [Nd.enc, List.map_cons, List.map_nil] at *
  by_cases hc0 : cnt k = 0
  · rw [hc0] at hk
    have hr := h44' 0 0
    by_cases hr0 : rightN ⟨k, n, xa, xb, xt⟩ 0 0
    · obtain ⟨b1, H1, b2, H2, p1, p2, p3⟩ := ht.push (by omega) hz.len 1 1
      simp [v38L0, a0, a2, a3, a4, a5, a6, a7, hlt, hx2, Nd.enc, hk, hr, hr0, hc0, elemsV_new, p1, p2, hw, Q38]
      exact ⟨_, _, ⟨rfl, rfl⟩, _, _, ⟨rfl, rfl, rfl, rfl, rfl, rfl, rfl⟩, p3⟩
    · simp [v38L0, a0, a2, a3, a4, a5, a6, a7, hlt, hx2, Nd.enc, hk, hr, hr0, hc0, elemsV_new, hw, Q38]
  · have hcp : 0 < cnt k := by omega
    rcases Nat.eq_zero_or_pos i with rfl | hip
    · have hs0 : sz = [] := List.eq_nil_of_length_eq_zero hsz
      have hp : IntKind.wrap .i64 (-1 : Int) = -1 := wrap_id ⟨by omega, by omega⟩
      simp only [Int.natCast_zero] at a7
      subst hs0
      obtain ⟨y, l', rfl⟩ : ∃ y l', l = y :: l' := by
        cases l with
        | nil => simp at hi
        | cons y l' => exact ⟨y, l', rfl⟩
      simp only [List.getElem?_cons_zero, Option.some.injEq] at hx2
      subst hx2
      clear hx hw hlt hi
      simp [v38L0, a0, a2, a3, a4, a5, a6, a7, Nd.enc, hk, hc0, hcp, hp, Q38]
    · obtain ⟨p, hpi⟩ : ∃ p, i = p + 1 := ⟨i - 1, by omega⟩
      obtain ⟨s, d, e1, e2, b1, b2, b3, b4⟩ := hz.get (i := p) (by omega)
      obtain ⟨bs, bd, rfl, rfl, t1, t2⟩ := ht.loads hz (by omega)
      have hp : IntKind.wrap .i64 ((i : Int) - 1) = p := by rw [wrap_id ⟨by omega, by omega⟩]; omega
      have hs1 : IntKind.wrap .i64 (1 + s) = 1 + s := wrap_id ⟨by omega, by omega⟩
      have hd1 : IntKind.wrap .i64 (1 + d) = 1 + d := wrap_id ⟨by omega, by omega⟩
      have hpl : p < i := by omega
      have hp0 : ¬ ((p : Int) < 0) := by omega
      have g1 := cells1_at e1
      have g2 := cells1_at e2
      rw [show sz.length - 1 = p from by omega, e1, e2]
      simp only
      have hr0' := ht.push (by omega) hz.len
      rw [hsz] at hr0' a5 a6 ht
      by_cases hc1 : cnt k = 1
      · rw [hc1] at hk
        have hr := h44' p 0
        have hps : IntKind.wrap .i64 ((p : Int) - s) = p - s := wrap_id ⟨by omega, by omega⟩
        by_cases hr0 : rightN ⟨k, n, xa, xb, xt⟩ p 0
        · obtain ⟨b1, H1, b2, H2, p1, p2, p3⟩ := hr0' (1 + s) (1 + d)
          simp [v38L0, a0, a2, a3, a4, a5, a6, a7, hlt, hx2, Nd.enc, hk, hr, hr0, hc0, hc1, hp, hps, hs1, hd1, hpl, hp0, t1, t2, g1, g2, p1, p2, elemsV_new, hw, Q38]
          exact ⟨_, _, ⟨rfl, rfl⟩, _, _, ⟨rfl, rfl, rfl, rfl, rfl, rfl, rfl⟩, p3⟩
        · simp [v38L0, a0, a2, a3, a4, a5, a6, a7, hlt, hx2, Nd.enc, hk, hr, hr0, hc0, hc1, hp, hps, hs1, hd1, hpl, hp0, t1, t2, g1, g2, Q38]
      · have hc2 : cnt k = 2 := by
          unfold cnt at hc0 hc1 ⊢
          by_cases k4 : k ≤ 4
          · simp [k4] at hc0
          · by_cases k6 : k ≤ 6
            · simp [k4, k6] at hc1
            · simp [k4, k6]
        rw [hc2] at hk
        by_cases hf0 : (p : Int) - s < 0
        · have hps : IntKind.wrap .i64 ((p : Int) - s) = p - s := wrap_id ⟨by omega, by omega⟩
          have hf1 : (p : Int) < s := by omega
          simp [v38L0, a0, a2, a3, a4, a5, a6, a7, hlt, hx2, Nd.enc, hk, hc0, hc1, hc2, hp, hps, hf0, hf1, hs1, hd1, hpl, hp0, t1, t2, g1, g2, Q38]
        · obtain ⟨f, hf⟩ : ∃ f : Nat, (p : Int) - s = f := ⟨((p : Int) - s).toNat, by omega⟩
          obtain ⟨s2, d2, e3, e4, b5, b6, b7, b8⟩ := hz.get (i := f) (by omega)
          have hps : IntKind.wrap .i64 ((p : Int) - s) = f := by rw [wrap_id ⟨by omega, by omega⟩, hf]
          have hs2 : IntKind.wrap .i64 (1 + s + s2) = 1 + s + s2 := wrap_id ⟨by omega, by omega⟩
          have hd2 : IntKind.wrap .i64 (1 + d2) = 1 + d2 := wrap_id ⟨by omega, by omega⟩
          have g3 := cells1_at e3
          have g4 := cells1_at e4
          have hfl : f < i := by omega
          have hf0' : ¬ ((f : Int) < 0) := by omega
          have hf2 : f + 1 ≤ i := by omega
          rw [hf, if_neg hc1, if_neg (by omega), show ((f : Int)).toNat = f from rfl, e3, e4]
          simp only
          have hr := h44' f p
          by_cases hr0 : rightN ⟨k, n, xa, xb, xt⟩ f p
          · by_cases hdd : d < d2
            · obtain ⟨b1, H1, b2, H2, p1, p2, p3⟩ := hr0' (1 + s + s2) (1 + d2)
              simp [v38L0, a0, a2, a3, a4, a5, a6, a7, hlt, hx2, Nd.enc, hk, hr, hr0, hc0, hc1, hc2, hp, hps, hs1, hs2, hd1, hd2, hpl, hp0, hfl, hf0', hf2, t1, t2, g1, g2, g3, g4, p1, p2, elemsV_new, hw, hdd, maxV, Q38]
              exact ⟨_, _, ⟨rfl, rfl⟩, _, _, ⟨rfl, rfl, rfl, rfl, rfl, rfl, rfl⟩, p3⟩
            · obtain ⟨b1, H1, b2, H2, p1, p2, p3⟩ := hr0' (1 + s + s2) (1 + d)
              simp [v38L0, a0, a2, a3, a4, a5, a6, a7, hlt, hx2, Nd.enc, hk, hr, hr0, hc0, hc1, hc2, hp, hps, hs1, hs2, hd1, hd2, hpl, hp0, hfl, hf0', hf2, t1, t2, g1, g2, g3, g4, p1, p2, elemsV_new, hw, hdd, maxV, Q38]
              exact ⟨_, _, ⟨rfl, rfl⟩, _, _, ⟨rfl, rfl, rfl, rfl, rfl, rfl, rfl⟩, p3⟩
          · by_cases hdd : d < d2 <;> simp [v38L0, a0, a2, a3, a4, a5, a6, a7, hlt, hx2, Nd.enc, hk, hr, hr0, hc0, hc1, hc2, hp, hps, hs1, hs2, hd1, hd2, hpl, hp0, hfl, hf0', hf2, t1, t2, g1, g2, g3, g4, hdd, maxV, Q38]

/-- what is told of the nodes from some on, behind those that are told -/
def sizes38 : List Nd → List Int → List Int → Option (List Int × List Int)
  | [], sz, dp => some (sz, dp)
  | x :: l, sz, dp => match node38 x sz dp with
    | some (s, d) => sizes38 l (sz ++ [s]) (dp ++ [d])
    | none => none

def L38 (l : List Nd) (o : Option (List Int × List Int)) (r : R) : Prop :=
  match r with
  | some (.exit 0, E', H') => ∃ sz dp vs vd, o = some (sz, dp) ∧ sz.length = l.length ∧ Szs sz dp ∧ E38 l l.length vs vd E' ∧ Two H' vs vd sz dp
  | some (.ret, E', H') => o = none ∧ E'.at 2 = .nilS ∧ E'.at 3 = .nilS ∧ E'.at 4 = V.bool false
  | _ => False

theorem loop38 (O : Calls') (N : Nat) (h43 : ∀ k H, O.run 43 [.d (du k)] H = some (V.int .i64 (cnt k : Nat), H))
    (h44 : ∀ (x : Nd) (a b : Int) H, O.run 44 [.agg (x.enc.map .d), .d (di a), .d (di b)] H = some (V.bool (decide (rightN x a b)), H))
    (l : List Nd) (hl : l.length ≤ 60) : ∀ (k i m : Nat) (vs vd : V) (sz dp : List Int) (H : Heap) (E : Env), i + k = l.length → sz.length = i → Szs sz dp → Two H vs vd sz dp → E38 l i vs vd E →
    L38 l (sizes38 (l.drop i) sz dp) (runLoop (run O N v38L0) (k + 1 + m) E H)
  | 0, i, m, vs, vd, sz, dp, H, E, hk, hsz, hz, ht, hE => by
    obtain rfl : i = l.length := by omega
    obtain ⟨a0, a2, a3, a4, a5, a6, a7⟩ := hE
    simp only [encs] at a0
    rw [show 0 + 1 + m = m + 1 from by omega, runLoop_step]
    simp [v38L0, a0, a2, a3, a4, a5, a6, a7, loopR_exit, L38, sizes38]
    exact ⟨_, _, ⟨rfl, rfl⟩, hsz, hz, _, _, ⟨rfl, rfl, rfl, rfl, rfl, rfl, rfl⟩, ht⟩
  | k + 1, i, m, vs, vd, sz, dp, H, E, hk, hsz, hz, ht, hE => by
    have hi : i < l.length := by omega
    rw [show k + 1 + 1 + m = (k + 1 + m) + 1 from by omega, runLoop_step, List.drop_eq_getElem_cons hi, sizes38]
    have hr := round38 O N h43 h44 l hl i hi vs vd sz dp H E hsz hz ht hE
    unfold Q38 at hr
    split at hr
    · rename_i E' H' he
      obtain ⟨s, d, vs', vd', hn, hE', ht'⟩ := hr
      rw [he, hn, loopR_normal]
      exact loop38 O N h43 h44 l hl k (i + 1) m vs' vd' _ _ H' E' (by omega) (by simp [hsz]) (node38_ok hz hn) ht' hE'
    · rename_i E' H' he
      obtain ⟨hn, g⟩ := hr
      rw [he, hn, loopR_ret]
      exact ⟨rfl, g⟩
    · exact hr.elim

/-- what Sizes tells -/
def told38 (l : List Nd) : List Int × List Int × Bool :=
  match sizes38 l [] [] with
  | some (sz, dp) => (sz, dp, decide (0 < l.length ∧ sz[l.length - 1]? = some (l.length : Int)))
  | none => ([], [], false)

theorem freezeC_d {n : Nat} {H : Heap} {x : D} : freezeC n H (.d x) = some x := by cases n <;> rfl
theorem cells1_freeze {H : Heap} {v : V} {l : List Int} {n : Nat} (h : OwnL H v 3 1 (cells1 l)) : freezeC (n + 1) H v = some (ints l) := OwnL.freeze h

set_option maxHeartbeats 4000000 in
theorem fn38 (O : Calls') (N : Nat) (hN : 1001 ≤ N) (h43 : ∀ k H, O.run 43 [.d (du k)] H = some (V.int .i64 (cnt k : Nat), H))
    (h44 : ∀ (x : Nd) (a b : Int) H, O.run 44 [.agg (x.enc.map .d), .d (di a), .d (di b)] H = some (V.bool (decide (rightN x a b)), H))
    (l : List Nd) (hl : l.length ≤ 60) : ∃ r H1, runFn O N v38 [.d (encs l)] [] = some (r, H1) ∧ freezeV 9 H1 r = some (.tup [.d (ints (told38 l).1), .d (ints (told38 l).2.1), V.bool (told38 l).2.2]) := by
  rw [runFn_eq _ _ (Nat.le_of_ble_eq_true rfl)]
  have hL := fun E => loop38 O N h43 h44 l hl l.length 0 (N - (l.length + 1)) .nilS .nilS [] [] [] E (by omega) rfl ⟨rfl, fun i n h => by simp at h, fun i n h => by simp at h⟩ ⟨.inl ⟨rfl, rfl⟩, .inl ⟨rfl, rfl⟩, fun c hc => by simp [touchV] at hc⟩
  rw [show l.length + 1 + (N - (l.length + 1)) = N from by omega] at hL
  simp only [List.drop_zero] at hL
  have hL' := hL [(0, .d (encs l)), (2, .nilS), (3, .nilS), (4, V.bool false), (5, .nilS), (6, .nilS), (7, V.int .i64 0), (8, .undef), (9, .undef), (10, .undef), (11, .undef), (12, .undef), (13, .undef), (14, .undef), (18, .undef), (28, .undef), (32, .undef), (52, .undef), (54, .undef), (77, .undef)] ⟨rfl, rfl, rfl, rfl, rfl, rfl, rfl⟩
  clear hL
  simp only [encs] at hL'
  unfold told38
  unfold L38 at hL'
  split at hL'
  · rename_i E H he
    obtain ⟨sz, dp, vs, vd, hs, hlen, hz, ⟨a0, a2, a3, a4, a5, a6, a7⟩, ht⟩ := hL'
    simp only [encs] at a0
    rw [hs]
    rcases Nat.eq_zero_or_pos l.length with h0 | h0
    · have hl0 : l = [] := List.eq_nil_of_length_eq_zero h0
      subst hl0
      have hs0 : sz = [] := List.eq_nil_of_length_eq_zero hlen
      have hd0 : dp = [] := List.eq_nil_of_length_eq_zero (by rw [hz.len, hs0]; rfl)
      subst hs0; subst hd0
      have f1 := cells1_freeze (n := 8) ht.s
      have f2 := cells1_freeze (n := 8) ht.d
      refine ⟨.tup [vs, vd, V.bool false], H, ?_, ?_⟩
      · simp at he a0
        simp [v38, encs, he, a0, a2, a3, a4, a5, a6, a7]
      · rcases ht.s with ⟨_, rfl⟩ | ⟨b, rfl, hb⟩ <;> rcases ht.d with ⟨_, rfl⟩ | ⟨b2, rfl, hb2⟩ <;> simp [freezeV, freezeA, mapO, f1, f2, freezeC_d]
    · have f1 := cells1_freeze (n := 8) ht.s
      have f2 := cells1_freeze (n := 8) ht.d
      obtain ⟨s, d, e1, e2, b1, b2, b3, b4⟩ := hz.get (i := l.length - 1) (by omega)
      obtain ⟨bs, bd, rfl, rfl, t1, t2⟩ := ht.loads hz (by omega)
      have g1 := cells1_at e1
      have hwr : IntKind.wrap .i64 ((l.length : Int) - 1) = (l.length - 1 : Nat) := by rw [wrap_id ⟨by omega, by omega⟩]; omega
      have hlt : l.length - 1 < l.length := by omega
      have hbs := Heap.blk_lt t1
      have hnp : ¬ ((l.length - 1 : Nat) : Int) < 0 := by omega
      rw [hlen] at a5 a6 f1 f2
      refine ⟨.tup [.ref bs 1 0 l.length l.length, .ref bd 1 0 l.length l.length, V.bool (decide (s = (l.length : Int)))], H, ?_, ?_⟩
      · by_cases hse : s = (l.length : Int)
        · simp [v38, encs, he, a0, a2, a3, a4, a5, a6, a7, h0, hwr, hlt, hbs, t1, g1, hse]
        · simp [v38, encs, he, a0, a2, a3, a4, a5, a6, a7, h0, hwr, hlt, hbs, t1, g1, hse]
      · simp [freezeV, freezeA, mapO, f1, f2, h0, e1, freezeC_d]
  · rename_i E H he
    obtain ⟨hs, a2, a3, a4⟩ := hL'
    rw [hs]
    refine ⟨.tup [.nilS, .nilS, V.bool false], H, ?_, ?_⟩
    · simp [v38, encs, he, a2, a3, a4]
    · simp [freezeV, freezeA, mapO, freezeC, ints]
  · exact hL'.elim
end Go.Proofs.Ytomeaojdihfgmaa
