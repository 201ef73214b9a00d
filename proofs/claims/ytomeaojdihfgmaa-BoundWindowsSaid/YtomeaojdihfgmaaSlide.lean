/- slide.All, walked by hand: a range over slices.Backward. -/
import Derived.RangeFuncBox
import Derived.RangeFuncNested
import Derived.RangeFuncLeaves
import Derived.Shelf.Abstract
import Derived.WalkKit
import Derived.OwnWalkIn
import Derived.TacticsInMore
import Derived.LoopNIn
import Derived.LoopIn
import Derived.Maps.AppendAt
import Derived.Test.YtomeaojdihfgmaaChecked
import Derived.KernelRfl
namespace Go.Proofs.Ytomeaojdihfgmaa.Slide
set_option linter.unusedSimpArgs false
open Go.RowKit Go.Shelf
set_option linter.unusedVariables false

attribute [local go_sem] Oper.semAt_some

/-- what has come when k rounds are over -/
def upto {α : Type} (f : Nat → α) (k : Nat) : List α := (List.range k).map f
theorem upto_succ {α : Type} (f : Nat → α) (k : Nat) : upto f (k + 1) = upto f k ++ [f k] := by simp [upto, List.range_succ]
theorem upto_length {α : Type} (f : Nat → α) (k : Nat) : (upto f k).length = k := by simp [upto]

/-- what the body of a round keeps: what lay below n₀, and the block Bs -/
def Kept (n₀ Bs : Nat) (A B : World) : Prop := Below n₀ A B ∧ B.heap[Bs]? = A.heap[Bs]?
theorem Kept.trans {n₀ Bs : Nat} {A B C : World} (h : Kept n₀ Bs A B) (k : Kept n₀ Bs B C) : Kept n₀ Bs A C := ⟨h.1.trans k.1, k.2.trans h.2⟩
theorem Kept.refl (n₀ Bs : Nat) (A : World) : Kept n₀ Bs A A := ⟨Below.refl _ _, rfl⟩

abbrev Pr := Int × Int × Int
abbrev encs (x : Pr) : Array Value := #[.int .i64 x.1, .agg #[.int .i64 x.2.1, .int .i64 x.2.2]]

/-- the k-th pair that comes -/
def nth (len : Nat) (f g : Nat → Int) (k : Nat) : Pr := ((len : Int) - 1 - k, f (len - 1 - k), g (len - 1 - k))

set_option maxRecDepth 100000 in
set_option maxHeartbeats 2000000 in
/-- the closure of slices.Backward: the last one first -/
theorem back1_in (F : Fence) (n : Nat) (h32 : F.fn 32) (hro : F.round = none) (hn : 1 ≤ n) (l Bs n₀ b len cap : Nat) (f g : Nat → Int) (hlen : len < 1000) (hb : b < n₀) (J Jx : List Pr → World → Prop)
    (hY : ∀ pre x W, J pre W → pre.length < len → YieldAt F (n - 1) Try.prog l (encs x) W fun e W' =>
      (e = .returned (.bool true) ∧ J (pre ++ [x]) W' ∧ Kept n₀ Bs W W') ∨ (e = .returned (.bool false) ∧ Jx (pre ++ [x]) W'))
    (W : World) (hBs : W.cell? ⟨Bs, 0, none⟩ = some (.slice (some ⟨b, 0, none⟩) len cap)) (hc : ∀ j, j < len → W.cell? ⟨b, j * 2, none⟩ = some (.int .i64 (f j)) ∧ W.cell? ⟨b, j * 2 + 1, none⟩ = some (.int .i64 (g j))) (h0 : J [] W) :
    CallsIn F n Try.prog 32 #[.func (.yield l) #[] #[], .pointer (some ⟨Bs, 0, none⟩)] W fun e W' => (∃ v, e = .returned v) ∧
      ((∃ ys, ys = upto (nth len f g) len ∧ J ys W') ∨ (∃ pre, (∃ k, k ≤ len ∧ pre = upto (nth len f g) k) ∧ Jx pre W')) := by
  refine callsIn_of_wp Try.func32 rfl h32 ?_ hro
  simp only [Try.ntmps32, List.size_toArray, List.length_cons, List.length_nil, Nat.reduceAdd, Nat.reduceSub, Array.replicate_succ, Array.replicate_zero, List.push_toArray, List.append_toArray, List.nil_append, List.cons_append]
  gi_wp2
  gi_loopw [3] (fun i wr => ∃ k : Nat, k ≤ len ∧ i = .int .i64 ((len : Int) - 1 - k) ∧ J (upto (nth len f g) k) wr ∧ Kept n₀ Bs W wr)
    (fun i _ => (intOf i + 1).toNat)
  case atStart => exact ⟨0, Nat.zero_le _, by simp, h0, Kept.refl _ _ _⟩
  case round =>
    obtain ⟨k, hk, rfl, hJs, hnx⟩ := hrel
    have hBs' : wr.cell? ⟨Bs, 0, none⟩ = some (.slice (some ⟨b, 0, none⟩) len cap) := (World.cell?_of_block (a := ⟨Bs, 0, none⟩) hnx.2).trans hBs
    by_cases hlt : k < len
    · obtain ⟨fn, tmps, assign, body, hy, hR⟩ := hY _ (nth len f g k) wr hJs (by rw [upto_length]; exact hlt)
      have hnat : ((len : Int) - 1 - k) = ((len - 1 - k : Nat) : Int) := by omega
      have hc0 := hc (len - 1 - k) (by omega)
      have hc1 : wr.cell? ⟨b, (len - 1 - k) * 2, none⟩ = some (.int .i64 (f (len - 1 - k))) := (hnx.1.cell (p := ⟨b, (len - 1 - k) * 2, none⟩) hb).trans hc0.1
      have hc2 : wr.cell? ⟨b, (len - 1 - k) * 2 + 1, none⟩ = some (.int .i64 (g (len - 1 - k))) := (hnx.1.cell (p := ⟨b, (len - 1 - k) * 2 + 1, none⟩) hb).trans hc0.2
      unfold nth at hy
      dsimp only [encs] at hy
      rw [hnat] at hy ⊢
      have hkl : len - 1 - k < len := by omega
      generalize hm : len - 1 - k = m at *
      gi_wp2
      refine hR.mono ?_
      rintro e W3 (⟨rfl, hJ3, hk3⟩ | ⟨rfl, hJx3⟩)
      · gi_wp2
        go_roundw
        case rel => exact ⟨k + 1, by omega, (by first | (simp; done) | (simp; omega)), by rw [upto_succ]; exact hJ3, hnx.trans hk3⟩
        case measure => first | (simp [intOf]; done) | (simp [intOf]; omega)
      · gi_wp2
        refine bodyPost_ret (results_none rfl _ _ _) rfl ?_
        exact ⟨⟨_, rfl⟩, .inr ⟨_, ⟨k + 1, by omega, (upto_succ _ _).symm⟩, hJx3⟩⟩
    · obtain rfl : k = len := by omega
      gi_wp2
      go_end0
      exact ⟨⟨_, rfl⟩, .inl ⟨_, rfl, hJs⟩⟩

set_option maxHeartbeats 1000000 in
/-- slices.Backward: the slice is boxed; the closure captures the box -/
theorem back_in (F : Fence) (n : Nat) (h23 : F.fn 23) (hro : F.round = none) (a : Option Addr) (len cap : Nat) (w : World) :
    CallsIn F n Try.prog 23 #[.slice a len cap] w fun e w' => e = .returned (.func (.func 32) #[] #[.pointer (some ⟨w.heap.size, 0, none⟩)]) ∧ w' = w.alloc (.cells #[.slice a len cap] 34) := by
  refine callsIn_of_wp Try.func23 rfl h23 ?_ hro
  simp only [Try.ntmps23, List.size_toArray, List.length_cons, List.length_nil, Nat.reduceAdd, Nat.reduceSub, Array.replicate_succ, Array.replicate_zero, List.push_toArray, List.append_toArray, List.nil_append, List.cons_append]
  gi_wp2
  go_ret
  exact ⟨rfl, rfl⟩

/-- slices.Backward(s) hands back a value that stops -/
theorem back_stops (F : Fence) (n : Nat) (h32 : F.fn 32) (hro : F.round = none) (hn : 1 ≤ n) (Bs n₀ b len cap : Nat) (f g : Nat → Int) (hlen : len < 1000) (w : World) (hBs : Bs < w.heap.size) (hn₀ : n₀ ≤ w.heap.size) (hb : b < n₀)
    (hc : w.cell? ⟨Bs, 0, none⟩ = some (.slice (some ⟨b, 0, none⟩) len cap)) (hcs : ∀ j, j < len → w.cell? ⟨b, j * 2, none⟩ = some (.int .i64 (f j)) ∧ w.cell? ⟨b, j * 2 + 1, none⟩ = some (.int .i64 (g j))) :
    SeqStopsK F n Try.prog 32 #[.pointer (some ⟨Bs, 0, none⟩)] encs (Kept n₀ Bs) (fun ys => ys = upto (nth len f g) len) (fun pre => ∃ k, k ≤ len ∧ pre = upto (nth len f g) k) len w := fun l J Jx W hW _ _ hY h0 => by
  have hc' := (hW.cell (p := ⟨Bs, 0, none⟩) hBs).trans hc
  have hcs' : ∀ j, j < len → W.cell? ⟨b, j * 2, none⟩ = some (.int .i64 (f j)) ∧ W.cell? ⟨b, j * 2 + 1, none⟩ = some (.int .i64 (g j)) := fun j hj =>
    ⟨(hW.cell (p := ⟨b, j * 2, none⟩) (by show b < _; omega)).trans (hcs j hj).1, (hW.cell (p := ⟨b, j * 2 + 1, none⟩) (by show b < _; omega)).trans (hcs j hj).2⟩
  exact back1_in F n h32 hro hn l Bs n₀ b len cap f g hlen hb J Jx hY W hc' hcs' h0

theorem info43 : (Try.prog.info? 43).map (fun i => (i.zero, i.size, i.bytes)) = some (some (.agg #[.int .i64 0, .int .i64 0]), 2, 16) := by kernel_rfl

/-- the cells of the first k windows, the last one first -/
def rowB (f0 s v : Int) (k : Nat) : List Value := ((List.range k).map fun j : Nat => [Value.int .i64 (f0 - j * v), Value.int .i64 (f0 - j * v + s)]).flatten
theorem rowB_succ (f0 s v : Int) (k : Nat) : rowB f0 s v (k + 1) = rowB f0 s v k ++ [Value.int .i64 (f0 - k * v), Value.int .i64 (f0 - k * v + s)] := by
  unfold rowB
  rw [List.range_succ, List.map_append, List.flatten_append]
  simp

theorem two_new (w : World) (a b : Value) (t : TypeId) : ∀ (j : Nat) (u : Value), [a, b][j]? = some u → (w.alloc (.cells #[a, b] t)).cell? ((⟨w.heap.size, 0, none⟩ : Addr).add j) = some u := by
  intro j u hj
  have hn := World.alloc_heap_new w (.cells #[a, b] t)
  rcases j with _ | _ | j
  · simp at hj; subst hj
    rw [Addr.add_lit, cell_of_row _ _ _ _ _ _ hn]; rfl
  · simp at hj; subst hj
    rw [Addr.add_lit, cell_of_row _ _ _ _ _ _ hn]; rfl
  · simp at hj

theorem below_app {w W w1 : World} {e : TypeId} {size k : Nat} {v : Value} {xs : List Value} {tmp : Obj} (hB : Below w.heap.size w W) (hrow : W.ownsRow w.heap.size e size v k xs) (hgrow : (W.alloc tmp).grownBy w1 v.ownBlock) : Below w.heap.size w w1 := by
  have hs := hB.size
  refine (hB.alloc hs tmp).grown hgrow (by simp; omega) fun j ej => ?_
  rcases hrow.2 with ⟨rfl, _⟩ | ⟨g, cap, cur, rfl, hb, _, _⟩
  · simp [Value.ownBlock] at ej
  · obtain rfl : g = j := by simpa [Value.ownBlock] using ej
    exact hb

theorem rowB_len (f0 s v : Int) (k : Nat) : (rowB f0 s v k).length = k * 2 := by
  induction k with
  | zero => rfl
  | succ k ih => rw [rowB_succ, List.length_append, ih]; simp; omega
theorem rowB_at (f0 s v : Int) : ∀ (k j : Nat), j < k → (rowB f0 s v k)[j * 2]? = some (.int .i64 (f0 - j * v)) ∧ (rowB f0 s v k)[j * 2 + 1]? = some (.int .i64 (f0 - j * v + s))
  | 0, j, h => by omega
  | k + 1, j, h => by
    rw [rowB_succ]
    by_cases hj : j < k
    · have := rowB_at f0 s v k j hj
      rw [List.getElem?_append_left (by rw [rowB_len]; omega), List.getElem?_append_left (by rw [rowB_len]; omega)]
      exact this
    · obtain rfl : j = k := by omega
      rw [List.getElem?_append_right (by rw [rowB_len]; omega), List.getElem?_append_right (by rw [rowB_len]; omega), rowB_len]
      simp
/-- the cells of what has come -/
def rowP (l : List Pr) : List Value := (l.map fun x => [Value.int .i64 x.2.1, Value.int .i64 x.2.2]).flatten
theorem rowP_snoc (l : List Pr) (x : Pr) : rowP (l ++ [x]) = rowP l ++ [Value.int .i64 x.2.1, Value.int .i64 x.2.2] := by
  unfold rowP
  rw [List.map_append, List.flatten_append]
  simp

theorem owns_mono {W : World} {b b' : Nat} (h : b ≤ b') {e : TypeId} {size n : Nat} {v : Value} {xs : List Value} (hr : W.ownsRow b' e size v n xs) : W.ownsRow b e size v n xs := by
  refine ⟨hr.1, ?_⟩
  rcases hr.2 with h1 | ⟨g, cap, cur, h1, h2, h3⟩
  · exact .inl h1
  · exact .inr ⟨g, cap, cur, h1, Nat.le_trans h h2, h3⟩

set_option maxRecDepth 100000 in
set_option maxHeartbeats 4000000 in
theorem all_in (t s v f0 : Int) (cnt : Nat) (hs : 1 ≤ s ∧ s ≤ 1073741824 ∧ 1 ≤ v ∧ v ≤ s ∧ s ≤ 16 * v) (ht : -1099511627776 ≤ t ∧ t ≤ 1099511627776) (hf : f0 ≤ t ∧ t < f0 + v)
    (hcnt : 1 ≤ cnt ∧ cnt ≤ 17 ∧ ∀ j : Nat, j < cnt ↔ t < f0 - j * v + s) (w : World)
    (h14 : ∀ w, Calls Try.prog 14 #[.int .i64 t, .int .i64 v] w fun e w' => e = .returned (.tuple #[.agg #[.int .i64 f0, .int .i64 (f0 + v)], .int .i64 0]) ∧ Below w.heap.size w w') :
    CallsIn Fence.wide 3 Try.prog 15 #[.int .i64 t, .int .i64 s, .int .i64 v] w fun e w' => ∃ u, e = .returned (.tuple #[u, .int .i64 0]) ∧ w'.ownsRow w.heap.size 43 2 u cnt (rowP (upto (nth cnt (fun j => f0 - j * v) (fun j => f0 - j * v + s)) cnt)) ∧ Below w.heap.size w w' := by
  obtain ⟨i0, hi, hz0, hz1, hz2⟩ := info_parts info43
  refine callsIn_of_wp_marks Try.func15 rfl trivial ?_ rfl
  simp only [Try.ntmps15, List.size_toArray, List.length_cons, List.length_nil, Nat.reduceAdd, Nat.reduceSub, Array.replicate_succ, Array.replicate_zero, List.push_toArray, List.append_toArray, List.nil_append, List.cons_append]
  gi_wp2_with (refine ⟨trivial, ?_⟩; gi_at_call 14; refine (callsIn_wide.2 (h14 _)).mono ?_; rintro e w1 ⟨rfl, hb1⟩)
  all_goals
    gi_loopw [10, 11] (fun b i wr => ∃ k : Nat, k ≤ cnt ∧ i = .int .i64 (f0 - k * v) ∧ wr.ownsRow w.heap.size 43 2 b k (rowB f0 s v k) ∧ Below w.heap.size w wr)
      (fun b i _ => (intOf i + 4398046511104).toNat)
    case atStart => exact ⟨0, Nat.zero_le _, by simp, World.ownsRow_nil _ _ _ _, hb1.alloc hb1.size _⟩
    case round =>
      obtain ⟨k, hk, rfl, hrow, hB⟩ := hrel
      have hkv : 0 ≤ (k : Int) * v ∧ (k : Int) * v ≤ 18253611008 := by
        refine ⟨Int.mul_nonneg (by omega) (by omega), ?_⟩
        have := Int.mul_le_mul (show (k : Int) ≤ 17 by omega) (show v ≤ 1073741824 by omega) (by omega) (by omega)
        omega
      have hcx := hcnt.2.2 k
      have hsucc := rowB_succ f0 s v k
      have hk1 : ((k + 1 : Nat) : Int) * v = (k : Int) * v + v := by rw [Int.natCast_add, Int.add_mul]; simp
      generalize hp : (k : Int) * v = p at *
      by_cases hlt : k < cnt
      · have hcond := hcx.1 hlt
        gi_wp2_with (gi_at_builtin; refine wpListIn_append_own _ rfl _ _ 34 rfl w.heap.size 43 i0 (.agg #[.int .i64 0, .int .i64 0]) 2 16 Try.underlying34 hi hz0 hz1 hz2 rfl (by decide) _ _ _ rfl (hrow.alloc _) ⟨wr.heap.size, 0, none⟩ 1 1 [.int .i64 (f0 - p), .int .i64 (f0 - p + s)] rfl rfl (two_new _ _ _ _) (by simp [Value.oneCell']) (by unfold maxLen; omega) (by omega) (by have := hB.size; simp; omega) ?_; intro v' w2 hown' hgrow _; obtain ⟨g', cap', rfl⟩ := ownsRow_succ hown')
        go_roundw
        case rel => exact ⟨k + 1, by omega, by rw [hk1]; simp; omega, by rw [hsucc]; exact hown', below_app hB hrow hgrow⟩
        case measure => simp [intOf]; omega
      · obtain rfl : k = cnt := by omega
        have hcond := fun h => hlt (hcx.2 h)
        obtain ⟨c', rfl⟩ : ∃ c', k = c' + 1 := ⟨k - 1, by omega⟩
        obtain ⟨g, cap, rfl⟩ := ownsRow_succ hrow
        gi_wp2_with (refine ⟨trivial, ?_⟩; gi_at_call 23; refine (back_in Fence.wide 2 trivial rfl _ _ _ _).mono ?_; rintro e w' ⟨rfl, rfl⟩)
        obtain ⟨c0, cap0, cur0, hsl, hg0, hcell, hcc, hcm, hcs, hct⟩ : ∃ c0 cap0 cur0, Value.slice (some ⟨g, 0, none⟩) (c' + 1) cap = .slice (some ⟨c0, 0, none⟩) (c' + 1) cap0 ∧ w.heap.size ≤ c0 ∧ wr.heap[c0]? = some (.cells cur0 43 (0, 0)) ∧ c' + 1 ≤ cap0 ∧ cap0 ≤ maxLen ∧ cur0.size = cap0 * 2 ∧ cur0.toList.take ((c' + 1) * 2) = rowB f0 s v (c' + 1) := by
          rcases hrow.2 with ⟨h, _⟩ | h
          · cases h
          · exact h
        simp only [Value.slice.injEq, Option.some.injEq, Addr.mk.injEq, and_true, true_and] at hsl
        obtain ⟨rfl, rfl⟩ := hsl
        have hglt : g < wr.heap.size := (Array.getElem?_eq_some_iff.1 hcell).1
        have hcs0 := hB.size
        obtain ⟨W0, hW0⟩ : ∃ W0, (wr.alloc (Obj.cells #[Value.slice none 0 0] 34)).alloc (Obj.cells #[Value.slice (some ⟨g, 0, none⟩) (c' + 1) cap] 34) = W0 := ⟨_, rfl⟩
        rw [hW0]
        have hsz : W0.heap.size = wr.heap.size + 2 := by rw [← hW0]; simp
        have bO : Boxed W0 wr.heap.size 34 (.slice none 0 0) := by rw [← hW0]; exact (Boxed.new wr 34 _).alloc _
        have bN : Boxed W0 (wr.heap.size + 1) 34 (.slice (some ⟨g, 0, none⟩) (c' + 1) cap) := by
          rw [← hW0]
          have := Boxed.new (wr.alloc (Obj.cells #[Value.slice none 0 0] 34)) 34 (.slice (some ⟨g, 0, none⟩) (c' + 1) cap)
          rwa [World.size_alloc] at this
        have hB0 : Below w.heap.size w W0 := by rw [← hW0]; exact (hB.alloc hcs0 _).alloc (by simp; omega) _
        have hr0 : Below wr.heap.size wr W0 := by rw [← hW0]; exact ((Below.refl _ wr).alloc (Nat.le_refl _) _).alloc (by simp) _
        have hcells : ∀ j, j < c' + 1 → W0.cell? ⟨g, j * 2, none⟩ = some (.int .i64 (f0 - j * v)) ∧ W0.cell? ⟨g, j * 2 + 1, none⟩ = some (.int .i64 (f0 - j * v + s)) := fun j hj => by
          have h1 := rowB_at f0 s v (c' + 1) j hj
          rw [← hct] at h1
          have h0 : W0.heap[g]? = some (.cells cur0 43 (0, 0)) := (hr0.block g hglt).trans hcell
          refine ⟨?_, ?_⟩
          · have := h1.1
            rw [List.getElem?_take] at this
            split at this
            · simpa [World.cell?, h0] using this
            · cases this
          · have := h1.2
            rw [List.getElem?_take] at this
            split at this
            · simpa [World.cell?, h0] using this
            · cases this
        refine wpIn_rangeFunc_ownH rfl (by omega) (gf := 32) (lb := #[.pointer (some ⟨wr.heap.size + 1, 0, none⟩)]) rfl trivial (enters_of Try.func32 (by kernel_rfl) rfl)
          (back_stops Fence.wide 2 trivial rfl (by omega) (wr.heap.size + 1) wr.heap.size g (c' + 1) cap (fun j => f0 - j * v) (fun j => f0 - j * v + s) (by omega) W0 (by omega) (by omega) hglt bN.cell hcells)
          (fun h k => h.trans k) (fun W l o o' hl ho hc hw => ⟨belowK_b (w := W0) (by omega) W l o o' hl ho hc hw, World.putObj_heap_other (by omega)⟩) (Below.refl _ _) (fun _ => rfl)
          (fun pre W => ((∃ vv, Boxed W wr.heap.size 34 vv ∧ W.ownsRow wr.heap.size 43 2 vv pre.length (rowP pre) ∧ True) ∧ Boxed W (wr.heap.size + 1) 34 (.slice (some ⟨g, 0, none⟩) (c' + 1) cap)) ∧ Below w.heap.size w W)
          (fun _ _ _ => False)
          (OwnFrom.and (OwnFrom.and (Own.from (holdsRow_own wr.heap.size wr.heap.size 34 43 2 (fun pre => pre.length) rowP (fun _ _ => True)) _) (Own.from (boxed_own _ _ (fun _ => .slice (some ⟨g, 0, none⟩) (c' + 1) cap)) _)) (ownFrom_below (Nat.le_refl _) (by omega)))
          (fun _ _ _ _ _ hs _ _ => hs)
          ⟨⟨⟨_, bO, World.ownsRow_nil _ _ _ _, trivial⟩, bN⟩, hB0⟩
          (fun x a' W => ∃ Bx e0 e1 e2 e3 e4 e5 e6 e7 e8 e9 e10 e11 e13 e15 e16 e17 e18 e19 e20 e21 e22 e23 e24 e25 e26 e27 e28 e29 e30 e31 e32 e33 e34 e35 e36 e37 e38 e39 e40 e41 e42 e43 e44 e45 e46 e47 e48 e49 e50 e51 e52 e53 e54 e55 e56 e57 e58 e59 e60 e61 e62 e63 e64 e65 e66 e67 e68 e69, W0.heap.size ≤ Bx ∧ W.heap[Bx]? = some (.cells #[.int .i64 x.2.1, .int .i64 x.2.2] 43 (0, 0)) ∧ a' = { tmps := #[e0, e1, e2, e3, e4, e5, e6, e7, e8, e9, e10, e11, (.pointer (some ⟨wr.heap.size, 0, none⟩)), e13, (.pointer (some ⟨Bx, 0, none⟩)), e15, e16, e17, e18, e19, e20, e21, e22, e23, e24, e25, e26, e27, e28, e29, e30, e31, e32, e33, e34, e35, e36, e37, e38, e39, e40, e41, e42, e43, e44, e45, e46, e47, e48, e49, e50, e51, e52, e53, e54, e55, e56, e57, e58, e59, e60, e61, e62, e63, e64, e65, e66, e67, e68, e69], defers := [] })
          (fun x a' _ X Y row hs hg hr => by
            obtain ⟨Bx, e0, e1, e2, e3, e4, e5, e6, e7, e8, e9, e10, e11, e13, e15, e16, e17, e18, e19, e20, e21, e22, e23, e24, e25, e26, e27, e28, e29, e30, e31, e32, e33, e34, e35, e36, e37, e38, e39, e40, e41, e42, e43, e44, e45, e46, e47, e48, e49, e50, e51, e52, e53, e54, e55, e56, e57, e58, e59, e60, e61, e62, e63, e64, e65, e66, e67, e68, e69, h1, h2, h3⟩ := hs
            refine ⟨Bx, e0, e1, e2, e3, e4, e5, e6, e7, e8, e9, e10, e11, e13, e15, e16, e17, e18, e19, e20, e21, e22, e23, e24, e25, e26, e27, e28, e29, e30, e31, e32, e33, e34, e35, e36, e37, e38, e39, e40, e41, e42, e43, e44, e45, e46, e47, e48, e49, e50, e51, e52, e53, e54, e55, e56, e57, e58, e59, e60, e61, e62, e63, e64, e65, e66, e67, e68, e69, h1, ?_, h3⟩
            refine (hg.block Bx (Array.getElem?_eq_some_iff.1 h2).1 (fun e => ?_)).trans h2
            obtain ⟨_, o, ho, hc⟩ := hr Bx e.symm
            rw [h2] at ho; cases ho; cases hc)
          ?assign ?body ?done ?stop
        case assign =>
          rintro l pre x W K ⟨⟨⟨vv, hv, hrow1, _⟩, hBs⟩, hB1⟩ hK
          have hlt0 := hBs.lt
          gi_wp2
          exact hK _ _ ((KeepsOthers.alloc _ _).from _) ⟨(Below.refl _ W).alloc (by omega) _, Below.heap_alloc W _ _ hlt0⟩ ⟨⟨⟨vv, hv.alloc _, hrow1.alloc _, trivial⟩, hBs.alloc _⟩, hB1.alloc hB1.size _⟩ ⟨W.heap.size, _, _, _, _, _, _, _, _, _, _, _, _, _, _, _, _, _, _, _, _, _, _, _, _, _, _, _, _, _, _, _, _, _, _, _, _, _, _, _, _, _, _, _, _, _, _, _, _, _, _, _, _, _, _, _, _, _, _, _, _, _, _, _, _, _, _, _, _, by omega, World.alloc_heap_new W _, rfl⟩
        case body =>
          rintro l pre x a' W hl ⟨r, hr⟩ ⟨⟨⟨vv, hv, hrow1, _⟩, hBs⟩, hB1⟩ ⟨Bx, e0, e1, e2, e3, e4, e5, e6, e7, e8, e9, e10, e11, e13, e15, e16, e17, e18, e19, e20, e21, e22, e23, e24, e25, e26, e27, e28, e29, e30, e31, e32, e33, e34, e35, e36, e37, e38, e39, e40, e41, e42, e43, e44, e45, e46, e47, e48, e49, e50, e51, e52, e53, e54, e55, e56, e57, e58, e59, e60, e61, e62, e63, e64, e65, e66, e67, e68, e69, hBx, bX, rfl⟩ hlt
          have hc := hv.cell
          have hlt0 := hBs.lt
          have hx1 : W.cell? ⟨Bx, 0, none⟩ = some (.int .i64 x.2.1) := by rw [cell_of_row _ _ _ _ _ _ bX]; rfl
          have hx2 : W.cell? ⟨Bx, 1, none⟩ = some (.int .i64 x.2.2) := by rw [cell_of_row _ _ _ _ _ _ bX]; rfl
          gi_wp2_with (gi_at_builtin; refine wpListIn_append_own _ rfl _ _ 34 rfl wr.heap.size 43 i0 (.agg #[.int .i64 0, .int .i64 0]) 2 16 Try.underlying34 hi hz0 hz1 hz2 rfl (by decide) _ _ _ rfl (hrow1.alloc _) ⟨W.heap.size, 0, none⟩ 1 1 [.int .i64 x.2.1, .int .i64 x.2.2] rfl rfl (two_new _ _ _ _) (by simp [Value.oneCell']) (by unfold maxLen; omega) (by omega) (by simp; omega) ?_; intro v' w2 hown' hgrow _; obtain ⟨g', cap', rfl⟩ := ownsRow_succ hown'; obtain ⟨hv1, hv2, hr2, hk2, hb2⟩ := hv.appended (by decide) hrow1 (by omega) (Nat.le_refl _) hown' hgrow; have hc1 := hv1.cell; have hf1 := hv1.frozen)
          have hs1 := ((hBs.alloc _).kept hgrow (hBs.not_row (by decide) hrow1)).kept (grownBy_setCell' w2 wr.heap.size (.slice (some ⟨g', 0, none⟩) (pre.length + 1) cap')) (by simp)
          exact ⟨hk2.from _, ⟨hb2, hs1.trans hBs.symm⟩, ⟨⟨_, hv2, by rw [rowP_snoc]; simpa using hr2, trivial⟩, hs1⟩, hB1.trans (hb2.mono hcs0)⟩
        case done =>
          rintro D ys W hD rfl ⟨⟨⟨vv, hv, hrow1, _⟩, hBs⟩, hB1⟩ hK
          have hc := hv.cell
          gi_wp2
          refine ⟨by simp, .inl ⟨_, _, rfl, run_takeDeferred hK, ?_⟩⟩
          rw [upto_length] at hrow1
          exact ⟨_, results_tmp2 rfl _ _ _, vv, rfl, owns_mono hcs0 (ownsRow_putObj hrow1 _ hK rfl), hB1.trans (belowK_b (w := w) (Nat.le_refl _) W D _ _ (by omega) hK rfl rfl)⟩
        case stop =>
          rintro D c pre W _ _ h _
          exact h.elim
end Go.Proofs.Ytomeaojdihfgmaa.Slide
