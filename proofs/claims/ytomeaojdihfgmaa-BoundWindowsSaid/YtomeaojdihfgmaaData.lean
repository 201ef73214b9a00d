/- clauses.distinct over integers: how many different ones there are. -/
import Derived.Test.YtomeaojdihfgmaaChecked
import Derived.Test.YtomeaojdihfgmaaVmE
import Derived.WalkKit
import Derived.Maps.OwnSet
import Derived.Maps.Views
import Derived.Test.YtomeaojdihfgmaaVmF
import Derived.KernelRfl
namespace Go.Proofs.Ytomeaojdihfgmaa.Distinct
set_option linter.unusedVariables false
set_option linter.unusedSimpArgs false
open Go.RowKit Go.Maps Go.WideMaps Go.VM

def keys (g : Nat → Int) (k : Nat) : List Lit := (List.range k).map fun j => .int .i64 (g j)
def Sn {H : Type} (g : Nat → Int) (k : Nat) : DataW H := setOf (.lit (.bool true)) (keys g k)
theorem Sn_succ {H : Type} (g : Nat → Int) (k : Nat) : Sn (H := H) g (k + 1) = (Sn g k).put (.int .i64 (g k)) (.lit (.bool true)) := by
  unfold Sn keys
  rw [List.range_succ, List.map_append]
  simp only [List.map_cons, List.map_nil]
  rw [setOf_snoc]
theorem Sn_zero {H : Type} (g : Nat → Int) : Sn (H := H) g 0 = .map [] := by simp [Sn, keys, setOf]

theorem law3 : Keyed Try.prog 3 := int_keyed Try.underlying3
set_option maxRecDepth 100000 in
theorem distinct_none (a : Option Addr) (cap : Nat) (w : World) : Calls Try.prog 36 #[.slice a 0 cap] w fun e w' => e = .returned (.int .i64 0) ∧ Below w.heap.size w w' := by
  have hmm := @run_makeMap Try.prog
  go_enter Try.func36, Try.ntmps36
  go_wp2
  refine wp_loop_rounds 1 ?_
  rw [rounds_succ]
  go_wp2_with (first
    | (at_len; refine wpList_len_own _ rfl _ 86 rfl 3 4 Try.underlying86 (plainElem (H := Unit) Try.prog 4) w.heap.size 0 (.map []) rfl (World.ownsMap_made _ _ _ _) ?_)
    | go_in)
  go_ret
  exact ⟨rfl, (Below.refl _ _).alloc (Nat.le_refl _) _⟩

set_option maxRecDepth 100000 in
theorem distinct_any (a : Addr) (len cap : Nat) (g : Nat → Int) (w : World) (hmx : len ≤ maxLen) (hb : a.block < w.heap.size)
    (hc : ∀ j, j < len → w.cell? (a.add j) = some (.int .i64 (g j))) (hwf : ∀ j, j < len → (Lit.int .i64 (g j)).wf = true) :
    Calls Try.prog 36 #[.slice (some a) len cap] w fun e w' => e = .returned (.int .i64 (Maps.size (Sn (H := Unit) g len))) ∧ Below w.heap.size w w' := by
  have hmx' : len ≤ 9223372036854775807 := hmx
  have hmm := @run_makeMap Try.prog
  go_enter Try.func36, Try.ntmps36
  go_wp2
  go_loopw [9] (fun i wr => ∃ k : Nat, k ≤ len ∧ i = .int .i64 k ∧ wr.ownsMap Try.prog 3 (plainElem Try.prog 4) w.heap.size k (Sn (H := Unit) g k) ∧ Below w.heap.size w wr)
    (fun i _ => len - (intOf i).toNat)
  case atStart => exact ⟨0, Nat.zero_le _, rfl, by rw [Sn_zero]; exact World.ownsMap_made _ _ _ _, (Below.refl _ _).alloc (Nat.le_refl _) _⟩
  case round =>
    obtain ⟨k, hk, rfl, hown, hnx⟩ := hrel
    have hcx : k < len → wr.cell? (a.add k) = some (.int .i64 (g k)) := fun h => (hnx.cell (by rw [VM.Addr.add_block]; exact hb)).trans (hc k h)
    have hkey : k < len → keyOf Try.prog 3 (.int .i64 (g k)) = some (.int .i64 (g k)) := fun h => keyOf_int_mk Try.underlying3 (hwf k h)
    go_wp2_with (first
      | (at_mapUpdate; refine wpList_mapUpdate_own _ rfl _ _ _ 86 rfl 3 4 law3 Try.underlying86 (plainElem (H := Unit) Try.prog 4) w.heap.size k _ rfl hown (by unfold maxLen; omega) _ _ _ rfl rfl (hkey (by assumption)) _ [] (plainElem_bool Try.underlying4 true) ?_; intro w1 hown1 hgrow1)
      | (at_len; refine wpList_len_own _ rfl _ 86 rfl 3 4 Try.underlying86 _ w.heap.size k _ rfl hown ?_)
      | go_in)
    · have hlt : k < len := by assumption
      go_roundw
      case rel => exact ⟨k + 1, by omega, by go_num, (Sn_succ g k).symm ▸ hown1, hnx.grown hgrow1 hnx.size (fun j hj => by cases hj; exact Nat.le_refl _)⟩
      case measure => simp [intOf]; omega
    · have : k = len := by omega
      subst this
      go_ret
      exact ⟨rfl, hnx⟩

/-- a cell that is an integer -/
def num : List D → Option Int
  | [.lit (.int .i64 n)] => if (Lit.int .i64 n).wf = true then some n else none
  | _ => none
def count (ns : List Int) : Nat := ((ns.map fun n => Lit.int .i64 n).foldl addKey []).length
def spec : List V → Option V
  | [.d (.sl es)] => (mapO num es).map fun ns => V.int .i64 (count ns : Nat)
  | _ => none

theorem num_some {e : List D} {n : Int} (h : num e = some n) : e = [.lit (.int .i64 n)] ∧ (Lit.int .i64 n).wf = true := by
  unfold num at h
  split at h
  · split at h
    · obtain rfl := Option.some.inj h; exact ⟨rfl, ‹_›⟩
    · cases h
  · cases h

theorem size_count (ns : List Int) : Maps.size (Sn (H := Unit) (fun j => ns.getD j 0) ns.length) = count ns := by
  unfold Sn
  rw [size_setOf]
  · unfold count keys
    congr 2
    apply List.ext_getElem?
    intro i
    by_cases hi : i < ns.length
    · simp [hi, List.getD]
    · simp [hi]
  · intro x hx
    unfold keys at hx
    obtain ⟨j, _, rfl⟩ := List.mem_map.1 hx
    trivial

theorem calls (args : List V) (r : V) (h : spec args = some r) (w : World) (ok : Nat → Prop) (ρ : Nat → Option Nat) (vals : Array Value) (hlen : args.length = vals.size) (hok : ∀ x, ok x → x < w.heap.size)
    (hrep : ∀ (j : Nat) x u, args[j]? = some x → vals[j]? = some u → VRep w ok ρ x u) : Calls Try.prog 36 vals w fun e w' => ∃ u, e = .returned u ∧ Below w.heap.size w w' ∧ VRep w' (okNew w w' ok) ρ r u := by
  unfold spec at h
  split at h
  · rename_i es
    obtain ⟨ns, hns, rfl⟩ := Option.map_eq_some_iff.1 h
    obtain ⟨hl1, hl2⟩ := mapO_some hns
    match vals, hlen with
    | ⟨[u]⟩, _ =>
      have hr := hrep 0 _ u rfl rfl
      have hres : ∀ n : Nat, n = count ns → ∀ w', VRep w' (okNew w w' ok) ρ (V.int .i64 (count ns : Nat)) (.int .i64 n) := fun n hn w' => by
        subst hn; exact .d _ _ (.lit _ rfl)
      have hnil : ∀ a cap, es = [] → u = .slice a 0 cap → Calls Try.prog 36 #[u] w fun e w' => ∃ u, e = .returned u ∧ Below w.heap.size w w' ∧ VRep w' (okNew w w' ok) ρ (V.int .i64 (count ns : Nat)) u := fun a cap he hu => by
        subst he; subst hu
        simp [mapO] at hns
        subst hns
        exact (distinct_none a cap w).mono fun e w' ⟨h1, h2⟩ => ⟨_, h1, h2, hres 0 rfl w'⟩
      cases hr with
      | d _ _ hd =>
        cases hd with
        | sl0 a cap hm => exact hnil a cap rfl rfl
        | sl _ sz a cap us hsz hl hcap hm hokb hc hdd =>
          by_cases hes : es = []
          · exact hnil (some a) cap hes (by rw [hes]; rfl)
          · have hone : ∀ i, i < es.length → ∃ n, ns[i]? = some n ∧ es[i]? = some [.lit (.int .i64 n)] ∧ (Lit.int .i64 n).wf = true := fun i hi => by
              obtain ⟨n, hn, hnum⟩ := hl2 i _ (List.getElem?_eq_getElem hi)
              obtain ⟨h1, h2⟩ := num_some hnum
              exact ⟨n, hn, by rw [List.getElem?_eq_getElem hi, h1], h2⟩
            have hsz1 : sz = 1 := by
              have h0 : 0 < es.length := List.length_pos_iff.2 hes
              obtain ⟨n, _, h2, _⟩ := hone 0 h0
              rw [← hl _ (List.mem_of_getElem? h2)]; rfl
            subst hsz1
            have hget : ∀ i, i < es.length → w.cell? (a.add i) = some (.int .i64 (ns.getD i 0)) ∧ (Lit.int .i64 (ns.getD i 0)).wf = true := fun i hi => by
              obtain ⟨n, hn, h2, h3⟩ := hone i hi
              have hat : cellAt es i 0 = some (.lit (.int .i64 n)) := cellAt_of h2 rfl
              have hcell := hc i 0 _ hat
              have hd0 := hdd i 0 _ hat
              have hu : us i 0 = .int .i64 n := by
                generalize us i 0 = x at hd0
                cases hd0 with
                | lit v h => rfl
              rw [hu, Nat.mul_one, Nat.add_zero] at hcell
              have hg : ns.getD i 0 = n := by simp [List.getD, hn]
              rw [hg]
              exact ⟨hcell, h3⟩
            have := distinct_any a es.length cap (fun j => ns.getD j 0) w (Nat.le_trans hcap hm) (hok _ hokb) (fun j hj => (hget j hj).1) (fun j hj => (hget j hj).2)
            exact this.mono fun e w' ⟨h1, h2⟩ => ⟨_, h1, h2, hres _ (by rw [hl1]; exact size_count ns) w'⟩
  · cases h

theorem enters : Enters Try.prog 36 := enters_body Try.func36 (by kernel_rfl) rfl
theorem ok {X : Calls'} (hX : CallOk Try.prog X) : CallOk Try.prog (handCalls 36 spec X) := handCalls_ok hX enters calls
end Go.Proofs.Ytomeaojdihfgmaa.Distinct
/- What comes in to BoundWindows: a query and a time. -/
namespace Go.Proofs.Ytomeaojdihfgmaa.Data
set_option linter.unusedSimpArgs false
open Go.VM
set_option linter.unusedVariables false

@[reducible] def du (n : Int) : D := .lit (.int .u8 n)
@[reducible] def di (n : Int) : D := .lit (.int .i64 n)
@[reducible] def db (b : Bool) : D := .lit (.bool b)
def U (n : Int) : Prop := 0 ≤ n ∧ n < 256
def I (n : Int) : Prop := -9223372036854775808 ≤ n ∧ n < 9223372036854775808

structure Nd where
  kind : Int
  n : Int
  a : Int
  b : Int
  at' : Int
def Nd.enc (x : Nd) : List D := [du x.kind, di x.n, di x.a, di x.b, di x.at']
def Nd.wf (x : Nd) : Prop := U x.kind ∧ I x.n ∧ I x.a ∧ I x.b ∧ I x.at'

structure Qy where
  agg : Int
  arg : List Nd
  sources : List Int
  join : Bool
  where' : List Nd
  kind : Int
  size : Int
  every : Int
  byKey : Bool
  late : Int
def encs (l : List Nd) : D := .sl (l.map Nd.enc)
def ints (l : List Int) : D := .sl (l.map fun n => [di n])
def Qy.enc (q : Qy) : List D := [du q.agg, encs q.arg, ints q.sources, db q.join, encs q.where', du q.kind, di q.size, di q.every, db q.byKey, du q.late]
def Qy.wf (q : Qy) : Prop := U q.agg ∧ (∀ x ∈ q.arg, x.wf) ∧ (∀ n ∈ q.sources, I n) ∧ (∀ x ∈ q.where', x.wf) ∧ U q.kind ∧ I q.size ∧ I q.every ∧ U q.late

theorem u_of {n : Nat} {x : D} (h : Shape Try.prog n 5 [x]) : ∃ k, x = du k ∧ U k := by
  cases n with
  | zero => exact h.elim
  | succ n =>
    simp only [Shape, Try.underlying5] at h
    obtain ⟨k, hk, hw⟩ := h
    refine ⟨k, by simpa using hk, ?_⟩
    simp [Lit.wf, IntKind.min, IntKind.max, IntKind.bits, IntKind.signed] at hw
    exact ⟨hw.1, by omega⟩
theorem i_of {n : Nat} {x : D} (h : Shape Try.prog n 3 [x]) : ∃ k, x = di k ∧ I k := by
  cases n with
  | zero => exact h.elim
  | succ n =>
    simp only [Shape, Try.underlying3] at h
    obtain ⟨k, hk, hw⟩ := h
    refine ⟨k, by simpa using hk, ?_⟩
    simp [Lit.wf, IntKind.min, IntKind.max, IntKind.bits, IntKind.signed] at hw
    exact ⟨hw.1, by omega⟩
theorem l_of {n : Nat} {x : D} (h : Shape Try.prog n 2 [x]) : ∃ k, x = di k ∧ I k := by
  cases n with
  | zero => exact h.elim
  | succ n =>
    simp only [Shape, Try.underlying2] at h
    obtain ⟨k, hk, hw⟩ := h
    refine ⟨k, by simpa using hk, ?_⟩
    simp [Lit.wf, IntKind.min, IntKind.max, IntKind.bits, IntKind.signed] at hw
    exact ⟨hw.1, by omega⟩
theorem b_of {n : Nat} {x : D} (h : Shape Try.prog n 4 [x]) : ∃ k, x = db k := by
  cases n with
  | zero => exact h.elim
  | succ n =>
    simp only [Shape, Try.underlying4] at h
    obtain ⟨k, hk⟩ := h
    exact ⟨k, by simpa using hk⟩

theorem len5 {α : Type} {l : List α} (h : l.length = 5) : ∃ a b c d e, l = [a, b, c, d, e] := by
  match l, h with
  | [a, b, c, d, e], _ => exact ⟨a, b, c, d, e, rfl⟩
theorem len10 {α : Type} {l : List α} (h : l.length = 10) : ∃ a b c d e f g i j k, l = [a, b, c, d, e, f, g, i, j, k] := by
  match l, h with
  | [a, b, c, d, e, f, g, i, j, k], _ => exact ⟨a, b, c, d, e, f, g, i, j, k, rfl⟩
theorem len3 {α : Type} {l : List α} (h : l.length = 3) : ∃ a b c, l = [a, b, c] := by
  match l, h with
  | [a, b, c], _ => exact ⟨a, b, c, rfl⟩

theorem one_int : Try.prog.cellsOf 3 = 1 := by kernel_rfl
theorem one_int64 : Try.prog.cellsOf 2 = 1 := by kernel_rfl
theorem one_uint8 : Try.prog.cellsOf 5 = 1 := by kernel_rfl
theorem one_bool : Try.prog.cellsOf 4 = 1 := by kernel_rfl
theorem one_nodes : Try.prog.cellsOf 22 = 1 := by kernel_rfl
theorem one_ints : Try.prog.cellsOf 23 = 1 := by kernel_rfl
theorem five : Try.prog.cellsOf 61 = 5 := by kernel_rfl
theorem three : Try.prog.cellsOf 25 = 3 := by kernel_rfl
theorem ten : Try.prog.cellsOf 27 = 10 := by kernel_rfl

theorem node_of {n : Nat} {e : List D} (h : Shape Try.prog n 61 e) : ∃ x : Nd, e = x.enc ∧ x.wf := by
  cases n with
  | zero => exact h.elim
  | succ n =>
    simp only [Shape, Try.underlying61, five] at h
    obtain ⟨hl, hf⟩ := h
    obtain ⟨d0, d1, d2, d3, d4, rfl⟩ := len5 hl
    simp only [List.mem_cons, List.not_mem_nil, or_false, forall_eq_or_imp, forall_eq, one_int, one_int64, one_uint8] at hf
    obtain ⟨f0, f1, f2, f3, f4⟩ := hf
    obtain ⟨k0, rfl, w0⟩ := u_of f0
    obtain ⟨k1, rfl, w1⟩ := l_of f1
    obtain ⟨k2, rfl, w2⟩ := i_of f2
    obtain ⟨k3, rfl, w3⟩ := i_of f3
    obtain ⟨k4, rfl, w4⟩ := i_of f4
    exact ⟨⟨k0, k1, k2, k3, k4⟩, rfl, w0, w1, w2, w3, w4⟩

theorem list_of {α : Type} {f : α → List D} {w : α → Prop} : ∀ {es : List (List D)}, (∀ e ∈ es, ∃ x : α, e = f x ∧ w x) → ∃ l : List α, es = l.map f ∧ ∀ x ∈ l, w x
  | [], _ => ⟨[], rfl, fun x hx => by cases hx⟩
  | e :: es, h => by
    obtain ⟨x, rfl, hx⟩ := h e (by simp)
    obtain ⟨l, rfl, hl⟩ := list_of (f := f) (w := w) (es := es) fun e he => h e (by simp [he])
    exact ⟨x :: l, rfl, fun y hy => by
      rcases List.mem_cons.1 hy with rfl | hy
      · exact hx
      · exact hl y hy⟩

theorem nodes_of {n : Nat} {x : D} (h : Shape Try.prog n 22 [x]) : ∃ l, x = encs l ∧ (∀ y ∈ l, y.wf) ∧ l.length ≤ maxLen := by
  cases n with
  | zero => exact h.elim
  | succ n =>
    simp only [Shape, Try.underlying22] at h
    obtain ⟨es, he, hmx, hes⟩ := h
    obtain ⟨l, rfl, hl⟩ := list_of (f := Nd.enc) (w := Nd.wf) fun e he => node_of (hes e he).2
    exact ⟨l, by simpa [encs] using he, hl, by simpa using hmx⟩
theorem ints_of {n : Nat} {x : D} (h : Shape Try.prog n 23 [x]) : ∃ l, x = ints l ∧ (∀ y ∈ l, I y) ∧ l.length ≤ maxLen := by
  cases n with
  | zero => exact h.elim
  | succ n =>
    simp only [Shape, Try.underlying23] at h
    obtain ⟨es, he, hmx, hes⟩ := h
    obtain ⟨l, rfl, hl⟩ := list_of (f := fun n => [di n]) (w := I) fun e he => by
      obtain ⟨h1, h2⟩ := hes e he
      rw [one_int] at h1
      match e, h1 with
      | [y], _ =>
        obtain ⟨k, rfl, hk⟩ := i_of h2
        exact ⟨k, rfl, hk⟩
    exact ⟨l, by simpa [ints] using he, hl, by simpa using hmx⟩
theorem window_of {n : Nat} {e : List D} (h : Shape Try.prog n 25 e) : ∃ k s v, e = [du k, di s, di v] ∧ U k ∧ I s ∧ I v := by
  cases n with
  | zero => exact h.elim
  | succ n =>
    simp only [Shape, Try.underlying25, three] at h
    obtain ⟨hl, hf⟩ := h
    obtain ⟨d0, d1, d2, rfl⟩ := len3 hl
    simp only [List.mem_cons, List.not_mem_nil, or_false, forall_eq_or_imp, forall_eq, one_int, one_int64, one_uint8] at hf
    obtain ⟨f0, f1, f2⟩ := hf
    obtain ⟨k0, rfl, w0⟩ := u_of f0
    obtain ⟨k1, rfl, w1⟩ := l_of f1
    obtain ⟨k2, rfl, w2⟩ := l_of f2
    exact ⟨k0, k1, k2, rfl, w0, w1, w2⟩

theorem query_of {n : Nat} {x : V} (h : ShapeV Try.prog n 27 x) : ∃ q : Qy, x = .agg (q.enc.map .d) ∧ q.wf := by
  simp only [ShapeV, Try.underlying27] at h
  obtain ⟨ds, rfl, h⟩ := h
  cases n with
  | zero => exact h.elim
  | succ n =>
    simp only [Shape, Try.underlying27, ten] at h
    obtain ⟨hl, hf⟩ := h
    obtain ⟨d0, d1, d2, d3, d4, d5, d6, d7, d8, d9, rfl⟩ := len10 hl
    simp only [List.mem_cons, List.not_mem_nil, or_false, forall_eq_or_imp, forall_eq, one_uint8, one_bool, one_nodes, one_ints, three] at hf
    obtain ⟨f0, f1, f2, f3, f4, f5, f6, f7⟩ := hf
    obtain ⟨k0, rfl, w0⟩ := u_of f0
    obtain ⟨k1, rfl, w1, _⟩ := nodes_of f1
    obtain ⟨k2, rfl, w2, _⟩ := ints_of f2
    obtain ⟨k3, rfl⟩ := b_of f3
    obtain ⟨k4, rfl, w4, _⟩ := nodes_of f4
    obtain ⟨k5, k6, k7, h5, w5, w6, w7⟩ := window_of f5
    simp only [List.drop, List.take, List.cons.injEq, and_true] at h5
    obtain ⟨rfl, rfl, rfl⟩ := h5
    obtain ⟨k8, rfl⟩ := b_of f6
    obtain ⟨k9, rfl, w9⟩ := u_of f7
    exact ⟨⟨k0, k1, k2, k3, k4, k5, k6, k7, k8, k9⟩, rfl, w0, w1, w2, w4, w5, w6, w7, w9⟩
theorem time_of {n : Nat} {x : V} (h : ShapeV Try.prog n 2 x) : ∃ t, x = .d (di t) ∧ I t := by
  simp only [ShapeV, Try.underlying2] at h
  obtain ⟨d, rfl, h⟩ := h
  obtain ⟨k, rfl, hk⟩ := l_of h
  exact ⟨k, rfl, hk⟩
end Go.Proofs.Ytomeaojdihfgmaa.Data
