/- Each operation that the evaluator carries out, the model carries out alike (first part). -/
import Derived.Test.YtomeaojdihfgmaaVmA
import Derived.Laws.Cells
import Derived.Laws.Slices
import Derived.Laws.Entries
import Derived.Laws.Append
import Derived.Laws.CopyRow
import Derived.Laws.MakeOwn
import Derived.Laws.StructEq
import Derived.Laws.Strings
namespace Go.VM
open Go.RowKit
set_option linter.unusedVariables false
set_option linter.unusedSimpArgs false
set_option linter.unusedSectionVars false

/-- the model's run of an operation: a value, or nothing -/
def RunsTo (P : Program) (ev : Operand → Value) (o : Op) (w : World) (u : Value) (w' : World) : Prop :=
  ∀ oper : Oper, oper.op = o → (execOp ev oper).run P w = .ok (.value u) w' ∨ ((execOp ev oper).run P w = .ok .skip w' ∧ u = undef)

section
variable {P : Program} {base : Nat} {w0 w : World} {ok : Nat → Prop} {ρ : Nat → Option Nat} {S : Nat → Prop} {H H' : Heap} {E : Env} {ev : Operand → Value} {v : V}

def OpOk (P : Program) (base : Nat) (w0 w : World) (ok : Nat → Prop) (ρ : Nat → Option Nat) (S : Nat → Prop) (H : Heap) (T : List Nat) (ev : Operand → Value) (o : Op) (v : V) (H' : Heap) : Prop :=
  ∃ u w' ok' ρ', RunsTo P ev o w u w' ∧ OpRes base w0 w ok ρ S H T v H' u w' ok' ρ'

theorem OpOk.same {T : List Nat} {o : Op} {u : Value} (hr : RunsTo P ev o w u w) (hI : Inv base w0 w ok ρ S H) (hv : VRep w ok ρ v u) : OpOk P base w0 w ok ρ S H T ev o v H :=
  ⟨u, w, ok, ρ, hr, .pure hI hv⟩

theorem RunsTo.value {o : Op} {u : Value} {w' : World} {s : Sem Value} (hs : ∀ oper : Oper, oper.op = o → execOp ev oper = (do pure (.value (← s)))) (hr : s.run P w = .ok u w') : RunsTo P ev o w u w' := by
  intro oper ho
  left
  rw [hs oper ho]
  simp [hr]
theorem RunsTo.unit {o : Op} {w' : World} {s : Sem Unit} (hs : ∀ oper : Oper, oper.op = o → execOp ev oper = (do s; pure .skip)) (hr : s.run P w = .ok () w') : RunsTo P ev o w undef w' := by
  intro oper ho
  right
  rw [hs oper ho]
  simp [hr]

abbrev Reps (w : World) (ok : Nat → Prop) (ρ : Nat → Option Nat) (E : Env) (ev : Operand → Value) : Prop := ∀ x y, compX x = some y → VRep w ok ρ (y.ev E) (ev x)

/-! ### what a value of a known form stands for -/
theorem VRep.int_inv {k : IntKind} {n : Int} {u : Value} (h : VRep w ok ρ (V.int k n) u) : u = .int k n := by
  cases h with | d _ _ h => cases h; rfl
theorem VRep.lit_inv {x u : Value} (h : VRep w ok ρ (.d (.lit x)) u) : u = x := by
  cases h with | d _ _ h => cases h; rfl
theorem VRep.lit {x : Value} (h : x.oneCell' = true) : VRep w ok ρ (.d (.lit x)) x := .d _ _ (.lit _ h)
theorem VRep.nat_inv {v : V} {u : Value} {n : Nat} (h : VRep w ok ρ v u) (hn : v.nat? = some n) : ∃ k, u = .int k n := by
  unfold V.nat? at hn
  split at hn
  · rename_i k m
    split at hn
    · simp at hn; subst hn
      refine ⟨k, ?_⟩
      rw [h.lit_inv, Int.toNat_of_nonneg ‹_›]
    · cases hn
  · cases hn

theorem snd_mv {x : Operand} {vo : VOp} (o : Op) (ho : o = .move x ∨ o = .assign x) (hc : compOp P o = some vo) (hE : Reps w ok ρ E ev) (hI : Inv base w0 w ok ρ S H)
    (he : evalOp vo (X.ev E) H = some (v, H')) : OpOk P base w0 w ok ρ S H (wtouchOp vo (X.ev E)) ev o v H' := by
  have hc' : (compX x).map VOp.mv = some vo := by rcases ho with rfl | rfl <;> exact hc
  obtain ⟨y, hy, rfl⟩ := Option.map_eq_some_iff.1 hc'
  simp only [evalOp, Option.some.injEq, Prod.mk.injEq] at he
  obtain ⟨rfl, rfl⟩ := he
  refine .same (u := ev x) ?_ hI (hE x y hy)
  intro oper h
  left
  rcases ho with rfl | rfl <;> · unfold execOp; rw [h]; rfl

theorem snd_pick {c a b : Operand} {vo : VOp} (hc : compOp P (.pick c a b) = some vo) (hE : Reps w ok ρ E ev) (hI : Inv base w0 w ok ρ S H)
    (he : evalOp vo (X.ev E) H = some (v, H')) : OpOk P base w0 w ok ρ S H (wtouchOp vo (X.ev E)) ev (.pick c a b) v H' := by
  simp only [compOp] at hc
  split at hc
  · rename_i c' a' b' h1 h2 h3
    obtain rfl := Option.some.inj hc
    simp only [evalOp] at he
    split at he
    · rename_i t ht
      simp only [Option.some.injEq, Prod.mk.injEq] at he
      obtain ⟨rfl, rfl⟩ := he
      have hb := hE c c' h1
      rw [ht] at hb
      have hb := hb.lit_inv
      refine .same (u := if t then ev a else ev b) ?_ hI ?_
      · intro oper h; left
        unfold execOp; rw [h]; simp [hb, asBool]
      · cases t
        · exact hE b b' h3
        · exact hE a a' h2
    · cases he
  · cases hc

theorem run_zeroValue {t : TypeId} {i : TypeInfo} {z : Value} (hi : P.info? t = some i) (hz : i.zero = some z) : (zeroValue t).run P w = .ok z w := by
  simp [zeroValue, typeInfo, hi, hz]
theorem run_sizeOf' {t : TypeId} {i : TypeInfo} (hi : P.info? t = some i) : (sizeOf t).run P w = .ok i.size w := by
  simp [sizeOf, typeInfo, hi]
theorem run_underlying' {t : TypeId} {d : TypeDesc} (hi : P.underlying t = some d) : (underlying t).run P w = .ok d w := by
  simp [underlying, hi]
theorem szOf_some {t : TypeId} {s : Nat} (h : szOf P t = some s) : ∃ i, P.info? t = some i ∧ i.size = s := by
  unfold szOf at h
  obtain ⟨i, hi, hs⟩ := Option.map_eq_some_iff.1 h
  exact ⟨i, hi, hs⟩
theorem run_sizeOf_sz {t : TypeId} {s : Nat} (h : szOf P t = some s) : (sizeOf t).run P w = .ok s w := by
  obtain ⟨i, hi, rfl⟩ := szOf_some h; exact run_sizeOf' hi
theorem zeroOf_some {t : TypeId} {zs : List V} (h : zeroOf P t = some zs) : ∃ i z, P.info? t = some i ∧ i.zero = some z ∧ constCells z = some zs := by
  unfold zeroOf at h
  split at h
  · split at h
    · exact ⟨_, _, ‹_›, ‹_›, h⟩
    · cases h
  · cases h
theorem aggOf_run {t : TypeId} {g : Bool} (h : aggOf P t = some g) : (isAgg t).run P w = .ok g w := by
  unfold aggOf at h
  simp only [isAgg, Sem.run_bind]
  split at h <;> simp_all [run_underlying']
  rename_i d _ _ _
  cases hd : P.underlying t with
  | none => simp_all
  | some d => rw [run_underlying' hd]; simp only [Result.andThen_ok]; cases d <;> simp_all

theorem mapO_some {α β : Type} {f : α → Option β} : ∀ {l : List α} {r : List β}, mapO f l = some r → l.length = r.length ∧ ∀ (i : Nat) x, l[i]? = some x → ∃ y, r[i]? = some y ∧ f x = some y
  | [], r, h => by simp [mapO] at h; subst h; simp
  | a :: l, r, h => by
    simp only [mapO] at h
    split at h
    · rename_i y z hy hz
      obtain rfl := Option.some.inj h
      obtain ⟨h1, h2⟩ := mapO_some hz
      refine ⟨by simp [h1], fun i x hx => ?_⟩
      cases i with
      | zero => simp at hx; subst hx; exact ⟨y, by simp, hy⟩
      | succ i => simp at hx ⊢; exact h2 i x hx
    · cases h
theorem mapO_back {α β : Type} {f : α → Option β} {l : List α} {r : List β} (h : mapO f l = some r) (i : Nat) (y : β) (hy : r[i]? = some y) : ∃ x, l[i]? = some x ∧ f x = some y := by
  obtain ⟨h1, h2⟩ := mapO_some h
  have hi := (List.getElem?_eq_some_iff.1 hy).1
  have hx : l[i]? = some (l[i]'(by omega)) := List.getElem?_eq_getElem (by omega)
  obtain ⟨z, hz, hf⟩ := h2 i _ hx
  rw [hy] at hz; obtain rfl := Option.some.inj hz
  exact ⟨_, hx, hf⟩

theorem constCell_rep {u : Value} {x : V} (h : constCell u = some x) : VRep w ok ρ x u ∧ x.isCell = true ∧ u.oneCell' = true := by
  unfold constCell at h
  split at h <;> first
    | (obtain rfl := Option.some.inj h; first
        | exact ⟨.nilS none, rfl, rfl⟩
        | exact ⟨.lit rfl, rfl, rfl⟩)
    | (split at h
       · rename_i hc
         obtain rfl := Option.some.inj h
         obtain ⟨h1, h2⟩ := hc
         obtain rfl := Array.eq_empty_of_size_eq_zero h1
         obtain rfl := Array.eq_empty_of_size_eq_zero h2
         exact ⟨.clo _ [] #[] rfl (fun j v u hv => by simp at hv), rfl, rfl⟩
       · cases h)
    | (cases h; done)
theorem constCells_rep {u : Value} {xs : List V} (h : constCells u = some xs) : u.cells.size = xs.length ∧ ∀ (j : Nat) x, xs[j]? = some x → ∃ y, u.cells[j]? = some y ∧ VRep w ok ρ x y ∧ x.isCell = true ∧ y.oneCell' = true := by
  unfold constCells at h
  obtain ⟨h1, h2⟩ := mapO_some h
  refine ⟨by simpa using h1, fun j x hx => ?_⟩
  obtain ⟨y, hy, hf⟩ := mapO_back h j x hx
  exact ⟨y, by simpa using hy, constCell_rep hf⟩
theorem constV_rep {u : Value} {x : V} (h : constV u = some x) : VRep w ok ρ x u := by
  unfold constV at h
  split at h
  · rename_i cs
    obtain ⟨l, hl, rfl⟩ := Option.map_eq_some_iff.1 h
    obtain ⟨h1, h2⟩ := mapO_some hl
    refine .agg l cs (by simpa using h1.symm) fun j v u hv hu => ?_
    obtain ⟨y, hy, hf⟩ := mapO_back hl j v hv
    rw [Array.getElem?_toList, hu] at hy
    obtain rfl := Option.some.inj hy
    exact (constCell_rep hf).1
  · cases h
  · exact (constCell_rep h).1

theorem cellAt_single {α : Type} {e : List α} {i j : Nat} {x : α} (h : cellAt [e] i j = some x) : i = 0 ∧ e[j]? = some x := by
  unfold cellAt at h
  cases i with
  | zero => exact ⟨rfl, by simpa using h⟩
  | succ i => simp at h

theorem below_here (hI : Inv base w0 w ok ρ S H) : Below base w0 w := hI.below

theorem snd_alloc {t : TypeId} {vo : VOp} (hc : compOp P (.alloc t) = some vo) (hI : Inv base w0 w ok ρ S H)
    (he : evalOp vo (X.ev E) H = some (v, H')) (hN : ∀ b, H.length ≤ b → b < H'.length → S b) : OpOk P base w0 w ok ρ S H (wtouchOp vo (X.ev E)) ev (.alloc t) v H' := by
  simp only [compOp] at hc
  obtain ⟨zs, hz, rfl⟩ := Option.map_eq_some_iff.1 hc
  obtain ⟨i, z, hi, hz', hcs⟩ := zeroOf_some hz
  simp only [evalOp] at he
  split at he
  · rename_i hpos
    simp only [Option.some.injEq, Prod.mk.injEq] at he
    obtain ⟨rfl, rfl⟩ := he
    obtain ⟨h1, h2⟩ := constCells_rep (w := w) (ok := ok) (ρ := ρ) hcs
    refine ⟨.pointer (some ⟨w.heap.size, 0, none⟩), w.alloc (.cells z.cells t), ok, setRho ρ H.length w.heap.size, ?_, ?_⟩
    · refine RunsTo.value (s := Instr.alloc t true (.tuple #[])) (fun oper h => by unfold execOp; rw [h]) ?_
      simp [Instr.alloc, run_zeroValue hi hz', newVar, newRow]
    · refine OpRes.new hI (hN _ (Nat.le_refl _) (by simp [newBlk])) w rfl hI.below ⟨t, zs.length, [zs]⟩ z.cells hpos (by simp) (by simp [h1]) (fun i j x hx => ?_) ?_
      · obtain ⟨rfl, hx⟩ := cellAt_single hx
        obtain ⟨y, hy, hr, _, ho⟩ := h2 j x hx
        exact ⟨y, by simpa using hy, hr, ho⟩
      · have : (⟨w.heap.size, 0, none⟩ : Addr) = ⟨w.heap.size, 0 * zs.length + 0, none⟩ := by simp
        rw [this]
        exact .ptr _ _ _ _ _ (by unfold setRho; rw [if_pos rfl])
  · cases he

theorem snd_box {t : TypeId} {x : Operand} {vo : VOp} (hc : compOp P (.box t x) = some vo) (hE : Reps w ok ρ E ev) (hI : Inv base w0 w ok ρ S H)
    (he : evalOp vo (X.ev E) H = some (v, H')) (hN : ∀ b, H.length ≤ b → b < H'.length → S b) : OpOk P base w0 w ok ρ S H (wtouchOp vo (X.ev E)) ev (.box t x) v H' := by
  simp only [compOp] at hc
  split at hc
  · rename_i s y hs hy
    obtain rfl := Option.some.inj hc
    simp only [evalOp] at he
    split at he
    · rename_i hcond
      obtain ⟨hpos, hlen, hall⟩ := hcond
      simp only [Option.some.injEq, Prod.mk.injEq] at he
      obtain ⟨rfl, rfl⟩ := he
      obtain ⟨h1, h2, h3⟩ := (hE x y hy).cells hall
      refine ⟨.pointer (some ⟨w.heap.size, 0, none⟩), w.alloc (.cells (ev x).cells t), ok, setRho ρ H.length w.heap.size, ?_, ?_⟩
      · refine RunsTo.value (s := Instr.box t (ev x)) (fun oper h => by unfold execOp; rw [h]) ?_
        simp [Instr.box, newVar, newRow]
      · refine OpRes.new hI (hN _ (Nat.le_refl _) (by simp [newBlk])) w rfl hI.below ⟨t, s, [(y.ev E).cells]⟩ (ev x).cells hpos (by simp [hlen]) (by simp; omega) (fun i j x' hx => ?_) ?_
        · obtain ⟨rfl, hx⟩ := cellAt_single hx
          have hj := (List.getElem?_eq_some_iff.1 hx).1
          have hu : (ev x).cells[j]? = some ((ev x).cells[j]'(by omega)) := Array.getElem?_eq_getElem (by omega)
          exact ⟨_, by simp only [Nat.zero_mul, Nat.zero_add]; exact hu, h2 j x' _ hx hu, h3 _ (Array.getElem_mem _)⟩
        · have : (⟨w.heap.size, 0, none⟩ : Addr) = ⟨w.heap.size, 0 * s + 0, none⟩ := by simp
          rw [this]
          exact .ptr _ _ _ _ _ (by unfold setRho; rw [if_pos rfl])
    · cases he
  · cases hc
end
end Go.VM
/- Each operation that the evaluator carries out, the model carries out alike (second part): memory read and written. -/
namespace Go.VM
open Go.RowKit
set_option linter.unusedVariables false
set_option linter.unusedSimpArgs false
set_option linter.unusedSectionVars false
section
variable {P : Program} {base : Nat} {w0 w : World} {ok : Nat → Prop} {ρ : Nat → Option Nat} {S : Nat → Prop} {H H' : Heap} {E : Env} {ev : Operand → Value} {v : V}

theorem cellAt_of {α : Type} {es : List (List α)} {i j : Nat} {e : List α} {x : α} (h : es[i]? = some e) (hj : e[j]? = some x) : cellAt es i j = some x := by
  unfold cellAt; rw [h]; exact hj
theorem cellAt_some {α : Type} {es : List (List α)} {i j : Nat} {x : α} (h : cellAt es i j = some x) : ∃ e, es[i]? = some e ∧ e[j]? = some x := by
  unfold cellAt at h; split at h
  · exact ⟨_, ‹_›, h⟩
  · cases h

theorem Addr.add_add (a : Addr) (m n : Nat) : (a.add m).add n = a.add (m + n) := by
  cases a with
  | mk b o s =>
    simp only [Addr.add]
    split <;> split <;> simp_all <;> omega
theorem Addr.add_plain (b o n : Nat) : (⟨b, o, none⟩ : Addr).add n = ⟨b, o + n, none⟩ := Addr.add_lit b o n

/-- a cell of an own block, read in the world -/
theorem OwnAt.read {x : Nat} {k : Blk} (h : OwnAt w ok ρ x k) {i j : Nat} {c : V} (hc : cellAt k.es i j = some c) : ∃ u, w.cell? ⟨x, i * k.sz + j, none⟩ = some u ∧ VRep w ok ρ c u ∧ u.oneCell' = true := by
  obtain ⟨cs, h1, h2, h3⟩ := h.cells
  obtain ⟨u, hu, hr, ho⟩ := h3 i j c hc
  exact ⟨u, by rw [cell_of_row w x _ cs _ _ h1]; exact hu, hr, ho⟩

/-- a load: what the address leads to -/
theorem load_reads {sz : Nat} {agg : Bool} {a : V} {u : Value} (hI : Inv base w0 w ok ρ S H) (hS : ∀ b ∈ touchV a, S b) (ha : VRep w ok ρ a u) (he : loadV H sz agg a = some v) :
    ∃ ad, u = .pointer (some ad) ∧ (agg = false → ∃ y, w.cell? ad = some y ∧ VRep w ok ρ v y) ∧
      (agg = true → ∃ us : List Value, us.length = sz ∧ (∀ j y, us[j]? = some y → w.cell? (ad.add j) = some y) ∧ VRep w ok ρ v (.agg us.toArray)) := by
  cases ha with
  | ptr b bsz i o x hr =>
    simp only [loadV] at he
    split at he
    · rename_i k hk
      split at he
      · rename_i hsz
        split at he
        · rename_i e hes
          have hown := hI.own b k x (hS b (by simp [touchV])) hk hr
          subst hsz
          refine ⟨_, rfl, fun hg => ?_, fun hg => ?_⟩
          · subst hg
            simp only [Bool.false_eq_true, if_false] at he
            obtain ⟨y, hy, hv, _⟩ := hown.read (cellAt_of hes he)
            exact ⟨y, hy, hv⟩
          · subst hg
            simp only [if_true] at he
            split at he
            · rename_i hle
              obtain rfl := Option.some.inj he
              have hget : ∀ j, j < sz → ∃ c, e[o + j]? = some c := fun j hj => ⟨_, List.getElem?_eq_getElem (by omega)⟩
              have hex : ∀ j, ∃ y, j < sz → ∃ c, e[o + j]? = some c ∧ w.cell? ⟨x, i * k.sz + (o + j), none⟩ = some y ∧ VRep w ok ρ c y := fun j => by
                by_cases hj : j < sz
                · obtain ⟨c, hc⟩ := hget j hj
                  obtain ⟨y, hy, hv, _⟩ := hown.read (cellAt_of hes hc)
                  exact ⟨y, fun _ => ⟨c, hc, hy, hv⟩⟩
                · exact ⟨undef, fun h => absurd h hj⟩
              let f : Nat → Value := fun j => Classical.choose (hex j)
              have hf : ∀ j, j < sz → ∃ c, e[o + j]? = some c ∧ w.cell? ⟨x, i * k.sz + (o + j), none⟩ = some (f j) ∧ VRep w ok ρ c (f j) := fun j hj => Classical.choose_spec (hex j) hj
              refine ⟨(List.range sz).map f, by simp, fun j y hy => ?_, .agg _ _ (by simp; omega) fun j c y hc hy => ?_⟩
              · have hj : j < sz := by have := (List.getElem?_eq_some_iff.1 hy).1; simpa using this
                obtain ⟨c, _, hcell, _⟩ := hf j hj
                simp [List.getElem?_map, List.getElem?_range, hj] at hy
                subst hy
                rw [Addr.add_plain, Nat.add_assoc]
                exact hcell
              · have hj : j < sz := by
                  have := (Array.getElem?_eq_some_iff.1 hy).1; simpa using this
                obtain ⟨c', hc', _, hv⟩ := hf j hj
                simp [List.getElem?_take, List.getElem?_drop, hj] at hc
                rw [hc'] at hc; obtain rfl := Option.some.inj hc
                simp [hj] at hy; subst hy
                exact hv
            · cases he
        · cases he
      · cases he
    · cases he
  | fptr cs a us hok hc hd =>
    simp only [loadV] at he
    refine ⟨a, rfl, fun hg => ?_, fun hg => ?_⟩
    · subst hg
      simp only [Bool.false_eq_true, if_false] at he
      obtain ⟨x, hx, rfl⟩ := Option.map_eq_some_iff.1 he
      have := hc 0 x hx
      rw [show a.add 0 = a from by simp [Addr.add]] at this
      exact ⟨_, this, .d _ _ (hd 0 x hx)⟩
    · subst hg
      simp only [if_true] at he
      split at he
      · rename_i hle
        obtain rfl := Option.some.inj he
        refine ⟨(List.range sz).map us, by simp, fun j y hy => ?_, .agg _ _ (by simp; omega) fun j c y hc' hy => ?_⟩
        · have hj : j < sz := by have := (List.getElem?_eq_some_iff.1 hy).1; simpa using this
          simp [List.getElem?_map, List.getElem?_range, hj] at hy
          subst hy
          exact hc j _ (List.getElem?_eq_getElem (by omega))
        · have hj : j < sz := by have := (Array.getElem?_eq_some_iff.1 hy).1; simpa using this
          simp [hj] at hy; subst hy
          simp [List.getElem?_map, List.getElem?_take, hj] at hc'
          obtain ⟨x, hx, rfl⟩ := hc'
          exact .d _ _ (hd j x hx)
      · cases he
  | _ => simp [loadV] at he

theorem run_loadVar_of {t : TypeId} {g : Bool} {s : Nat} {ad : Addr} (hs : szOf P t = some s) (hg : aggOf P t = some g)
    (h0 : g = false → ∃ y, w.cell? ad = some y ∧ VRep w ok ρ v y)
    (h1 : g = true → ∃ us : List Value, us.length = s ∧ (∀ j y, us[j]? = some y → w.cell? (ad.add j) = some y) ∧ VRep w ok ρ v (.agg us.toArray)) :
    ∃ u, (loadVar t ad).run P w = .ok u w ∧ VRep w ok ρ v u := by
  cases g with
  | false =>
    obtain ⟨y, hy, hv⟩ := h0 rfl
    exact ⟨y, by simp [loadVar, aggOf_run hg, hy], hv⟩
  | true =>
    obtain ⟨us, hl, hc, hv⟩ := h1 rfl
    refine ⟨.agg us.toArray, ?_, hv⟩
    have hrun := run_loadCells_list (P := P) (w := w) ad us hc
    rw [hl] at hrun
    simp [loadVar, aggOf_run hg, run_sizeOf_sz hs, hrun]

theorem snd_load {t : TypeId} {x : Operand} {vo : VOp} (hc : compOp P (.load t x) = some vo) (hE : Reps w ok ρ E ev) (hI : Inv base w0 w ok ρ S H)
    (he : evalOp vo (X.ev E) H = some (v, H')) (hS : ∀ b ∈ touchOp vo (X.ev E), S b) : OpOk P base w0 w ok ρ S H (wtouchOp vo (X.ev E)) ev (.load t x) v H' := by
  simp only [compOp] at hc
  split at hc
  · rename_i s g y hs hg hy
    obtain rfl := Option.some.inj hc
    simp only [evalOp] at he
    obtain ⟨v', hv', e⟩ := Option.map_eq_some_iff.1 he
    simp only [Prod.mk.injEq] at e
    obtain ⟨rfl, rfl⟩ := e
    obtain ⟨ad, hu, h0, h1⟩ := load_reads hI hS (hE x y hy) hv'
    obtain ⟨u, hr, hrep⟩ := run_loadVar_of (P := P) hs hg h0 h1
    refine .same (u := u) ?_ hI hrep
    refine RunsTo.value (s := Instr.loadAt t (ev x)) (fun oper h => by unfold execOp; rw [h]) ?_
    rw [hu]
    simp [Instr.loadAt, Instr.sureAddr, hr]
  · cases hc

theorem snd_fa {t : TypeId} {x : Operand} {f : Nat} {vo : VOp} (hc : compOp P (.fieldAddr t x f) = some vo) (hE : Reps w ok ρ E ev) (hI : Inv base w0 w ok ρ S H)
    (he : evalOp vo (X.ev E) H = some (v, H')) : OpOk P base w0 w ok ρ S H (wtouchOp vo (X.ev E)) ev (.fieldAddr t x f) v H' := by
  simp only [compOp] at hc
  split at hc
  · rename_i fs y hu hy
    split at hc
    · rename_i fd hfd
      split at hc
      · rename_i s hs
        split at hc
        · cases hc
        · rename_i hne
          obtain rfl := Option.some.inj hc
          have hx := hE x y hy
          simp only [evalOp] at he
          have hrun : ∀ a : Addr, (Instr.fieldAt t (.pointer (some a)) f).run P w = .ok (.pointer (some (a.add fd.offset))) w := fun a => by
            simp [Instr.fieldAt, run_underlying' hu, hfd, Instr.sureAddr, fieldPlace, run_sizeOf_sz hs, hne]
          split at he
          · rename_i b bsz i o hp
            simp only [Option.some.injEq, Prod.mk.injEq] at he
            obtain ⟨rfl, rfl⟩ := he
            rw [hp] at hx
            cases hx' : ev x with
            | pointer a =>
              rw [hx'] at hx
              cases hx with
              | ptr _ _ _ _ z hr =>
                refine .same (u := .pointer (some ((⟨z, i * bsz + o, none⟩ : Addr).add fd.offset))) ?_ hI ?_
                · refine RunsTo.value (s := Instr.fieldAt t (ev x) f) (fun oper h => by unfold execOp; rw [h]) ?_
                  rw [hx']; exact hrun _
                · rw [Addr.add_plain, Nat.add_assoc]; exact .ptr _ _ _ _ _ hr
            | _ => rw [hx'] at hx; cases hx
          · rename_i cs hp
            simp only [Option.some.injEq, Prod.mk.injEq] at he
            obtain ⟨rfl, rfl⟩ := he
            rw [hp] at hx
            cases hx' : ev x with
            | pointer a =>
              rw [hx'] at hx
              cases hx with
              | fptr _ a us hok hcl hd =>
                refine .same (u := .pointer (some (a.add fd.offset))) ?_ hI ?_
                · refine RunsTo.value (s := Instr.fieldAt t (ev x) f) (fun oper h => by unfold execOp; rw [h]) ?_
                  rw [hx']; exact hrun _
                · refine .fptr _ _ (fun j => us (fd.offset + j)) (by rw [Addr.add_block]; exact hok) (fun j c hj => ?_) (fun j c hj => ?_)
                  · rw [Addr.add_add]; exact hcl _ c (by simpa [List.getElem?_drop] using hj)
                  · exact hd _ c (by simpa [List.getElem?_drop] using hj)
            | _ => rw [hx'] at hx; cases hx
          · cases he
      · cases hc
    · cases hc
  · cases hc

/-- a part of a value -/
theorem run_part_of {t : TypeId} {g : Bool} {s off : Nat} {cs : List V} {us : Array Value} (hs : szOf P t = some s) (hg : aggOf P t = some g) (hl : cs.length = us.size)
    (h : ∀ (j : Nat) x u, cs[j]? = some x → us[j]? = some u → VRep w ok ρ x u)
    (he : (if g then (if off + s ≤ cs.length then some (V.agg ((cs.drop off).take s)) else none) else cs[off]?) = some v) :
    ∃ u, (part t us off).run P w = .ok u w ∧ VRep w ok ρ v u := by
  cases g with
  | false =>
    simp only [Bool.false_eq_true, if_false] at he
    have hoff := (List.getElem?_eq_some_iff.1 he).1
    have hu : us[off]? = some (us[off]'(by omega)) := Array.getElem?_eq_getElem (by omega)
    refine ⟨us[off]'(by omega), ?_, h off v _ he hu⟩
    simp [part, aggOf_run hg, hu]
  | true =>
    simp only [if_true] at he
    split at he
    · rename_i hle
      obtain rfl := Option.some.inj he
      refine ⟨.agg (us.extract off (off + s)), by simp [part, aggOf_run hg, run_sizeOf_sz hs], .agg _ _ (by simp; omega) fun j x u hx hu => ?_⟩
      have hj : j < s := by
        have := (List.getElem?_eq_some_iff.1 hx).1
        simp at this; omega
      simp [List.getElem?_take, List.getElem?_drop, hj] at hx
      rw [Array.getElem?_extract] at hu
      split at hu
      · exact h (off + j) x u hx hu
      · cases hu
    · cases he

theorem snd_fld {t : TypeId} {x : Operand} {f : Nat} {vo : VOp} (hc : compOp P (.field t x f) = some vo) (hE : Reps w ok ρ E ev) (hI : Inv base w0 w ok ρ S H)
    (he : evalOp vo (X.ev E) H = some (v, H')) : OpOk P base w0 w ok ρ S H (wtouchOp vo (X.ev E)) ev (.field t x f) v H' := by
  simp only [compOp] at hc
  split at hc
  · rename_i fs y hu hy
    split at hc
    · rename_i fd hfd
      split at hc
      · rename_i s g hs hg
        obtain rfl := Option.some.inj hc
        have hx := hE x y hy
        simp only [evalOp] at he
        split at he
        · rename_i cs hp
          rw [hp] at hx
          cases hx' : ev x with
          | agg us =>
            rw [hx'] at hx
            cases hx with
            | agg _ _ hl h =>
              have : (if g then (if fd.offset + s ≤ cs.length then some (V.agg ((cs.drop fd.offset).take s)) else none) else cs[fd.offset]?) = some v ∧ H' = H := by
                cases g with
                | false => simp only [Bool.false_eq_true, if_false] at he ⊢; obtain ⟨z, hz, e⟩ := Option.map_eq_some_iff.1 he; simp at e; exact ⟨by rw [hz, e.1], e.2.symm⟩
                | true => simp only [if_true] at he ⊢; split at he <;> simp_all
              obtain ⟨he', rfl⟩ := this
              obtain ⟨u, hr, hv⟩ := run_part_of (P := P) hs hg hl h he'
              refine .same (u := u) ?_ hI hv
              refine RunsTo.value (s := Instr.field t (ev x) f) (fun oper h => by unfold execOp; rw [h]) ?_
              rw [hx']
              simp [Instr.field, run_underlying' hu, hfd, asAgg, hr]
          | _ => rw [hx'] at hx; cases hx
        · cases he
      · cases hc
    · cases hc
  · cases hc
end
end Go.VM
/- Each operation that the evaluator carries out, the model carries out alike (third part): indices, stores, numbers. -/
namespace Go.VM
open Go.RowKit
set_option linter.unusedVariables false
set_option linter.unusedSimpArgs false
set_option linter.unusedSectionVars false
section
variable {P : Program} {base : Nat} {w0 w : World} {ok : Nat → Prop} {ρ : Nat → Option Nat} {S : Nat → Prop} {H H' : Heap} {E : Env} {ev : Operand → Value} {v : V}

theorem snd_indexAddr {t : TypeId} {x i : Operand} {vo : VOp} (hc : compOp P (.indexAddr t x i) = some vo) (hE : Reps w ok ρ E ev) (hI : Inv base w0 w ok ρ S H)
    (he : evalOp vo (X.ev E) H = some (v, H')) : OpOk P base w0 w ok ρ S H (wtouchOp vo (X.ev E)) ev (.indexAddr t x i) v H' := by
  simp only [compOp] at hc
  split at hc
  · -- a slice
    rename_i e x' i' hu hx hi
    obtain ⟨s, hs, rfl⟩ := Option.map_eq_some_iff.1 hc
    have hrx := hE x x' hx
    have hri := hE i i' hi
    simp only [evalOp] at he
    have hrun : ∀ (a : Addr) (len cap n : Nat) (k : IntKind), n < len → (Instr.indexAt t (.slice (some a) len cap) (.int k n)).run P w = .ok (.pointer (some (a.add (n * s)))) w := fun a len cap n k hn => by
      have h1 : (0 : Int) ≤ n ∧ (n : Int) < len := by omega
      simp [Instr.indexAt, asIntOf, run_underlying' hu, run_sizeOf_sz hs, h1, hn]
    split at he
    · rename_i b sz off len cap n hp hn
      obtain ⟨k, hk⟩ := hri.nat_inv hn
      split at he
      · rename_i hlt
        obtain ⟨hlt, rfl⟩ := hlt
        simp only [Option.some.injEq, Prod.mk.injEq] at he
        obtain ⟨rfl, rfl⟩ := he
        rw [hp] at hrx
        generalize hux : ev x = ux at hrx
        cases hrx with
        | ref _ _ _ _ _ z cap' hr hlc hcc hm hsz hss =>
          refine .same (u := .pointer (some ((⟨z, off * sz, none⟩ : Addr).add (n * sz)))) ?_ hI ?_
          · refine RunsTo.value (s := Instr.indexAt t (ev x) (ev i)) (fun oper h => by unfold execOp; rw [h]) ?_
            rw [hux, hk]; exact hrun _ _ _ _ _ hlt
          · rw [Addr.add_plain, ← Nat.add_mul]
            have := VRep.ptr (w := w) (ok := ok) b sz (off + n) 0 z hr
            simpa using this
      · cases he
    · rename_i es n hp hn
      obtain ⟨k, hk⟩ := hri.nat_inv hn
      split at he
      · rename_i e' hes
        split at he
        · rename_i hlen
          simp only [Option.some.injEq, Prod.mk.injEq] at he
          obtain ⟨rfl, rfl⟩ := he
          rw [hp] at hrx
          generalize hux : ev x = ux at hrx
          cases hrx with
          | d _ _ hd =>
            have hlt := (List.getElem?_eq_some_iff.1 hes).1
            cases hd with
            | sl0 => simp at hes
            | sl _ sz a cap us hsz hl hcap hm hok hcl hdd =>
              have hsz' : sz = s := by rw [← hlen]; exact (hl e' (List.mem_of_getElem? hes)).symm
              subst hsz'
              refine .same (u := .pointer (some (a.add (n * sz)))) ?_ hI ?_
              · refine RunsTo.value (s := Instr.indexAt t (ev x) (ev i)) (fun oper h => by unfold execOp; rw [h]) ?_
                rw [hux, hk]; exact hrun _ _ _ _ _ hlt
              · refine .fptr _ _ (fun j => us n j) (by rw [Addr.add_block]; exact hok) (fun j c hj => ?_) (fun j c hj => hdd n j c (cellAt_of hes hj))
                rw [Addr.add_add]; exact hcl n j c (cellAt_of hes hj)
        · cases he
      · cases he
    · cases he
  · -- an array's address
    rename_i m e x' i' hu hx hi
    obtain ⟨s, hs, rfl⟩ := Option.map_eq_some_iff.1 hc
    have hrx := hE x x' hx
    have hri := hE i i' hi
    simp only [evalOp] at he
    have hrun : ∀ (a : Addr) (n : Nat) (k : IntKind), n < m → (Instr.indexAt t (.pointer (some a)) (.int k n)).run P w = .ok (.pointer (some (a.add (n * s)))) w := fun a n k hn => by
      have h1 : (0 : Int) ≤ n ∧ (n : Int) < m := by omega
      simp [Instr.indexAt, asIntOf, run_underlying' hu, run_sizeOf_sz hs, h1, hn, Instr.sureAddr]
    split at he
    · rename_i b sz j o n hp hn
      obtain ⟨k, hk⟩ := hri.nat_inv hn
      split at he
      · rename_i hlt
        simp only [Option.some.injEq, Prod.mk.injEq] at he
        obtain ⟨rfl, rfl⟩ := he
        rw [hp] at hrx
        generalize hux : ev x = ux at hrx
        cases hrx with
        | ptr _ _ _ _ z hr =>
          refine .same (u := .pointer (some ((⟨z, j * sz + o, none⟩ : Addr).add (n * s)))) ?_ hI ?_
          · refine RunsTo.value (s := Instr.indexAt t (ev x) (ev i)) (fun oper h => by unfold execOp; rw [h]) ?_
            rw [hux, hk]; exact hrun _ _ _ hlt
          · rw [Addr.add_plain, Nat.add_assoc]; exact .ptr _ _ _ _ _ hr
      · cases he
    · rename_i cs n hp hn
      obtain ⟨k, hk⟩ := hri.nat_inv hn
      split at he
      · rename_i hlt
        simp only [Option.some.injEq, Prod.mk.injEq] at he
        obtain ⟨rfl, rfl⟩ := he
        rw [hp] at hrx
        generalize hux : ev x = ux at hrx
        cases hrx with
        | fptr _ a us hok hcl hd =>
          refine .same (u := .pointer (some (a.add (n * s)))) ?_ hI ?_
          · refine RunsTo.value (s := Instr.indexAt t (ev x) (ev i)) (fun oper h => by unfold execOp; rw [h]) ?_
            rw [hux, hk]; exact hrun _ _ _ hlt
          · refine .fptr _ _ (fun j => us (n * s + j)) (by rw [Addr.add_block]; exact hok) (fun j c hj => ?_) (fun j c hj => hd _ c (by simpa [List.getElem?_drop] using hj))
            rw [Addr.add_add]; exact hcl _ c (by simpa [List.getElem?_drop] using hj)
      · cases he
    · cases he
  · cases hc

theorem snd_index {t : TypeId} {x i : Operand} {vo : VOp} (hc : compOp P (.index t x i) = some vo) (hE : Reps w ok ρ E ev) (hI : Inv base w0 w ok ρ S H)
    (he : evalOp vo (X.ev E) H = some (v, H')) : OpOk P base w0 w ok ρ S H (wtouchOp vo (X.ev E)) ev (.index t x i) v H' := by
  simp only [compOp] at hc
  split at hc
  · rename_i m e x' i' hu hx hi
    split at hc
    · rename_i s g hs hg
      obtain rfl := Option.some.inj hc
      have hrx := hE x x' hx
      have hri := hE i i' hi
      simp only [evalOp] at he
      split at he
      · rename_i cs n hp hn
        obtain ⟨k, hk⟩ := hri.nat_inv hn
        split at he
        · rename_i hlt
          rw [hp] at hrx
          generalize hux : ev x = ux at hrx
          cases hrx with
          | agg _ us hl h =>
            have : (if g then (if n * s + s ≤ cs.length then some (V.agg ((cs.drop (n * s)).take s)) else none) else cs[n * s]?) = some v ∧ H' = H := by
              cases g with
              | false => simp only [Bool.false_eq_true, if_false] at he ⊢; obtain ⟨z, hz, e⟩ := Option.map_eq_some_iff.1 he; simp at e; exact ⟨by rw [hz, e.1], e.2.symm⟩
              | true => simp only [if_true] at he ⊢; split at he <;> simp_all
            obtain ⟨he', rfl⟩ := this
            obtain ⟨u, hr, hv⟩ := run_part_of (P := P) hs hg hl h he'
            refine .same (u := u) ?_ hI hv
            refine RunsTo.value (s := Instr.index t (ev x) (ev i)) (fun oper h => by unfold execOp; rw [h]) ?_
            rw [hux, hk]
            have h1 : (0 : Int) ≤ n ∧ (n : Int) < m := by omega
            simp [Instr.index, asIntOf, run_underlying' hu, h1, hlt, run_sizeOf_sz hs, hr]
        · cases he
      · cases he
    · cases hc
  · rename_i x' i' hu hx hi
    obtain rfl := Option.some.inj hc
    have hrx := hE x x' hx
    have hri := hE i i' hi
    simp only [evalOp] at he
    split at he
    · rename_i str n hp hn
      obtain ⟨k, hk⟩ := hri.nat_inv hn
      obtain ⟨b, hb, e⟩ := Option.map_eq_some_iff.1 he
      simp only [Prod.mk.injEq] at e
      obtain ⟨rfl, rfl⟩ := e
      rw [hp] at hrx
      have hux := hrx.lit_inv
      refine .same (u := .int .u8 b.toNat) ?_ hI (.lit rfl)
      refine RunsTo.value (s := Instr.index t (ev x) (ev i)) (fun oper h => by unfold execOp; rw [h]) ?_
      rw [hux, hk]
      have h1 : (0 : Int) ≤ n := by omega
      simp [Instr.index, asIntOf, run_underlying' hu, h1, hb]
    · cases he
  · cases hc

theorem snd_un {op : UnOp} {t : TypeId} {x : Operand} {vo : VOp} (hc : compOp P (.unOp op t x) = some vo) (hE : Reps w ok ρ E ev) (hI : Inv base w0 w ok ρ S H)
    (he : evalOp vo (X.ev E) H = some (v, H')) : OpOk P base w0 w ok ρ S H (wtouchOp vo (X.ev E)) ev (.unOp op t x) v H' := by
  simp only [compOp] at hc
  obtain ⟨y, hy, rfl⟩ := Option.map_eq_some_iff.1 hc
  simp only [evalOp] at he
  have hr := hE x y hy
  split at he
  · rename_i a hp
    obtain ⟨z, hz, e⟩ := Option.map_eq_some_iff.1 he
    simp only [Prod.mk.injEq] at e
    obtain ⟨rfl, rfl⟩ := e
    rw [hp] at hr
    have hu := hr.lit_inv
    have hone : z.oneCell' = true := by
      unfold unV at hz
      split at hz <;> first
        | cases hz; done
        | (split at hz <;> first | (obtain rfl := Option.some.inj hz; rfl) | (cases hz; done))
    refine .same (u := z) ?_ hI (.lit hone)
    refine RunsTo.value (s := Op.unary op (ev x)) (fun oper h => by unfold execOp; rw [h]) ?_
    rw [hu]
    unfold unV at hz
    split at hz
    · split at hz
      · obtain rfl := Option.some.inj hz; simp [Op.unary, Op.intArith]
      · obtain rfl := Option.some.inj hz; simp [Op.unary, Op.intBits]
      · cases hz
    · split at hz
      · obtain rfl := Option.some.inj hz; simp [Op.unary]
      · cases hz
    · cases hz
  · cases he

theorem snd_conv {s t : TypeId} {x : Operand} {vo : VOp} (hc : compOp P (.convert s t x) = some vo) (hE : Reps w ok ρ E ev) (hI : Inv base w0 w ok ρ S H)
    (he : evalOp vo (X.ev E) H = some (v, H')) : OpOk P base w0 w ok ρ S H (wtouchOp vo (X.ev E)) ev (.convert s t x) v H' := by
  simp only [compOp] at hc
  split at hc
  · rename_i k' k hs ht
    obtain ⟨y, hy, rfl⟩ := Option.map_eq_some_iff.1 hc
    simp only [evalOp] at he
    have hr := hE x y hy
    split at he
    · rename_i kk n hp
      simp only [Option.some.injEq, Prod.mk.injEq] at he
      obtain ⟨rfl, rfl⟩ := he
      rw [hp] at hr
      have hu := hr.lit_inv
      refine .same (u := .int k (k.wrap n)) ?_ hI (.lit rfl)
      refine RunsTo.value (s := convert s t (ev x)) (fun oper h => by unfold execOp; rw [h]) ?_
      rw [hu]
      simp [convert, run_underlying' hs, run_underlying' ht, Conv.intToInt]
    · cases he
  · cases hc

theorem snd_ext {x : Operand} {i : Nat} {vo : VOp} (hc : compOp P (.extract x i) = some vo) (hE : Reps w ok ρ E ev) (hI : Inv base w0 w ok ρ S H)
    (he : evalOp vo (X.ev E) H = some (v, H')) : OpOk P base w0 w ok ρ S H (wtouchOp vo (X.ev E)) ev (.extract x i) v H' := by
  simp only [compOp] at hc
  obtain ⟨y, hy, rfl⟩ := Option.map_eq_some_iff.1 hc
  simp only [evalOp] at he
  have hr := hE x y hy
  split at he
  · rename_i cs hp
    obtain ⟨z, hz, e⟩ := Option.map_eq_some_iff.1 he
    simp only [Prod.mk.injEq] at e
    obtain ⟨rfl, rfl⟩ := e
    rw [hp] at hr
    generalize hux : ev x = ux at hr
    cases hr with
    | tup _ us hl h =>
      have hi := (List.getElem?_eq_some_iff.1 hz).1
      have hu : us[i]? = some (us[i]'(by omega)) := Array.getElem?_eq_getElem (by omega)
      refine .same (u := us[i]'(by omega)) ?_ hI (h i z _ hz hu)
      refine RunsTo.value (s := Instr.extract (ev x) i) (fun oper h => by unfold execOp; rw [h]) ?_
      rw [hux]
      simp [Instr.extract, hu]
  · cases he

theorem snd_nchk {x : Operand} {vo : VOp} (hc : compOp P (.nilCheck x) = some vo) (hE : Reps w ok ρ E ev) (hI : Inv base w0 w ok ρ S H)
    (he : evalOp vo (X.ev E) H = some (v, H')) : OpOk P base w0 w ok ρ S H (wtouchOp vo (X.ev E)) ev (.nilCheck x) v H' := by
  simp only [compOp] at hc
  obtain ⟨y, hy, rfl⟩ := Option.map_eq_some_iff.1 hc
  simp only [evalOp] at he
  have hr := hE x y hy
  split at he
  · rename_i b sz i o hp
    simp only [Option.some.injEq, Prod.mk.injEq] at he
    obtain ⟨rfl, rfl⟩ := he
    refine .same (u := ev x) ?_ hI (by rw [← hp]; exact hr)
    rw [hp] at hr
    generalize hux : ev x = ux at hr
    cases hr with
    | ptr _ _ _ _ z hz => intro oper h; left; unfold execOp; rw [h]; simp only [hux]; rfl
  · rename_i cs hp
    simp only [Option.some.injEq, Prod.mk.injEq] at he
    obtain ⟨rfl, rfl⟩ := he
    refine .same (u := ev x) ?_ hI (by rw [← hp]; exact hr)
    rw [hp] at hr
    generalize hux : ev x = ux at hr
    cases hr with
    | fptr _ a us h1 h2 h3 => intro oper h; left; unfold execOp; rw [h]; simp only [hux]; rfl
  · rename_i f cs hp
    simp only [Option.some.injEq, Prod.mk.injEq] at he
    obtain ⟨rfl, rfl⟩ := he
    refine .same (u := ev x) ?_ hI (by rw [← hp]; exact hr)
    rw [hp] at hr
    generalize hux : ev x = ux at hr
    cases hr with
    | clo _ _ us hl hh => intro oper h; left; unfold execOp; rw [h]; simp only [hux]; rfl
  · cases he

theorem reps_list {l : List Operand} {ys : List X} (h : compOps l = some ys) (hE : Reps w ok ρ E ev) : l.length = ys.length ∧ ∀ (j : Nat) y o, ys[j]? = some y → l[j]? = some o → VRep w ok ρ (y.ev E) (ev o) := by
  obtain ⟨h1, h2⟩ := mapO_some h
  refine ⟨h1, fun j y o hy ho => ?_⟩
  obtain ⟨y', hy', hf⟩ := h2 j o ho
  rw [hy] at hy'; obtain rfl := Option.some.inj hy'
  exact hE o y hf

theorem snd_mkf {f : Nat} {first caps : Array Operand} {vo : VOp} (hc : compOp P (.makeFunc (.func f) first caps) = some vo) (hE : Reps w ok ρ E ev) (hI : Inv base w0 w ok ρ S H)
    (he : evalOp vo (X.ev E) H = some (v, H')) : OpOk P base w0 w ok ρ S H (wtouchOp vo (X.ev E)) ev (.makeFunc (.func f) first caps) v H' := by
  simp only [compOp] at hc
  split at hc
  · rename_i hf
    obtain ⟨ys, hy, rfl⟩ := Option.map_eq_some_iff.1 hc
    simp only [evalOp] at he
    split at he
    · simp only [Option.some.injEq, Prod.mk.injEq] at he
      obtain ⟨rfl, rfl⟩ := he
      obtain ⟨h1, h2⟩ := reps_list hy hE
      have h0 : first = #[] := by simpa using hf
      subst h0
      refine .same (u := .func (.func f) #[] (caps.map ev)) ?_ hI (.clo _ _ _ (by simpa using h1.symm) fun j x u hx hu => ?_)
      · refine RunsTo.value (s := Instr.makeFunc (.func f) (#[].map ev) (caps.map ev)) (fun oper h => by unfold execOp; rw [h]) ?_
        simp [Instr.makeFunc]
      · simp only [List.getElem?_map, Option.map_eq_some_iff] at hx
        obtain ⟨y, hy', rfl⟩ := hx
        simp only [Array.getElem?_map, Option.map_eq_some_iff] at hu
        obtain ⟨o, ho, rfl⟩ := hu
        exact h2 j y o hy' (by simpa using ho)
    · cases he
  · cases hc
end
end Go.VM
/- Each operation that the evaluator carries out, the model carries out alike (fourth part): writing cells, building values. -/
namespace Go.VM
open Go.RowKit
set_option linter.unusedVariables false
set_option linter.unusedSimpArgs false
set_option linter.unusedSectionVars false

theorem getElem?_splice {α : Type} (l vs : List α) (p n : Nat) (h : p + vs.length ≤ l.length) : (l.take p ++ vs ++ l.drop (p + vs.length))[n]? = if p ≤ n ∧ n < p + vs.length then vs[n - p]? else l[n]? := by
  have ht : (l.take p).length = p := by simp; omega
  by_cases h1 : n < p
  · rw [if_neg (by omega), List.append_assoc, List.getElem?_append_left (by omega), List.getElem?_take, if_pos h1]
  · by_cases h2 : n < p + vs.length
    · rw [if_pos ⟨by omega, h2⟩, List.append_assoc, List.getElem?_append_right (by omega), List.getElem?_append_left (by omega), ht]
    · rw [if_neg (by omega), List.getElem?_append_right (by simp; omega), List.getElem?_drop]
      congr 1; simp; omega

theorem idx_lt {i i' j sz : Nat} (h : i' < i) (hj : j < sz) : i' * sz + j < i * sz := by
  have h1 : (i' + 1) * sz ≤ i * sz := Nat.mul_le_mul_right sz h
  rw [Nat.add_mul, Nat.one_mul] at h1
  omega
theorem idx_le {i n sz : Nat} (h : i < n) : i * sz + sz ≤ n * sz := by
  have h1 : (i + 1) * sz ≤ n * sz := Nat.mul_le_mul_right sz h
  rw [Nat.add_mul, Nat.one_mul] at h1
  exact h1
theorem cellAt_lt {α : Type} {es : List (List α)} {sz i j : Nat} {x : α} (hl : ∀ e ∈ es, e.length = sz) (h : cellAt es i j = some x) : i < es.length ∧ j < sz := by
  obtain ⟨e, he, hj⟩ := cellAt_some h
  refine ⟨(List.getElem?_eq_some_iff.1 he).1, ?_⟩
  rw [← hl e (List.mem_of_getElem? he)]
  exact (List.getElem?_eq_some_iff.1 hj).1

section
variable {P : Program} {base : Nat} {w0 w : World} {ok : Nat → Prop} {ρ : Nat → Option Nat} {S : Nat → Prop} {H H' : Heap} {E : Env} {ev : Operand → Value} {v : V}

/-- cells written into an own block -/
theorem OpRes.cells {T : List Nat} (hI : Inv base w0 w ok ρ S H) {b x : Nat} {k : Blk} {es' : List (List V)} (hsb : S b) (hk : H.blk b = some k) (hx : ρ b = some x) (hT : b ∈ T) (hown : OwnAt w ok ρ x k) (cur : Array Value)
    (hcur : w.heap[x]? = some (.cells cur k.ty (0, 0))) (p : Nat) (vs : List Value) (hfit : p + vs.length ≤ cur.size)
    (hlen : ∀ e ∈ es', e.length = k.sz) (hn : es'.length * k.sz ≤ cur.size)
    (hes : ∀ i j c, cellAt es' i j = some c → (p ≤ i * k.sz + j ∧ i * k.sz + j < p + vs.length ∧ ∃ u, vs[i * k.sz + j - p]? = some u ∧ VRep w ok ρ c u ∧ u.oneCell' = true) ∨
      (¬ (p ≤ i * k.sz + j ∧ i * k.sz + j < p + vs.length) ∧ cellAt k.es i j = some c))
    {v : V} {u : Value} (hv : VRep w ok ρ v u) :
    OpRes base w0 w ok ρ S H T v (H.set b (some { k with es := es' })) u (w.setRow x (cur.toList.take p ++ vs ++ cur.toList.drop (p + vs.length)).toArray) ok ρ := by
  have hlk : (cur.toList.take p ++ vs ++ cur.toList.drop (p + vs.length)).length = cur.size := by
    simp only [List.length_append, List.length_take, List.length_drop, Array.length_toList]; omega
  have hrep : ∀ i j c, cellAt es' i j = some c → ∃ u, (cur.toList.take p ++ vs ++ cur.toList.drop (p + vs.length)).toArray[i * k.sz + j]? = some u ∧ VRep w ok ρ c u ∧ u.oneCell' = true := by
    intro i j c hc
    rw [List.getElem?_toArray, getElem?_splice _ _ _ _ (by simpa using hfit)]
    rcases hes i j c hc with ⟨h1, h2, u, hu, hr, ho⟩ | ⟨h1, h2⟩
    · rw [if_pos ⟨h1, h2⟩]; exact ⟨u, hu, hr, ho⟩
    · rw [if_neg h1]
      obtain ⟨cs, hcs, _, h3⟩ := hown.cells
      rw [hcur] at hcs
      simp only [Option.some.injEq, Obj.cells.injEq] at hcs
      obtain ⟨rfl, _⟩ := hcs
      obtain ⟨u, hu, hr, ho⟩ := h3 i j c h2
      exact ⟨u, by simpa using hu, hr, ho⟩
  have h := hI.write (k' := { k with es := es' }) hsb hk hx cur _ hcur rfl (by simpa using hlk) hown.sz hlen (by simp only [List.size_toArray]; rw [hlk]; exact hn) hrep
  exact OpRes.write hI (k' := { k with es := es' }) hsb hk hx hT cur _ hcur rfl (by simpa using hlk) hown.sz hlen (by simp only [List.size_toArray]; rw [hlk]; exact hn) hrep (hv.ext h.2)

theorem snd_store {t : TypeId} {a x : Operand} {vo : VOp} (hc : compOp P (.store t a x) = some vo) (hE : Reps w ok ρ E ev) (hI : Inv base w0 w ok ρ S H)
    (he : evalOp vo (X.ev E) H = some (v, H')) (hS : ∀ b ∈ touchOp vo (X.ev E), S b) : OpOk P base w0 w ok ρ S H (wtouchOp vo (X.ev E)) ev (.store t a x) v H' := by
  simp only [compOp] at hc
  split at hc
  · rename_i s a' x' hs ha hx
    obtain rfl := Option.some.inj hc
    simp only [evalOp] at he
    obtain ⟨H2, hst, e⟩ := Option.map_eq_some_iff.1 he
    simp only [Prod.mk.injEq] at e
    obtain ⟨rfl, rfl⟩ := e
    have hra := hE a a' ha
    have hrx := hE x x' hx
    simp only [touchOp, wtouchOp] at hS ⊢
    generalize X.ev E a' = va at hst hra hS ⊢
    unfold storeV at hst
    split at hst
    · rename_i b bsz i o
      split at hst
      · rename_i k hk
        split at hst
        · rename_i hsz
          subst hsz
          split at hst
          · rename_i e hes
            split at hst
            · rename_i hcond
              obtain ⟨hlen, hle, hall⟩ := hcond
              obtain rfl := Option.some.inj hst
              generalize hua : ev a = ua at hra
              cases hra with
              | ptr _ _ _ _ z hr =>
                have hown := hI.own b k z (hS b (by simp [touchV])) hk hr
                obtain ⟨cur, hcur, hcs, hcells⟩ := hown.cells
                obtain ⟨h1, h2, h3⟩ := hrx.cells hall
                have hi := (List.getElem?_eq_some_iff.1 hes).1
                have helen : e.length = k.sz := hown.len e (List.mem_of_getElem? hes)
                have hvl : (ev x).cells.toList.length = s := by simp; omega
                have hbound : i * k.sz + k.sz ≤ k.es.length * k.sz := idx_le hi
                have hfit : i * k.sz + o + (ev x).cells.toList.length ≤ cur.size := by rw [hvl]; omega
                refine ⟨undef, _, ok, ρ, ?_, OpRes.cells hI (hS b (by simp [touchV])) hk hr (by simp [touchV]) hown cur hcur (i * k.sz + o) (ev x).cells.toList hfit ?_ ?_ ?_ (.undef _)⟩
                · refine RunsTo.unit (s := Instr.storeAt t (ev a) (ev x)) (fun oper h => by unfold execOp; rw [h]) ?_
                  rw [hua]
                  have hst := run_storeCells_at P z (i * k.sz + o) k.ty (ev x).cells.toList 0 cur w hcur (by simpa using hfit) (fun v hv => h3 v (by simpa using hv))
                  simp only [Nat.add_zero] at hst
                  have hne : (ev x).cells.size = s := by omega
                  simp [Instr.storeAt, Instr.sureAddr, storeVar, run_sizeOf_sz hs, hne, hst]
                · intro e' he'
                  rcases List.mem_or_eq_of_mem_set he' with h | h
                  · exact hown.len e' h
                  · subst h; simp; omega
                · simpa using hcs
                · intro i' j c hc'
                  obtain ⟨e', he', hj⟩ := cellAt_some hc'
                  rw [List.getElem?_set] at he'
                  by_cases hii : i = i'
                  · subst hii
                    rw [if_pos rfl, if_pos hi] at he'
                    obtain rfl := Option.some.inj he'
                    rw [← hlen, getElem?_splice _ _ _ _ (by omega)] at hj
                    split at hj
                    · rename_i hin
                      left
                      refine ⟨by omega, by omega, ?_⟩
                      have hlt : j - o < (ev x).cells.size := by omega
                      have hu : (ev x).cells[j - o]? = some ((ev x).cells[j - o]'hlt) := Array.getElem?_eq_getElem hlt
                      refine ⟨_, ?_, h2 (j - o) c _ hj hu, h3 _ (Array.getElem_mem _)⟩
                      rw [show i * k.sz + j - (i * k.sz + o) = j - o from by omega]
                      simp
                    · rename_i hin
                      right
                      exact ⟨by omega, cellAt_of hes hj⟩
                  · rw [if_neg hii] at he'
                    right
                    have hcell := cellAt_of he' hj
                    obtain ⟨hi', hj'⟩ := cellAt_lt hown.len hcell
                    refine ⟨?_, hcell⟩
                    rcases Nat.lt_or_gt_of_ne hii with h | h
                    · have := idx_lt (sz := k.sz) (j := o + s - 1) h (by omega)
                      omega
                    · have := idx_lt (sz := k.sz) (j := j) h hj'
                      omega
            · cases hst
          · cases hst
        · cases hst
      · cases hst
    · cases hst
  · cases hc

theorem snd_bin {op : BinOp} {t u : TypeId} {x y : Operand} {vo : VOp} (x' y' : X) (hvo : vo = .bin op x' y') (hx : compX x = some x') (hy : compX y = some y') (hE : Reps w ok ρ E ev) (hI : Inv base w0 w ok ρ S H)
    (he : evalOp vo (X.ev E) H = some (v, H')) : OpOk P base w0 w ok ρ S H (wtouchOp vo (X.ev E)) ev (.binOp op t x y u) v H' := by
  subst hvo
  simp only [evalOp] at he
  have hrx := hE x x' hx
  have hry := hE y y' hy
  split at he
  · rename_i a b ha hb
    obtain ⟨z, hz, e⟩ := Option.map_eq_some_iff.1 he
    simp only [Prod.mk.injEq] at e
    obtain ⟨rfl, rfl⟩ := e
    rw [ha] at hrx
    rw [hb] at hry
    have hux := hrx.lit_inv
    have huy := hry.lit_inv
    have hz' := hz
    refine .same (u := z) ?_ hI (.lit ?_)
    · refine RunsTo.value (s := do eqGuard op t x y (ev x) (ev y); binOp op t (ev x) (ev y)) (fun oper h => by unfold execOp; rw [h]) ?_
      rw [hux, huy]
      clear hz'
      unfold binV at hz
      split at hz
      · rw [eqGuard_at_int]
        split at hz <;> first
          | (split at hz
             · obtain rfl := Option.some.inj hz
               rename_i hk
               first
                 | (subst hk; simp [binOp, Op.intArith, Op.intBits, Op.intCmp]; done)
                 | (obtain ⟨rfl, hb0⟩ := hk; simp [binOp, Op.intDiv, hb0]; done)
             · cases hz)
          | (split at hz
             · cases hz
             · obtain rfl := Option.some.inj hz
               rename_i hk
               simp [binOp, Op.shift, hk]; done)
      · rw [eqGuard_at_string]
        split at hz
        all_goals first
          | (obtain rfl := Option.some.inj hz; simp [binOp, Op.stringOp]; done)
          | (split at hz
             · obtain rfl := Option.some.inj hz
               rename_i hk
               simp [binOp, Op.stringOp]; omega
             · cases hz)
          | (cases hz; done)
      · cases hz
    · unfold binV at hz'
      split at hz' <;> (try split at hz') <;> (try split at hz') <;> first
        | (obtain rfl := Option.some.inj hz'; rfl)
        | (cases hz'; done)
  · cases he

theorem snd_eqb {op : BinOp} {t u : TypeId} {x y : Operand} {vo : VOp} (neq : Bool) (x' y' : X) (ht : P.underlying t = some .bool) (hop : op = if neq then .neq else .eql) (hvo : vo = .eqb neq x' y') (hx : compX x = some x') (hy : compX y = some y') (hE : Reps w ok ρ E ev) (hI : Inv base w0 w ok ρ S H)
    (he : evalOp vo (X.ev E) H = some (v, H')) : OpOk P base w0 w ok ρ S H (wtouchOp vo (X.ev E)) ev (.binOp op t x y u) v H' := by
  subst hvo
  simp only [evalOp] at he
  have hrx := hE x x' hx
  have hry := hE y y' hy
  split at he
  · rename_i a b ha hb
    simp only [Option.some.injEq, Prod.mk.injEq] at he
    obtain ⟨rfl, rfl⟩ := he
    rw [ha] at hrx
    rw [hb] at hry
    have hux := hrx.lit_inv
    have huy := hry.lit_inv
    refine .same (u := .bool (if neq then !(a == b) else a == b)) ?_ hI (.lit rfl)
    refine RunsTo.value (s := do eqGuard op t x y (ev x) (ev y); binOp op t (ev x) (ev y)) (fun oper h => by unfold execOp; rw [h]) ?_
    rw [hux, huy, eqGuard_at_bool, hop]
    have h : (Op.equal t (.bool a) (.bool b)).run P w = .ok (a == b) w := run_equalIn_bool' w 9999 t a b ht
    cases neq <;> simp [binOp, h]
  · cases he
end
end Go.VM
/- Each operation that the evaluator carries out, the model carries out alike (fifth part): structs, arrays and slices built. -/
namespace Go.VM
open Go.RowKit
set_option linter.unusedVariables false
set_option linter.unusedSimpArgs false
set_option linter.unusedSectionVars false

theorem foldSet (off : Nat) : ∀ (l : List Value) (s : Nat) (cells : Array Value), ((l.zipIdx s).foldl (fun cs (x : Value × Nat) => cs.setIfInBounds (off + x.2) x.1) cells).size = cells.size ∧
    ∀ n, n < cells.size → ((l.zipIdx s).foldl (fun cs (x : Value × Nat) => cs.setIfInBounds (off + x.2) x.1) cells)[n]? = if off + s ≤ n ∧ n < off + s + l.length then l[n - (off + s)]? else cells[n]?
  | [], s, cells => ⟨rfl, fun n hn => by
      rw [if_neg (by simp only [List.length_nil]; omega)]; rfl⟩
  | c :: l, s, cells => by
    obtain ⟨h1, h2⟩ := foldSet off l (s + 1) (cells.setIfInBounds (off + s) c)
    simp only [List.zipIdx_cons, List.foldl_cons]
    refine ⟨by rw [h1]; simp, fun n hn => ?_⟩
    rw [h2 n (by simpa using hn)]
    by_cases hn' : n = off + s
    · subst hn'
      rw [if_neg (by omega), if_pos (by simp only [List.length_cons]; omega)]
      simp [hn]
    · by_cases hin : off + (s + 1) ≤ n ∧ n < off + (s + 1) + l.length
      · rw [if_pos hin, if_pos (by simp only [List.length_cons]; omega)]
        rw [show n - (off + s) = (n - (off + (s + 1))) + 1 from by omega, List.getElem?_cons_succ]
      · rw [if_neg hin, if_neg (by simp only [List.length_cons]; omega), Array.getElem?_setIfInBounds_ne (by omega)]

/-- cells of the evaluator and of the model that belong together -/
def RepsC (w : World) (ok : Nat → Prop) (ρ : Nat → Option Nat) (cs : List V) (us : Array Value) : Prop :=
  cs.length = us.size ∧ ∀ (j : Nat) v u, cs[j]? = some v → us[j]? = some u → VRep w ok ρ v u ∧ u.oneCell' = true

section
variable {P : Program} {base : Nat} {w0 w : World} {ok : Nat → Prop} {ρ : Nat → Option Nat} {S : Nat → Prop} {H H' : Heap} {E : Env} {ev : Operand → Value} {v : V}

theorem RepsC.const {u : Value} {xs : List V} (h : constCells u = some xs) : RepsC w ok ρ xs u.cells := by
  obtain ⟨h1, h2⟩ := constCells_rep (w := w) (ok := ok) (ρ := ρ) h
  refine ⟨h1.symm, fun j v u' hv hu => ?_⟩
  obtain ⟨y, hy, hr, _, ho⟩ := h2 j v hv
  rw [hu] at hy; obtain rfl := Option.some.inj hy
  exact ⟨hr, ho⟩

theorem RepsC.fill {cs : List V} {us : Array Value} (h : RepsC w ok ρ cs us) {off sz : Nat} {v : V} {u : Value} (hv : VRep w ok ρ v u) (h1 : v.cells.length = sz) (h2 : off + sz ≤ cs.length) (h3 : v.cells.all V.isCell = true) :
    u.cells.size = sz ∧ off + u.cells.size ≤ us.size ∧
    RepsC w ok ρ (cs.take off ++ v.cells ++ cs.drop (off + sz)) (u.cells.zipIdx.foldl (fun cs (x : Value × Nat) => cs.setIfInBounds (off + x.2) x.1) us) := by
  obtain ⟨c1, c2, c3⟩ := hv.cells h3
  have hl := h.1
  refine ⟨by omega, by omega, ?_⟩
  rw [← Array.foldl_toList]
  rw [show (u.cells.zipIdx).toList = u.cells.toList.zipIdx 0 from by simp]
  obtain ⟨f1, f2⟩ := foldSet off u.cells.toList 0 us
  refine ⟨by rw [f1]; simp; omega, fun j x y hx hy => ?_⟩
  have hj : j < us.size := by
    have := (Array.getElem?_eq_some_iff.1 hy).1; rw [f1] at this; exact this
  rw [f2 j hj] at hy
  rw [← h1, getElem?_splice _ _ _ _ (by omega)] at hx
  by_cases hin : off ≤ j ∧ j < off + v.cells.length
  · rw [if_pos hin] at hx
    rw [if_pos (by simp; omega)] at hy
    simp only [Nat.add_zero, Array.getElem?_toList] at hy
    exact ⟨c2 _ x y hx hy, c3 y (Array.mem_of_getElem? hy)⟩
  · rw [if_neg hin] at hx
    rw [if_neg (by simp; omega)] at hy
    exact h.2 j x y hx hy

theorem fill_reps (place : Nat → Option (Nat × Nat)) : ∀ (l : List (Nat × Nat × Nat × V × Value)) (cs : List V) (us : Array Value) (r : List V), RepsC w ok ρ cs us →
    (∀ p ∈ l, place p.1 = some (p.2.1, p.2.2.1) ∧ VRep w ok ρ p.2.2.2.1 p.2.2.2.2) → fillV cs (l.map fun p => (p.2.1, p.2.2.1, p.2.2.2.1)) = some r →
    ∃ us', Instr.fill place us (l.map fun p => (p.1, p.2.2.2.2)) = some us' ∧ RepsC w ok ρ r us'
  | [], cs, us, r, h, _, hf => by
    simp [fillV] at hf; subst hf; exact ⟨us, by simp [Instr.fill], h⟩
  | p :: l, cs, us, r, h, hp, hf => by
    simp only [List.map_cons, fillV] at hf
    split at hf
    · rename_i hc
      obtain ⟨hpl, hv⟩ := hp p (by simp)
      obtain ⟨e1, e2, e3⟩ := h.fill hv hc.1 hc.2.1 hc.2.2
      obtain ⟨us', h1, h2⟩ := fill_reps place l _ _ r e3 (fun q hq => hp q (by simp [hq])) hf
      refine ⟨us', ?_, h2⟩
      simp only [List.map_cons, Instr.fill, hpl]
      rw [if_neg (by rw [e1] at e2; rw [e1]; simp; omega)]
      exact h1
    · cases hf

theorem run_mapM_list {α β : Type} (f : α → Sem β) (g : α → β) : ∀ (l : List α), (∀ x ∈ l, (f x).run P w = .ok (g x) w) → (l.mapM f).run P w = .ok (l.map g) w
  | [], _ => by simp
  | x :: l, h => by
    simp only [List.mapM_cons, Sem.run_bind, h x (by simp), Result.andThen_ok, run_mapM_list f g l (fun y hy => h y (by simp [hy])), Sem.run_pure, List.map_cons]
theorem run_mapM_array {α β : Type} (f : α → Sem β) (g : α → β) (l : Array α) (h : ∀ x ∈ l.toList, (f x).run P w = .ok (g x) w) : (l.mapM f).run P w = .ok (l.map g) w := by
  rw [Array.mapM_eq_mapM_toList, Sem.run_map, run_mapM_list f g l.toList h, Result.andThen_ok]
  congr 1
  apply Array.ext'
  simp

/-- parts of a struct or an array, from the code's to both sides -/
theorem parts_reps {parts : List (Nat × Operand)} {ps : List (Nat × X)} (h : mapO (fun p : Nat × Operand => (compX p.2).map fun y => (p.1, y)) parts = some ps) (hE : Reps w ok ρ E ev) :
    ∃ l : List (Nat × V × Value), parts.map (fun p => (p.1, ev p.2)) = l.map (fun p => (p.1, p.2.2)) ∧ ps.map (fun p => (p.1, p.2.ev E)) = l.map (fun p => (p.1, p.2.1)) ∧ ∀ p ∈ l, VRep w ok ρ p.2.1 p.2.2 := by
  induction parts generalizing ps with
  | nil => simp [mapO] at h; subst h; exact ⟨[], by simp⟩
  | cons q parts ih =>
    simp only [mapO] at h
    split at h
    · rename_i y z hy hz
      obtain rfl := Option.some.inj h
      obtain ⟨x, hx, rfl⟩ := Option.map_eq_some_iff.1 hy
      obtain ⟨l, h1, h2, h3⟩ := ih hz
      refine ⟨(q.1, x.ev E, ev q.2) :: l, by simp [h1], by simp [h2], fun p hp => ?_⟩
      rcases List.mem_cons.1 hp with rfl | hp
      · exact hE q.2 x hx
      · exact h3 p hp
    · cases h

theorem fields_reps {fs : Array Field} : ∀ {parts : List (Nat × Operand)} {ps : List (Nat × Nat × X)}, compFields P fs parts = some ps → Reps w ok ρ E ev →
    ∃ l : List (Nat × Nat × Nat × V × Value), parts.map (fun p => (p.1, ev p.2)) = l.map (fun p => (p.1, p.2.2.2.2)) ∧ ps.map (fun p => (p.1, p.2.1, p.2.2.ev E)) = l.map (fun p => (p.2.1, p.2.2.1, p.2.2.2.1)) ∧
      ∀ p ∈ l, (∃ f, fs[p.1]? = some f ∧ f.offset = p.2.1 ∧ szOf P f.type = some p.2.2.1) ∧ VRep w ok ρ p.2.2.2.1 p.2.2.2.2
  | [], ps, h, _ => by simp [compFields] at h; subst h; exact ⟨[], by simp⟩
  | (i, x) :: parts, ps, h, hE => by
    simp only [compFields] at h
    split at h
    · rename_i f y z hf hy hz
      split at h
      · rename_i s hs
        obtain rfl := Option.some.inj h
        obtain ⟨l, h1, h2, h3⟩ := fields_reps hz hE
        refine ⟨(i, f.offset, s, y.ev E, ev x) :: l, by simp [h1], by simp [h2], fun p hp => ?_⟩
        rcases List.mem_cons.1 hp with rfl | hp
        · exact ⟨⟨f, hf, rfl, hs⟩, hE x y hy⟩
        · exact h3 p hp
      · cases h
    · cases h

theorem RepsC.agg {cs : List V} {us : Array Value} (h : RepsC w ok ρ cs us) : VRep w ok ρ (.agg cs) (.agg us) := .agg cs us h.1 fun j v u hv hu => (h.2 j v u hv hu).1

theorem snd_build {t : TypeId} {parts : Array (Nat × Operand)} {vo : VOp} (hc : compOp P (.build t parts) = some vo) (hE : Reps w ok ρ E ev) (hI : Inv base w0 w ok ρ S H)
    (he : evalOp vo (X.ev E) H = some (v, H')) : OpOk P base w0 w ok ρ S H (wtouchOp vo (X.ev E)) ev (.build t parts) v H' := by
  simp only [compOp] at hc
  split at hc
  · rename_i zs fs hz hu
    split at hc
    · rename_i hall
      obtain ⟨ps, hps, rfl⟩ := Option.map_eq_some_iff.1 hc
      obtain ⟨i, z, hi, hz', hcs⟩ := zeroOf_some hz
      simp only [evalOp] at he
      obtain ⟨r, hr, e⟩ := Option.map_eq_some_iff.1 he
      simp only [Prod.mk.injEq] at e
      obtain ⟨rfl, rfl⟩ := e
      obtain ⟨l, h1, h2, h3⟩ := fields_reps hps hE
      rw [h2] at hr
      have hplaces : ∀ x ∈ fs.toList, ((fun f : Field => (do pure (f.offset, ← sizeOf f.type) : Sem (Nat × Nat))) x).run P w = .ok ((fun f : Field => (f.offset, (szOf P f.type).getD 0)) x) w := fun f hf => by
        have := List.all_eq_true.1 hall f hf
        obtain ⟨s, hs⟩ := Option.isSome_iff_exists.1 this
        simp [run_sizeOf_sz hs, hs]
      have hpl := run_mapM_array (P := P) (w := w) _ _ fs hplaces
      obtain ⟨us', hf1, hf2⟩ := fill_reps (w := w) (ok := ok) (ρ := ρ) (fun j => (fs.map fun f : Field => (f.offset, (szOf P f.type).getD 0))[j]?) l zs z.cells r (.const hcs) (fun p hp => by
        obtain ⟨⟨f, hf, ho, hs⟩, hv⟩ := h3 p hp
        exact ⟨by simp [hf, ho, hs], hv⟩) hr
      refine .same (u := .agg us') ?_ hI hf2.agg
      refine RunsTo.value (s := Instr.build t (parts.map fun p => (p.1, ev p.2))) (fun oper h => by unfold execOp; rw [h]) ?_
      have hl : (parts.map fun p => (p.1, ev p.2)).toList = l.map fun p => (p.1, p.2.2.2.2) := by rw [← h1]; simp
      simp only [Instr.build, Sem.run_bind, run_zeroValue hi hz', Result.andThen_ok, run_underlying' hu, hpl, hl, hf1, Sem.run_pure]
    · cases hc
  · rename_i zs m e hz hu
    split at hc
    · rename_i s ps hs hps
      obtain rfl := Option.some.inj hc
      obtain ⟨i, z, hi, hz', hcs⟩ := zeroOf_some hz
      simp only [evalOp] at he
      obtain ⟨r, hr, e'⟩ := Option.map_eq_some_iff.1 he
      simp only [Prod.mk.injEq] at e'
      obtain ⟨rfl, rfl⟩ := e'
      obtain ⟨l, h1, h2, h3⟩ := parts_reps hps hE
      obtain ⟨us', hf1, hf2⟩ := fill_reps (w := w) (ok := ok) (ρ := ρ) (fun i => some (i * s, s)) (l.map fun p => (p.1, p.1 * s, s, p.2.1, p.2.2)) zs z.cells r (.const hcs) (fun p hp => by
        obtain ⟨q, hq, rfl⟩ := List.mem_map.1 hp
        exact ⟨rfl, h3 q hq⟩) (by
          rw [← hr]
          congr 1
          simp only [List.map_map]
          have : ps.map (fun p => (p.1 * s, s, p.2.ev E)) = (ps.map fun p => (p.1, p.2.ev E)).map fun p => (p.1 * s, s, p.2) := by simp
          rw [show (List.map ((fun p : Nat × Nat × X => (p.1, p.2.1, X.ev E p.2.2)) ∘ fun p : Nat × X => (p.1 * s, s, p.2)) ps) = ps.map (fun p => (p.1 * s, s, p.2.ev E)) from rfl, this, h2]
          simp)
      refine .same (u := .agg us') ?_ hI hf2.agg
      refine RunsTo.value (s := Instr.build t (parts.map fun p => (p.1, ev p.2))) (fun oper h => by unfold execOp; rw [h]) ?_
      have hl : (parts.map fun p => (p.1, ev p.2)).toList = (l.map fun p => (p.1, p.1 * s, s, p.2.1, p.2.2)).map fun p => (p.1, p.2.2.2.2) := by
        simp only [Array.toList_map, h1, List.map_map]; rfl
      simp only [Instr.build, Sem.run_bind, run_zeroValue hi hz', Result.andThen_ok, run_underlying' hu, run_sizeOf_sz hs, hl, hf1, Sem.run_pure]
    · cases hc
  · cases hc
end
end Go.VM
/- Each operation that the evaluator carries out, the model carries out alike (sixth part): slices made, cut, measured; least and greatest. -/
namespace Go.VM
open Go.RowKit
set_option linter.unusedVariables false
set_option linter.unusedSimpArgs false
set_option linter.unusedSectionVars false

theorem mod_of {i j sz : Nat} (hj : j < sz) : (i * sz + j) % sz = j := by
  rw [Nat.mul_comm, Nat.mul_add_mod, Nat.mod_eq_of_lt hj]
theorem madeCells_at {z : Array Value} {sz c i j : Nat} (hz : z.size = sz) (hi : i < c) (hj : j < sz) : (madeCells z (c * sz))[i * sz + j]? = z[j]? := by
  have h1 : i * sz + j < c * sz := idx_lt hi hj
  unfold madeCells
  simp only [Array.getElem?_map, Array.getElem?_range, h1, if_true, Option.map_some]
  rw [hz, mod_of hj, Array.getElem?_eq_getElem (by omega)]
  simp [hz, hj]

/-- elements of the evaluator's block and cells of the model's that belong together -/
structure RepsE (w : World) (ok : Nat → Prop) (ρ : Nat → Option Nat) (sz : Nat) (es : List (List V)) (us : Array Value) : Prop where
  len : ∀ e ∈ es, e.length = sz
  size : es.length * sz = us.size
  cells : ∀ i j v, cellAt es i j = some v → ∃ u, us[i * sz + j]? = some u ∧ VRep w ok ρ v u ∧ u.oneCell' = true

section
variable {P : Program} {base : Nat} {w0 w : World} {ok : Nat → Prop} {ρ : Nat → Option Nat} {S : Nat → Prop} {H H' : Heap} {E : Env} {ev : Operand → Value} {v : V}

theorem RepsE.made {u : Value} {zs : List V} {sz : Nat} (h : constCells u = some zs) (hl : zs.length = sz) (c : Nat) : RepsE w ok ρ sz (List.replicate c zs) (madeCells u.cells (c * sz)) := by
  obtain ⟨h1, h2⟩ := constCells_rep (w := w) (ok := ok) (ρ := ρ) h
  refine ⟨fun e he => by rw [List.eq_of_mem_replicate he, hl], by simp [size_madeCells], fun i j v hv => ?_⟩
  obtain ⟨e, he, hj⟩ := cellAt_some hv
  have hi : i < c := by have := (List.getElem?_eq_some_iff.1 he).1; simpa using this
  have : e = zs := by
    have := List.mem_of_getElem? he
    exact List.eq_of_mem_replicate this
  subst this
  have hj' := (List.getElem?_eq_some_iff.1 hj).1
  obtain ⟨y, hy, hr, _, ho⟩ := h2 j v hj
  exact ⟨y, by rw [madeCells_at (by omega) hi (by omega)]; exact hy, hr, ho⟩

theorem RepsE.fill {sz : Nat} {es : List (List V)} {us : Array Value} (h : RepsE w ok ρ sz es us) {i : Nat} {v : V} {u : Value} (hv : VRep w ok ρ v u) (h1 : v.cells.length = sz) (h2 : i < es.length) (h3 : v.cells.all V.isCell = true) :
    u.cells.size = sz ∧ i * sz + u.cells.size ≤ us.size ∧ RepsE w ok ρ sz (es.set i v.cells) (u.cells.zipIdx.foldl (fun cs (x : Value × Nat) => cs.setIfInBounds (i * sz + x.2) x.1) us) := by
  obtain ⟨c1, c2, c3⟩ := hv.cells h3
  have hb : i * sz + sz ≤ us.size := by rw [← h.size]; exact idx_le h2
  refine ⟨by omega, by omega, ?_⟩
  rw [← Array.foldl_toList, show (u.cells.zipIdx).toList = u.cells.toList.zipIdx 0 from by simp]
  obtain ⟨f1, f2⟩ := foldSet (i * sz) u.cells.toList 0 us
  refine ⟨fun e he => ?_, by rw [f1, List.length_set]; exact h.size, fun i' j x hx => ?_⟩
  · rcases List.mem_or_eq_of_mem_set he with he | he
    · exact h.len e he
    · rw [he, h1]
  · obtain ⟨e, he, hj⟩ := cellAt_some hx
    rw [List.getElem?_set] at he
    by_cases hii : i = i'
    · subst hii
      rw [if_pos rfl, if_pos h2] at he
      obtain rfl := Option.some.inj he
      have hj' := (List.getElem?_eq_some_iff.1 hj).1
      have hu : u.cells[j]? = some (u.cells[j]'(by omega)) := Array.getElem?_eq_getElem (by omega)
      refine ⟨_, ?_, c2 j x _ hj hu, c3 _ (Array.getElem_mem _)⟩
      rw [f2 _ (by omega), if_pos (by simp only [Array.length_toList]; omega)]
      simp only [Nat.add_zero, Nat.add_sub_cancel_left, Array.getElem?_toList]
      exact hu
    · rw [if_neg hii] at he
      have hcell := cellAt_of he hj
      obtain ⟨hi', hj'⟩ := cellAt_lt h.len hcell
      obtain ⟨y, hy, hr, ho⟩ := h.cells i' j x hcell
      refine ⟨y, ?_, hr, ho⟩
      rw [f2 _ (Array.getElem?_eq_some_iff.1 hy).1, if_neg ?_]
      · exact hy
      · simp only [Array.length_toList]
        rcases Nat.lt_or_gt_of_ne hii with hlt | hlt
        · have := idx_le (sz := sz) hlt; omega
        · have := idx_lt (sz := sz) (j := j) hlt hj'; omega

theorem fillE_reps {sz : Nat} : ∀ (l : List (Nat × V × Value)) (es : List (List V)) (us : Array Value) (r : List (List V)), RepsE w ok ρ sz es us → (∀ p ∈ l, VRep w ok ρ p.2.1 p.2.2) →
    fillE es sz (l.map fun p => (p.1, p.2.1)) = some r → ∃ us', Instr.fill (fun i => some (i * sz, sz)) us (l.map fun p => (p.1, p.2.2)) = some us' ∧ RepsE w ok ρ sz r us' ∧ r.length = es.length
  | [], es, us, r, h, _, hf => by simp [fillE] at hf; subst hf; exact ⟨us, by simp [Instr.fill], h, rfl⟩
  | p :: l, es, us, r, h, hp, hf => by
    simp only [List.map_cons, fillE] at hf
    split at hf
    · rename_i hc
      obtain ⟨e1, e2, e3⟩ := h.fill (hp p (by simp)) hc.1 hc.2.1 hc.2.2
      obtain ⟨us', h1, h2, h3⟩ := fillE_reps l _ _ r e3 (fun q hq => hp q (by simp [hq])) hf
      refine ⟨us', ?_, h2, by rw [h3, List.length_set]⟩
      simp only [List.map_cons, Instr.fill]
      rw [if_neg (by simp; omega)]
      exact h1
    · cases hf

/-- a slice of a new block -/
theorem OpRes.newSlice {T : List Nat} {cap sz ty : Nat} {es : List (List V)} {us : Array Value} (hI : Inv base w0 w ok ρ S H) (hN : S H.length) (wd : World) (hd : wd.heap = w.heap) (hb : Below base w0 wd) (hsz : 0 < sz) (hlen : ∀ e ∈ es, e.length = sz)
    (hcs : es.length * sz ≤ us.size) (hrep : ∀ i j v, cellAt es i j = some v → ∃ u, us[i * sz + j]? = some u ∧ VRep w ok ρ v u ∧ u.oneCell' = true)
    {len vcap : Nat} (h1 : len ≤ vcap) (h2 : vcap ≤ cap) (h3 : cap ≤ maxLen) (h4 : cap * sz ≤ us.size) :
    OpRes base w0 w ok ρ S H T (.ref H.length sz 0 len vcap) (newBlk H ty sz es) (.slice (some ⟨w.heap.size, 0, none⟩) len cap) (wd.alloc (.cells us ty)) ok (setRho ρ H.length w.heap.size) := by
  refine OpRes.new hI hN wd hd hb ⟨ty, sz, es⟩ us hsz hlen hcs hrep ?_
  have hnew : (wd.alloc (.cells us ty)).heap[w.heap.size]? = some (.cells us ty) := by
    have := heap_alloc_new wd (.cells us ty); rw [hd] at this; exact this
  have := VRep.ref (w := wd.alloc (.cells us ty)) (ok := ok) (ρ := setRho ρ H.length w.heap.size) H.length sz 0 len vcap w.heap.size cap (by unfold setRho; rw [if_pos rfl]) h1 h2 h3 hsz ⟨us, ty, (0, 0), hnew, by simpa using h4⟩
  simpa using this

theorem snd_bslice {t len : Nat} {parts : Array (Nat × Operand)} {vo : VOp} (hc : compOp P (.buildSlice t len parts) = some vo) (hE : Reps w ok ρ E ev) (hI : Inv base w0 w ok ρ S H)
    (he : evalOp vo (X.ev E) H = some (v, H')) (hN : ∀ b, H.length ≤ b → b < H'.length → S b) : OpOk P base w0 w ok ρ S H (wtouchOp vo (X.ev E)) ev (.buildSlice t len parts) v H' := by
  simp only [compOp] at hc
  split at hc
  · rename_i e hu
    split at hc
    · rename_i zs s ps hz hs hps
      obtain rfl := Option.some.inj hc
      obtain ⟨i, z, hi, hz', hcs⟩ := zeroOf_some hz
      simp only [evalOp] at he
      split at he
      · rename_i hcond
        obtain ⟨hs0, hzl, hmax, hmaxl⟩ := hcond
        obtain ⟨r, hr, e'⟩ := Option.map_eq_some_iff.1 he
        simp only [Prod.mk.injEq] at e'
        obtain ⟨rfl, rfl⟩ := e'
        obtain ⟨l, h1, h2, h3⟩ := parts_reps hps hE
        rw [h2] at hr
        have hbase := RepsE.made (w := w) (ok := ok) (ρ := ρ) hcs hzl len
        obtain ⟨us', f1, f2, f3⟩ := fillE_reps l _ _ r hbase h3 hr
        have hrl : r.length = len := by rw [f3]; simp
        refine ⟨_, _, ok, _, ?_, OpRes.newSlice (ty := e) (cap := len) (us := us') (len := len) (vcap := len) hI (hN _ (Nat.le_refl _) (by simp [newBlk])) w rfl hI.below hs0 f2.len (by rw [f2.size]; exact Nat.le_refl _) f2.cells (Nat.le_refl _) (Nat.le_refl _) (by unfold maxLen; omega) (by rw [← f2.size, hrl]; exact Nat.le_refl _)⟩
        refine RunsTo.value (s := Instr.buildSlice t len (parts.map fun p => (p.1, ev p.2))) (fun oper h => by unfold execOp; rw [h]) ?_
        have hne : ¬ (16777216 < len * s) := by omega
        by_cases h0 : len * s = 0
        · have hl0 : len = 0 := by
            rcases Nat.mul_eq_zero.1 h0 with h | h
            · exact h
            · omega
          subst hl0
          have hm : madeCells z.cells (0 * s) = #[] := by simp [madeCells, Array.range_zero']
          rw [hm] at f1
          simp [Instr.buildSlice, run_underlying' hu, run_sizeOf_sz hs, h1, f1, newRow, Array.range_zero']
        · have hm : madeCells z.cells (len * s) = (Array.range (len * s)).map (z.cells[· % z.cells.size]!) := rfl
          rw [hm] at f1
          simp [Instr.buildSlice, run_underlying' hu, run_sizeOf_sz hs, h1, f1, newRow, h0, hne, run_zeroValue hi hz']
      · cases he
    · cases hc
  · cases hc

theorem wrap_nat {c : Nat} (h : c ≤ 140737488355328) : IntKind.i64.wrap (c : Int) = c := by rw [IntKind.wrap_i64]; omega

theorem snd_mks {t : TypeId} {l c : Operand} {vo : VOp} (hc : compOp P (.makeSlice t l c) = some vo) (hE : Reps w ok ρ E ev) (hI : Inv base w0 w ok ρ S H)
    (he : evalOp vo (X.ev E) H = some (v, H')) (hN : ∀ b, H.length ≤ b → b < H'.length → S b) : OpOk P base w0 w ok ρ S H (wtouchOp vo (X.ev E)) ev (.makeSlice t l c) v H' := by
  simp only [compOp] at hc
  split at hc
  · rename_i e hu
    split at hc
    · rename_i zs i l' c' hz hi hl' hc'
      obtain rfl := Option.some.inj hc
      obtain ⟨i', z, hi', hz', hcs⟩ := zeroOf_some hz
      rw [hi] at hi'; obtain rfl := Option.some.inj hi'
      simp only [evalOp] at he
      split at he
      · rename_i ln cn hln hcn
        split at he
        · rename_i hcond
          obtain ⟨hle, hroom, hcm, hs0, hzl⟩ := hcond
          simp only [Option.some.injEq, Prod.mk.injEq] at he
          obtain ⟨rfl, rfl⟩ := he
          obtain ⟨kl, hkl⟩ := (hE l l' hl').nat_inv hln
          obtain ⟨kc, hkc⟩ := (hE c c' hc').nat_inv hcn
          have hbase := RepsE.made (w := w) (ok := ok) (ρ := ρ) hcs hzl cn
          refine ⟨_, _, ok, _, ?_, OpRes.newSlice (ty := e) (cap := cn) (us := madeCells z.cells (cn * i.size)) (len := ln) (vcap := cn) hI (hN _ (Nat.le_refl _) (by simp [newBlk])) w rfl hI.below hs0 hbase.len (by rw [hbase.size]; exact Nat.le_refl _) hbase.cells hle (Nat.le_refl _) (by unfold maxLen; omega) (by rw [size_madeCells]; exact Nat.le_refl _)⟩
          refine RunsTo.value (s := Instr.makeSlice t (ev l) (ev c)) (fun oper h => by unfold execOp; rw [h]) ?_
          rw [hkl, hkc]
          have hb : (i.bytes : Int) * cn ≤ 281474976710656 := by
            have h1 : cn * i.bytes ≤ 140737488355328 := hroom
            have h2 : (i.bytes : Int) * cn = ((cn * i.bytes : Nat) : Int) := by rw [Int.natCast_mul, Int.mul_comm]
            rw [h2]; omega
          have := run_make (P := P) w t e i z hu hi hz' kl kc ln cn (by omega) (by omega) hb (by omega)
          simpa using this
        · cases he
      · cases he
    · cases hc
  · cases hc

theorem VRep.slice_inv {v : V} {u : Value} (h : VRep w ok ρ v u) (n : Nat) (hn : (v = .nilS ∧ n = 0) ∨ (∃ b sz off cap, v = .ref b sz off n cap) ∨ (∃ es, v = .d (.sl es) ∧ n = es.length)) : ∃ a cap, u = .slice a n cap := by
  rcases hn with ⟨rfl, rfl⟩ | ⟨b, sz, off, cap, rfl⟩ | ⟨es, rfl, rfl⟩
  · cases h; exact ⟨_, _, rfl⟩
  · cases h; exact ⟨_, _, rfl⟩
  · cases h with | d _ _ h => cases h <;> exact ⟨_, _, rfl⟩

/-- a builtin: how its run goes -/
theorem RunsTo.builtin {b : Builtin} {args : Array Operand} {ts : Array TypeId} {u : Value} {w' : World} {s : TypeId → Sem Value}
    (hs : ∀ (ty : TypeId) (cs : Array Bool), Go.builtin b ts ty cs (args.map ev) = (do pure (.value (← s ty)))) (hr : ∀ ty, (s ty).run P w = .ok u w') : RunsTo P ev (.call { callee := .builtin b, args := args, argTypes := ts }) w u w' := by
  intro oper ho
  left
  unfold execOp
  rw [ho]
  simp only [resolve, Sem.run_bind, Sem.run_pure, Result.andThen_ok, invoke, hs, hr]

theorem snd_len {c : Call} {vo : VOp} (hcal : c.callee = .builtin .len) (hc : compOp P (.call c) = some vo) (hE : Reps w ok ρ E ev) (hI : Inv base w0 w ok ρ S H)
    (he : evalOp vo (X.ev E) H = some (v, H')) : OpOk P base w0 w ok ρ S H (wtouchOp vo (X.ev E)) ev (.call c) v H' := by
  obtain ⟨callee, args, ts⟩ := c
  subst hcal
  simp only [compOp] at hc
  split at hc
  · rename_i x t hx ht
    obtain rfl : args = #[x] := Array.ext' (by simpa using hx)
    obtain rfl : ts = #[t] := Array.ext' (by simpa using ht)
    have hgo : ∀ (n : Nat) (u : Value), v = V.int .i64 n → H' = H → ev x = u → (∀ ty, (Builtin.len_ #[t] ty #[u]).run P w = .ok (goInt n) w) →
        OpOk P base w0 w ok ρ S H (wtouchOp vo (X.ev E)) ev (.call { callee := .builtin .len, args := #[x], argTypes := #[t] }) v H' := by
      intro n u hv hH hu hr
      subst hv; subst hH
      refine .same (u := .int .i64 n) ?_ hI (.lit rfl)
      refine RunsTo.builtin (s := fun ty => Builtin.len_ #[t] ty #[u]) (fun ty cs => by simp only [List.map_toArray, List.map_cons, List.map_nil, hu]; rfl) hr
    split at hc
    · -- a slice
      rename_i e y hu hy
      obtain rfl := Option.some.inj hc
      have hr := hE x y hy
      simp only [evalOp] at he
      have hrun : ∀ (a : Option Addr) (n cap : Nat), ∀ ty, (Builtin.len_ #[t] ty #[.slice a n cap]).run P w = .ok (goInt n) w := fun a n cap ty => by simp [Builtin.len_, run_underlying' hu]
      split at he
      · rename_i hp
        simp only [Option.some.injEq, Prod.mk.injEq] at he
        rw [hp] at hr
        obtain ⟨a, cap, hu'⟩ := hr.slice_inv 0 (.inl ⟨rfl, rfl⟩)
        exact hgo 0 _ he.1.symm he.2.symm hu' (hrun a 0 cap)
      · rename_i b sz off len cap hp
        simp only [Option.some.injEq, Prod.mk.injEq] at he
        rw [hp] at hr
        obtain ⟨a, cap, hu'⟩ := hr.slice_inv len (.inr (.inl ⟨_, _, _, _, rfl⟩))
        exact hgo len _ he.1.symm he.2.symm hu' (hrun a len cap)
      · rename_i es hp
        simp only [Option.some.injEq, Prod.mk.injEq] at he
        rw [hp] at hr
        obtain ⟨a, cap, hu'⟩ := hr.slice_inv es.length (.inr (.inr ⟨_, rfl, rfl⟩))
        exact hgo es.length _ he.1.symm he.2.symm hu' (hrun a es.length cap)
      · cases he
    · rename_i y hu hy
      obtain rfl := Option.some.inj hc
      have hr := hE x y hy
      simp only [evalOp] at he
      split at he
      · rename_i s hp
        simp only [Option.some.injEq, Prod.mk.injEq] at he
        rw [hp] at hr
        exact hgo s.size _ he.1.symm he.2.symm hr.lit_inv fun ty => by simp [Builtin.len_, run_underlying' hu]
      · cases he
    · rename_i n e _ hu hy
      obtain rfl := Option.some.inj hc
      simp only [evalOp, Option.some.injEq, Prod.mk.injEq] at he
      exact hgo n (ev x) he.1.symm he.2.symm rfl fun ty => by simp [Builtin.len_, run_underlying' hu]
    · cases hc
  · cases hc
end
end Go.VM
/- Each operation that the evaluator carries out, the model carries out alike (seventh part): slices cut, appended to, copied; least and greatest. -/
namespace Go.VM
open Go.RowKit
set_option linter.unusedVariables false
set_option linter.unusedSimpArgs false
set_option linter.unusedSectionVars false

section
variable {P : Program} {base : Nat} {w0 w : World} {ok : Nat → Prop} {ρ : Nat → Option Nat} {S : Nat → Prop} {H H' : Heap} {E : Env} {ev : Operand → Value} {v : V}

theorem max_fold : ∀ (ops : List Operand) (ys : List X) (a : V) (u : Value), compOps ops = some ys → Reps w ok ρ E ev → VRep w ok ρ a u → ys.foldlM (fun a y => maxV a (y.ev E)) a = some v →
    ∃ u', ((ops.map ev).foldlM Builtin.max2 u).run P w = .ok u' w ∧ VRep w ok ρ v u'
  | [], ys, a, u, hc, _, hr, hf => by
    simp [compOps, mapO] at hc; subst hc
    simp at hf; subst hf
    exact ⟨u, by simp, hr⟩
  | o :: ops, ys, a, u, hc, hE, hr, hf => by
    simp only [compOps, mapO] at hc
    split at hc
    · rename_i y z hy hz
      obtain rfl := Option.some.inj hc
      simp only [List.foldlM_cons, Option.bind_eq_bind, Option.bind_eq_some_iff] at hf
      obtain ⟨b, hb, hf⟩ := hf
      have hro := hE o y hy
      unfold maxV at hb
      split at hb
      · rename_i k x k' y' heq
        obtain rfl := Option.some.inj hb
        have h1 := hr.lit_inv
        rw [heq] at hro
        have h2 := hro.lit_inv
        obtain ⟨u', hu', hv⟩ := max_fold ops z (V.int k (if y' > x then y' else x)) (.int k (if y' > x then y' else x)) hz hE (.lit rfl) hf
        refine ⟨u', ?_, hv⟩
        simp only [List.map_cons, List.foldlM_cons, Sem.run_bind, h1, h2, Builtin.max2, Sem.run_pure, Result.andThen_ok]
        exact hu'
      · cases hb
    · cases hc
theorem min_fold : ∀ (ops : List Operand) (ys : List X) (a : V) (u : Value), compOps ops = some ys → Reps w ok ρ E ev → VRep w ok ρ a u → ys.foldlM (fun a y => minV a (y.ev E)) a = some v →
    ∃ u', ((ops.map ev).foldlM Builtin.min2 u).run P w = .ok u' w ∧ VRep w ok ρ v u'
  | [], ys, a, u, hc, _, hr, hf => by
    simp [compOps, mapO] at hc; subst hc
    simp at hf; subst hf
    exact ⟨u, by simp, hr⟩
  | o :: ops, ys, a, u, hc, hE, hr, hf => by
    simp only [compOps, mapO] at hc
    split at hc
    · rename_i y z hy hz
      obtain rfl := Option.some.inj hc
      simp only [List.foldlM_cons, Option.bind_eq_bind, Option.bind_eq_some_iff] at hf
      obtain ⟨b, hb, hf⟩ := hf
      have hro := hE o y hy
      unfold minV at hb
      split at hb
      · rename_i k x k' y' heq
        obtain rfl := Option.some.inj hb
        have h1 := hr.lit_inv
        rw [heq] at hro
        have h2 := hro.lit_inv
        obtain ⟨u', hu', hv⟩ := min_fold ops z (V.int k (if y' < x then y' else x)) (.int k (if y' < x then y' else x)) hz hE (.lit rfl) hf
        refine ⟨u', ?_, hv⟩
        simp only [List.map_cons, List.foldlM_cons, Sem.run_bind, h1, h2, Builtin.min2, Sem.run_pure, Result.andThen_ok]
        exact hu'
      · cases hb
    · cases hc

theorem snd_max {args : Array Operand} {ts : Array TypeId} {vo : VOp} (hc : compOp P (.call ⟨.builtin .max, args, ts⟩) = some vo) (hE : Reps w ok ρ E ev) (hI : Inv base w0 w ok ρ S H)
    (he : evalOp vo (X.ev E) H = some (v, H')) : OpOk P base w0 w ok ρ S H (wtouchOp vo (X.ev E)) ev (.call ⟨.builtin .max, args, ts⟩) v H' := by
  simp only [compOp] at hc
  obtain ⟨ys, hys, rfl⟩ := Option.map_eq_some_iff.1 hc
  simp only [evalOp] at he
  split at he
  · cases he
  · rename_i x r
    obtain ⟨z, hz, e⟩ := Option.map_eq_some_iff.1 he
    simp only [Prod.mk.injEq] at e
    obtain ⟨rfl, rfl⟩ := e
    cases hl : args.toList with
    | nil => rw [hl] at hys; simp [compOps, mapO] at hys
    | cons o ops =>
      rw [hl] at hys
      simp only [compOps, mapO] at hys
      split at hys
      · rename_i y z' hy hz'
        obtain ⟨rfl, rfl⟩ := List.cons.inj (Option.some.inj hys)
        obtain ⟨u, hu, hv⟩ := max_fold (P := P) ops _ _ (ev o) hz' hE (hE o _ hy) hz
        refine .same (u := u) ?_ hI hv
        refine RunsTo.builtin (s := fun ty => Builtin.max_ ts ty (args.map ev)) (fun ty cs => rfl) fun ty => ?_
        unfold Builtin.max_
        rw [Array.toList_map, hl]
        exact hu
      · cases hys
theorem snd_min {args : Array Operand} {ts : Array TypeId} {vo : VOp} (hc : compOp P (.call ⟨.builtin .min, args, ts⟩) = some vo) (hE : Reps w ok ρ E ev) (hI : Inv base w0 w ok ρ S H)
    (he : evalOp vo (X.ev E) H = some (v, H')) : OpOk P base w0 w ok ρ S H (wtouchOp vo (X.ev E)) ev (.call ⟨.builtin .min, args, ts⟩) v H' := by
  simp only [compOp] at hc
  obtain ⟨ys, hys, rfl⟩ := Option.map_eq_some_iff.1 hc
  simp only [evalOp] at he
  split at he
  · cases he
  · rename_i x r
    obtain ⟨z, hz, e⟩ := Option.map_eq_some_iff.1 he
    simp only [Prod.mk.injEq] at e
    obtain ⟨rfl, rfl⟩ := e
    cases hl : args.toList with
    | nil => rw [hl] at hys; simp [compOps, mapO] at hys
    | cons o ops =>
      rw [hl] at hys
      simp only [compOps, mapO] at hys
      split at hys
      · rename_i y z' hy hz'
        obtain ⟨rfl, rfl⟩ := List.cons.inj (Option.some.inj hys)
        obtain ⟨u, hu, hv⟩ := min_fold (P := P) ops _ _ (ev o) hz' hE (hE o _ hy) hz
        refine .same (u := u) ?_ hI hv
        refine RunsTo.builtin (s := fun ty => Builtin.min_ ts ty (args.map ev)) (fun ty cs => rfl) fun ty => ?_
        unfold Builtin.min_
        rw [Array.toList_map, hl]
        exact hu
      · cases hys

/-! ### cutting -/
/-- a bound as it is told: none, or a number -/
def Bd (o : Option Value) (d n : Nat) : Prop := (o = none ∧ n = d) ∨ ∃ k, o = some (.int k n)

theorem run_bounds {isSlice : Bool} {len cap l h m : Nat} {lo hi mx : Option Value} (hlo : Bd lo 0 l) (hhi : Bd hi len h) (hmx : Bd mx cap m) (hmh : mx.isSome = true → hi.isSome = true) (h1 : l ≤ h) (h2 : h ≤ m) (h3 : m ≤ cap) :
    (Instr.sliceBounds isSlice len cap lo hi mx).run P w = .ok (l, h, m) w := by
  have hb : ∀ (k : IntKind) (n y : Nat) (code : BoundsCode), n ≤ y → (Instr.sliceBound (.int k n) y code).run P w = .ok n w := fun k n y code hle => by
    have := run_sliceBound (P := P) w k (n : Int) y code (by omega) (by omega)
    simpa using this
  rcases hlo with ⟨rfl, rfl⟩ | ⟨kl, rfl⟩ <;> rcases hhi with ⟨rfl, rfl⟩ | ⟨kh, rfl⟩ <;> rcases hmx with ⟨rfl, rfl⟩ | ⟨km, rfl⟩
  all_goals first
    | (simp at hmh; done)
    | simp [Instr.sliceBounds, hb _ _ _ _ h1, hb _ _ _ _ h2, hb _ _ _ _ h3]

theorem bd_of {x : Option X} {o : Option Operand} {d n : Nat} (hc : compOpt o = some x) (hE : Reps w ok ρ E ev) (hn : bdV (x.map (X.ev E)) d = some n) : Bd (o.map ev) d n ∧ (o.isSome = x.isSome) := by
  unfold bdV at hn
  cases o with
  | none => simp [compOpt] at hc; subst hc; simp at hn; exact ⟨.inl ⟨rfl, hn.symm⟩, rfl⟩
  | some o =>
    simp only [compOpt] at hc
    obtain ⟨y, hy, rfl⟩ := Option.map_eq_some_iff.1 hc
    simp only [Option.map_some] at hn
    obtain ⟨k, hk⟩ := (hE o y hy).nat_inv hn
    exact ⟨.inr ⟨k, by simp [hk]⟩, rfl⟩

/-- the greatest bound, if it is not told, is the capacity, of which the evaluator may know less -/
theorem Bd.more {o : Option Value} {d d' n : Nat} (h : Bd o d n) (hd : d ≤ d') : ∃ n', Bd o d' n' ∧ ((o = none ∧ n = d ∧ n' = d') ∨ (o.isSome = true ∧ n' = n)) := by
  rcases h with ⟨rfl, rfl⟩ | ⟨k, rfl⟩
  · exact ⟨d', .inl ⟨rfl, rfl⟩, .inl ⟨rfl, rfl, rfl⟩⟩
  · exact ⟨n, .inr ⟨k, rfl⟩, .inr ⟨rfl, rfl⟩⟩

theorem run_slice_of {t e : TypeId} {s len cap l h m : Nat} {a : Option Addr} {lo hi mx : Option Value} (hu : P.underlying t = some (.slice e)) (hs : szOf P e = some s) (hlo : Bd lo 0 l) (hhi : Bd hi len h) (hmx : Bd mx cap m)
    (hmh : mx.isSome = true → hi.isSome = true) (h1 : l ≤ h) (h2 : h ≤ m) (h3 : m ≤ cap) :
    (Instr.sliceAt t (.slice a len cap) lo hi mx).run P w = .ok (.slice (if m = l then a else a.map (·.add (l * s))) (h - l) (m - l)) w := by
  simp [Instr.sliceAt, run_underlying' hu, Instr.slice, run_bounds (P := P) (w := w) hlo hhi hmx hmh h1 h2 h3, run_sizeOf_sz hs]

theorem DRep.cut {es : List (List D)} {u : Value} (h : DRep w ok (.sl es) u) : ∃ a cap, u = .slice a es.length cap ∧ es.length ≤ cap ∧ cap ≤ maxLen := by
  cases h with
  | sl0 a cap hm => exact ⟨a, cap, rfl, Nat.zero_le _, hm⟩
  | sl es sz a cap us hsz hl hcap hm hok hc hd => exact ⟨some a, cap, rfl, hcap, hm⟩

/-- a part of what is only read -/
theorem DRep.sub {es : List (List D)} {a : Option Addr} {len cap l h m : Nat} (hd : DRep w ok (.sl es) (.slice a len cap)) {s : Nat} (hsz : ∀ e ∈ es, e.length = s) (h1 : l ≤ h) (h2 : h ≤ es.length) (h3 : h ≤ m) (h4 : m ≤ cap) :
    DRep w ok (.sl ((es.drop l).take (h - l))) (.slice (if m = l then a else a.map (·.add (l * s))) (h - l) (m - l)) := by
  by_cases hlh : h - l = 0
  · rw [hlh]
    simp only [List.take_zero]
    refine .sl0 _ _ ?_
    obtain ⟨_, cap', he, _, hm⟩ := hd.cut
    cases he; omega
  · have hml : ¬ m = l := by omega
    rw [if_neg hml]
    cases hd with
    | sl0 => simp at h2; omega
    | sl _ sz a cap us hs0 hl hcap hm hok hc hdd =>
      have hs : sz = s := by
        have hne : 0 < es.length := by omega
        have hmem : es[0] ∈ es := List.getElem_mem hne
        rw [← hl _ hmem, hsz _ hmem]
      subst hs
      have hlen : h - l = ((es.drop l).take (h - l)).length := by simp; omega
      have hget : ∀ i j x, cellAt ((es.drop l).take (h - l)) i j = some x → cellAt es (l + i) j = some x := fun i j x hx => by
        obtain ⟨e, he, hj⟩ := cellAt_some hx
        have hi : i < h - l := by
          have := (List.getElem?_eq_some_iff.1 he).1; simp at this; omega
        rw [List.getElem?_take, if_pos hi, List.getElem?_drop] at he
        exact cellAt_of he hj
      simp only [Option.map_some]
      have := DRep.sl (w := w) (ok := ok) ((es.drop l).take (h - l)) sz (a.add (l * sz)) (m - l) (fun i j => us (l + i) j) hs0 (fun e he => hl e (List.mem_of_mem_drop (List.mem_of_mem_take he))) (by omega) (by omega) (by rw [Addr.add_block]; exact hok)
        (fun i j x hx => by rw [Addr.add_add, ← Nat.add_assoc, ← Nat.add_mul]; exact hc _ _ x (hget i j x hx)) (fun i j x hx => hdd _ _ x (hget i j x hx))
      rw [← hlen] at this
      exact this

theorem snd_slc {t : TypeId} {x : Operand} {lo hi mx : Option Operand} {vo : VOp} (hc : compOp P (.slice t x lo hi mx) = some vo) (hE : Reps w ok ρ E ev) (hI : Inv base w0 w ok ρ S H)
    (he : evalOp vo (X.ev E) H = some (v, H')) : OpOk P base w0 w ok ρ S H (wtouchOp vo (X.ev E)) ev (.slice t x lo hi mx) v H' := by
  simp only [compOp] at hc
  split at hc
  · rename_i x' lo' hi' mx' e hx hlo hhi hmx hu
    split at hc
    · cases hc
    · rename_i hmh
      obtain ⟨s, hs, rfl⟩ := Option.map_eq_some_iff.1 hc
      simp only [evalOp] at he
      obtain ⟨v', hv', e'⟩ := Option.map_eq_some_iff.1 he
      simp only [Prod.mk.injEq] at e'
      obtain ⟨rfl, rfl⟩ := e'
      have hr := hE x x' hx
      have hms : ∀ {o : Option Operand} {y : Option X}, compOpt o = some y → o.isSome = y.isSome := fun {o y} h => by
        cases o with
        | none => simp [compOpt] at h; subst h; rfl
        | some o => simp only [compOpt] at h; obtain ⟨z, _, rfl⟩ := Option.map_eq_some_iff.1 h; rfl
      have hmh' : (mx.map ev).isSome = true → (hi.map ev).isSome = true := fun h => by
        simp only [Option.isSome_map] at h ⊢
        simp only [Bool.and_eq_true, not_and, Bool.not_eq_true] at hmh
        rw [hms hmx] at h
        have := hmh h
        rw [hms hhi]
        cases hi' <;> simp_all
      have hmxs : (mx.map ev).isSome = (mx'.map (X.ev E)).isSome := by simp only [Option.isSome_map]; exact hms hmx
      unfold slcV at hv'
      split at hv'
      · cases hv'
      · rename_i l hl
        have hbl := (bd_of hlo hE hl).1
        have hgo : ∀ (a : Option Addr) (len cap h m : Nat) (r : V), ev x = .slice a len cap → Bd (hi.map ev) len h → Bd (mx.map ev) cap m → l ≤ h → h ≤ m → m ≤ cap →
            VRep w ok ρ r (.slice (if m = l then a else a.map (·.add (l * s))) (h - l) (m - l)) → OpOk P base w0 w ok ρ S H (wtouchOp (.slc s x' lo' hi' mx') (X.ev E)) ev (.slice t x lo hi mx) r H := by
          intro a len cap h m r hux hbh hbm h1 h2 h3 hrr
          refine .same (u := .slice (if m = l then a else a.map (·.add (l * s))) (h - l) (m - l)) ?_ hI hrr
          refine RunsTo.value (s := Instr.sliceAt t (ev x) (lo.map ev) (hi.map ev) (mx.map ev)) (fun oper h => by unfold execOp; rw [h]) ?_
          rw [hux]
          exact run_slice_of hu hs hbl hbh hbm hmh' h1 h2 h3
        split at hv'
        · -- nil
          rename_i hp
          rw [hp] at hr
          split at hv'
          · rename_i h m hh hm
            split at hv'
            · rename_i hcond
              obtain rfl := Option.some.inj hv'
              generalize hux : ev x = ux at hr
              cases hr with
              | nilS a =>
                have hbh := (bd_of hhi hE hh).1
                have hbm := (bd_of hmx hE hm).1
                refine hgo a 0 0 h m _ hux hbh hbm hcond.1 hcond.2.1 hcond.2.2 ?_
                have hm0 : m = 0 := by omega
                have hl0 : l = 0 := by omega
                have hh0 : h = 0 := by omega
                subst hm0; subst hl0; subst hh0
                exact .nilS _
            · cases hv'
          · cases hv'
        · -- only read
          rename_i es hp
          rw [hp] at hr
          split at hv'
          · rename_i h m hh hm
            split at hv'
            · rename_i hcond
              obtain ⟨c1, c2, c3, c4⟩ := hcond
              have hes : ∀ e ∈ es, e.length = s := fun e he => by simpa using List.all_eq_true.1 c4 e he
              have hbh := (bd_of hhi hE hh).1
              generalize hux : ev x = ux at hr
              cases hr with
              | d _ _ hd =>
                obtain ⟨a, cap, rfl, hle, hmax⟩ := hd.cut
                obtain ⟨m', hbm, hm'⟩ := (bd_of hmx hE hm).1.more hle
                rcases hm' with ⟨hn, e1, e2⟩ | ⟨hsm, rfl⟩
                · have hns : ¬ ((mx'.map (X.ev E)).isSome = true ∧ m = l) := fun hh => by rw [← hmxs, hn] at hh; simp at hh
                  rw [if_neg hns] at hv'
                  obtain rfl := Option.some.inj hv'
                  exact hgo a es.length cap h m' _ hux hbh hbm c1 (by omega) (by omega) (.d _ _ (hd.sub hes c1 (by omega) (by omega) (by omega)))
                · split at hv'
                  · rename_i hml
                    obtain rfl := Option.some.inj hv'
                    obtain ⟨_, rfl⟩ := hml
                    refine hgo a es.length cap h m' _ hux hbh hbm c1 c2 (by omega) ?_
                    have : h - m' = 0 := by omega
                    rw [this, Nat.sub_self]
                    exact .nilS _
                  · obtain rfl := Option.some.inj hv'
                    exact hgo a es.length cap h m' _ hux hbh hbm c1 c2 (by omega) (.d _ _ (hd.sub hes c1 (by omega) (by omega) (by omega)))
            · cases hv'
          · cases hv'
        · -- own
          rename_i b sz off len vcap hp
          rw [hp] at hr
          split at hv'
          · rename_i h m hh hm
            split at hv'
            · rename_i hcond
              obtain ⟨c1, c2, c3, rfl⟩ := hcond
              have hbh := (bd_of hhi hE hh).1
              generalize hux : ev x = ux at hr
              cases hr with
              | ref _ _ _ _ _ z cap' hrr hlc hcc hmx' hsz hss =>
                obtain ⟨m', hbm, hm'⟩ := (bd_of hmx hE hm).1.more hcc
                have hmm : m ≤ m' := by rcases hm' with ⟨_, _, _⟩ | ⟨_, rfl⟩ <;> omega
                have hmc : m' ≤ cap' := by rcases hm' with ⟨_, _, _⟩ | ⟨_, rfl⟩ <;> omega
                refine hgo _ len cap' h m' _ hux hbh hbm c1 (by omega) hmc ?_
                split at hv'
                · rename_i hml
                  split at hv'
                  · rename_i hsome
                    obtain rfl := Option.some.inj hv'
                    rcases hm' with ⟨hn, _, _⟩ | ⟨_, rfl⟩
                    · rw [← hmxs, hn] at hsome; simp at hsome
                    · have h1 : h - l = 0 := by omega
                      have h2 : m' - l = 0 := by omega
                      rw [h1, h2]; exact .nilS _
                  · obtain rfl := Option.some.inj hv'
                    have h1 : h - l = 0 := by omega
                    rw [h1]
                    exact .d _ _ (.sl0 _ _ (by omega))
                · rename_i hml
                  obtain rfl := Option.some.inj hv'
                  rw [if_neg (by omega)]
                  simp only [Option.map_some]
                  rw [Addr.add_plain, ← Nat.add_mul]
                  obtain ⟨c, T, fz, hc1, hc2⟩ := hss
                  refine .ref _ _ _ _ _ _ _ hrr (by omega) (by omega) (by omega) hsz ⟨c, T, fz, hc1, Nat.le_trans (Nat.mul_le_mul_right _ (by omega)) hc2⟩
            · cases hv'
          · cases hv'
        · cases hv'
  · rename_i x' lo' hi' hx hlo hhi hmx hu
    obtain rfl := Option.some.inj hc
    simp only [evalOp] at he
    have hr := hE x x' hx
    have hmn : mx = none := by
      cases mx with
      | none => rfl
      | some m => simp [compOpt] at hmx
    subst hmn
    split at he
    · rename_i str hp
      rw [hp] at hr
      have hux := hr.lit_inv
      split at he
      · rename_i l h hl hh
        split at he
        · rename_i hcond
          simp only [Option.some.injEq, Prod.mk.injEq] at he
          obtain ⟨rfl, rfl⟩ := he
          refine .same (u := .string (str.extract l h)) ?_ hI (.lit rfl)
          refine RunsTo.value (s := Instr.sliceAt t (ev x) (lo.map ev) (hi.map ev) none) (fun oper h => by unfold execOp; rw [h]; rfl) ?_
          rw [hux]
          simp [Instr.sliceAt, run_underlying' hu, Instr.slice, run_bounds (P := P) (w := w) (isSlice := false) (bd_of hlo hE hl).1 (bd_of hhi hE hh).1 (.inl ⟨rfl, rfl⟩ : Bd none str.size str.size) (by simp) hcond.1 hcond.2 (Nat.le_refl _)]
        · cases he
      · cases he
    · cases he
  · cases hc
end
end Go.VM
/- Each operation that the evaluator carries out, the model carries out alike (eighth part): append and copy. -/
namespace Go.VM
open Go.RowKit
set_option linter.unusedVariables false
set_option linter.unusedSimpArgs false
set_option linter.unusedSectionVars false

section
variable {P : Program} {base : Nat} {w0 w : World} {ok : Nat → Prop} {ρ : Nat → Option Nat} {S : Nat → Prop} {H H' : Heap} {E : Env} {ev : Operand → Value} {v : V}

/-- elements that can be read at an address -/
structure Source (w : World) (ok : Nat → Prop) (ρ : Nat → Option Nat) (sz : Nat) (xs : List (List V)) (ad : Addr) (news : List Value) : Prop where
  len : ∀ e ∈ xs, e.length = sz
  size : news.length = xs.length * sz
  read : ∀ j u, news[j]? = some u → w.cell? (ad.add j) = some u
  rep : ∀ i j c, cellAt xs i j = some c → ∃ u, news[i * sz + j]? = some u ∧ VRep w ok ρ c u
  one : ∀ u ∈ news, u.oneCell' = true

theorem exists_cell {α : Type} {es : List (List α)} {sz n : Nat} (hl : ∀ e ∈ es, e.length = sz) (hsz : 0 < sz) (hn : n < es.length * sz) : ∃ x, cellAt es (n / sz) (n % sz) = some x := by
  have h1 : n / sz < es.length := by rw [Nat.div_lt_iff_lt_mul hsz]; exact hn
  have h2 : n % sz < sz := Nat.mod_lt _ hsz
  have he : es[n / sz]? = some es[n / sz] := List.getElem?_eq_getElem h1
  have hlen := hl _ (List.getElem_mem h1)
  exact ⟨_, cellAt_of he (List.getElem?_eq_getElem (by omega))⟩

theorem elems_reads {sz : Nat} {y : V} {u : Value} {xs : List (List V)} (hI : Inv base w0 w ok ρ S H) (hS : ∀ b ∈ touchV y, S b) (hr : VRep w ok ρ y u) (he : elemsV H sz y = some xs) (hsz : 0 < sz) :
    ∃ a cap, u = .slice a xs.length cap ∧ (∀ e ∈ xs, e.length = sz) ∧ (xs.length ≠ 0 → ∃ ad news, a = some ad ∧ Source w ok ρ sz xs ad news) := by
  cases hr with
  | nilS a =>
    simp [elemsV] at he; subst he
    exact ⟨a, 0, rfl, by simp, by simp⟩
  | d x u hd =>
    cases x with
    | lit v => simp [elemsV] at he
    | sl es =>
      simp only [elemsV] at he
      split at he
      · rename_i hall
        obtain rfl := Option.some.inj he
        have hes : ∀ e ∈ es, e.length = sz := fun e h => by simpa using List.all_eq_true.1 hall e h
        cases hd with
        | sl0 a cap hm => exact ⟨a, cap, rfl, by simp, by simp⟩
        | sl _ sz' a cap us h0 hl hcap hm hok hc hdd =>
          refine ⟨some a, cap, by simp, fun e he => by obtain ⟨e', he', rfl⟩ := List.mem_map.1 he; simp [hes e' he'], fun hne => ?_⟩
          have hsz' : sz' = sz := by
            have hne' : 0 < es.length := by simp at hne; exact List.length_pos_iff.2 hne
            have hmem : es[0] ∈ es := List.getElem_mem hne'
            rw [← hl _ hmem, hes _ hmem]
          subst hsz'
          have hcellmap : ∀ i j c, cellAt (es.map (·.map V.d)) i j = some c → ∃ x, cellAt es i j = some x ∧ c = .d x := fun i j c hc' => by
            obtain ⟨e, he, hj⟩ := cellAt_some hc'
            rw [List.getElem?_map, Option.map_eq_some_iff] at he
            obtain ⟨e0, he0, rfl⟩ := he
            rw [List.getElem?_map, Option.map_eq_some_iff] at hj
            obtain ⟨x0, hx0, rfl⟩ := hj
            exact ⟨x0, cellAt_of he0 hx0, rfl⟩
          refine ⟨a, (List.range (es.length * sz')).map fun n => us (n / sz') (n % sz'), rfl, fun e he => by obtain ⟨e', he', rfl⟩ := List.mem_map.1 he; simp [hes e' he'], by simp, fun j u hu => ?_, fun i j c hc' => ?_, fun u hu => ?_⟩
          · have hj : j < es.length * sz' := by have := (List.getElem?_eq_some_iff.1 hu).1; simpa using this
            obtain ⟨x, hx⟩ := exists_cell hes hsz hj
            simp [hj] at hu; subst hu
            have := hc _ _ x hx
            rw [Nat.div_add_mod'] at this
            exact this
          · obtain ⟨x, hx, rfl⟩ := hcellmap i j c hc'
            obtain ⟨hi, hj⟩ := cellAt_lt hes hx
            refine ⟨us i j, ?_, .d _ _ (hdd i j x hx)⟩
            have h1 : i * sz' + j < es.length * sz' := idx_lt hi hj
            have h2 : (i * sz' + j) / sz' = i := by rw [Nat.mul_comm, Nat.mul_add_div hsz, Nat.div_eq_of_lt hj, Nat.add_zero]
            simp [h1, h2, mod_of hj]
          · obtain ⟨n, hn, rfl⟩ := List.mem_map.1 hu
            obtain ⟨x, hx⟩ := exists_cell hes hsz (by simpa using hn)
            exact (hdd _ _ x hx).one
      · cases he
  | ref b bsz off len cap x cap' hrr hlc hcc hmx h0 hss =>
    simp only [elemsV] at he
    split at he
    · rename_i k hk
      split at he
      · rename_i hcond
        obtain ⟨c1, c2, c3⟩ := hcond
        obtain rfl := Option.some.inj he
        subst c2
        have hown := hI.own b k x (hS b (by simp [touchV])) hk hrr
        obtain ⟨cs, hcs, hsize, hcells⟩ := hown.cells
        have hlen : ((k.es.drop off).take len).length = len := by simp; omega
        have hall : ∀ e ∈ (k.es.drop off).take len, e.length = bsz := fun e he => by rw [← c1]; exact hown.len e (List.mem_of_mem_drop (List.mem_of_mem_take he))
        have hcellof : ∀ i j c, cellAt ((k.es.drop off).take len) i j = some c → cellAt k.es (off + i) j = some c := fun i j c hc' => by
          obtain ⟨e, he, hj⟩ := cellAt_some hc'
          have hi : i < len := by have := (List.getElem?_eq_some_iff.1 he).1; omega
          rw [List.getElem?_take, if_pos hi, List.getElem?_drop] at he
          exact cellAt_of he hj
        have hb1 : off * bsz + len * bsz ≤ cs.size := by
          rw [← Nat.add_mul]
          refine Nat.le_trans (Nat.mul_le_mul_right _ c3) ?_
          rw [← c1]; exact hsize
        have hnl : ((cs.toList.drop (off * bsz)).take (len * bsz)).length = len * bsz := by simp; omega
        have hget : ∀ j, j < len * bsz → ((cs.toList.drop (off * bsz)).take (len * bsz))[j]? = cs[off * bsz + j]? := fun j hj => by
          rw [List.getElem?_take, if_pos hj, List.getElem?_drop, Array.getElem?_toList]
        refine ⟨some ⟨x, off * bsz, none⟩, cap', by rw [hlen], hall, fun _ => ⟨_, (cs.toList.drop (off * bsz)).take (len * bsz), rfl, hall, by rw [hnl, hlen], fun j u hu => ?_, fun i j c hc' => ?_, fun u hu => ?_⟩⟩
        · have hj : j < len * bsz := by have := (List.getElem?_eq_some_iff.1 hu).1; omega
          rw [hget j hj] at hu
          rw [Addr.add_plain, cell_of_row w x _ cs _ _ hcs]
          exact hu
        · obtain ⟨hi, hj⟩ := cellAt_lt hall hc'
          rw [hlen] at hi
          obtain ⟨u, hu, hr, ho⟩ := hcells _ _ _ (hcellof i j c hc')
          refine ⟨u, ?_, hr⟩
          rw [hget _ (idx_lt hi hj), ← Nat.add_assoc, ← Nat.add_mul]
          rw [← c1]; exact hu
        · obtain ⟨n, hn, rfl⟩ := List.mem_iff_getElem.1 hu
          have hn' : n < len * bsz := by omega
          have hn2 : n < ((k.es.drop off).take len).length * bsz := by rw [hlen]; exact hn'
          obtain ⟨c, hc'⟩ := exists_cell hall hsz hn2
          obtain ⟨u, hu', _, ho⟩ := hcells _ _ _ (hcellof _ _ c hc')
          have h1 := hget n hn'
          rw [List.getElem?_eq_getElem hn] at h1
          have h2 : (off + n / bsz) * k.sz + n % bsz = off * bsz + n := by
            rw [c1, Nat.add_mul, Nat.add_assoc, Nat.div_add_mod']
          rw [h2, ← h1] at hu'
          obtain rfl := Option.some.inj hu'
          exact ho
      · cases he
    · cases he
  | _ => simp [elemsV] at he

/-- append where there is room -/
theorem run_append_fits {t ty e : TypeId} {i : TypeInfo} (ht : P.underlying t = some (.slice e)) {t' : TypeId} (ht' : P.underlying t' = some (.slice e)) (hi : P.info? e = some i) (g o sLen sCap : Nat) (cur : Array Value) {T : TypeId} (hg : w.heap[g]? = some (.cells cur T (0, 0)))
    (a : Addr) (m c : Nat) (news : List Value) (hl : news.length = m * i.size) (hnews : ∀ j u, news[j]? = some u → w.cell? (a.add j) = some u) (h1 : ∀ u ∈ news, u.oneCell' = true)
    (hroom : sLen + m ≤ sCap) (hfit : o + sLen * i.size + news.length ≤ cur.size) :
    (Builtin.append_ #[t, t'] ty #[.slice (some ⟨g, o, none⟩) sLen sCap, .slice (some a) m c]).run P w =
      .ok (.slice (some ⟨g, o, none⟩) (sLen + m) sCap) (w.setRow g (cur.toList.take (o + sLen * i.size) ++ news ++ cur.toList.drop (o + sLen * i.size + news.length)).toArray) := by
  have hf := run_firstCells_some (P := P) w i.size m a m c news hl hnews
  have hst := run_storeCells_at P g (o + sLen * i.size) T news 0 cur w hg (by simpa using hfit) h1
  simp only [Nat.add_zero] at hst
  simp [Builtin.append_, run_underlying' ht, run_underlying' ht', sizeOf, typeInfo, hi, Builtin.lenOf, hroom, hf, Addr.add_lit, hst]

/-- append of nothing -/
theorem run_append_nothing {t t' ty e : TypeId} {i : TypeInfo} (ht : P.underlying t = some (.slice e)) (ht' : P.underlying t' = some (.slice e)) (hi : P.info? e = some i) (a b : Option Addr) (n cap c : Nat) (h : n ≤ cap) :
    (Builtin.append_ #[t, t'] ty #[.slice a n cap, .slice b 0 c]).run P w = .ok (.slice a n cap) w := by
  cases b <;> cases a <;> simp [Builtin.append_, run_underlying' ht, run_underlying' ht', sizeOf, typeInfo, hi, Builtin.lenOf, h, Builtin.firstCells, loadCells, loadCellsFrom, storeCells]

/-- append that must grow -/
theorem run_append_grows {t t' ty e : TypeId} {i : TypeInfo} {z : Value} (ht : P.underlying t = some (.slice e)) (ht' : P.underlying t' = some (.slice e)) (hi : P.info? e = some i) (hz : i.zero = some z)
    (b : Option Addr) (sLen sCap : Nat) (olds : List Value) (holds : (Builtin.firstCells i.size sLen (.slice b sLen sCap)).run P w.drew = .ok olds.toArray w.drew)
    (a : Addr) (n c : Nat) (news : List Value) (hl : news.length = n * i.size) (hnews : ∀ j v, news[j]? = some v → w.cell? (a.add j) = some v)
    (hg : sCap < sLen + n) (hb : (sLen + n) * i.bytes ≤ 140737488355328) (h63 : sLen + n ≤ 140737488355328) :
    (Builtin.append_ #[t, t'] ty #[.slice b sLen sCap, .slice (some a) n c]).run P w =
      .ok (.slice (some ⟨w.heap.size, 0, none⟩) (sLen + n) (grownCap w (sLen + n) sCap e))
        (w.drew.alloc (.cells (olds.toArray ++ news.toArray ++ Builtin.zeroCells z.cells (grownCap w (sLen + n) sCap e - (sLen + n))) e)) := by
  have hn : ¬ (sLen + n ≤ sCap) := by omega
  have h63' : ¬ (9223372036854775807 < ((sLen : Int) + (n : Int))) := by omega
  have hfit := growslice_fits (old := sCap) (by omega) hb
  have h48' : ¬ (281474976710656 < Builtin.nextslicecap (sLen + n) sCap * i.bytes) := by omega
  have hf := run_firstCells_some (P := P) w.drew i.size n a n c news hl (by simpa using hnews)
  simp [Builtin.append_, run_underlying' ht, run_underlying' ht', sizeOf, typeInfo, zeroValue, hi, hz, Builtin.lenOf, hn, h63', h48', Question.forced, hf, holds, newRow, grownCap]
  congr 2
  apply Array.ext'
  simp [List.append_assoc]

/-- killing a block: nothing is said of it any more -/
theorem Inv.kill (hI : Inv base w0 w ok ρ S H) {b : Nat} (hb : b < H.length) : Inv base w0 w ok ρ S (H.set b none) := by
  have hlive : ∀ c, Live (H.set b none) c → Live H c ∧ c ≠ b := fun c hc => by
    unfold Live at *; rw [Heap.blk_set hb] at hc
    by_cases e : c = b
    · rw [if_pos e] at hc; simp at hc
    · rw [if_neg e] at hc; exact ⟨hc, e⟩
  refine ⟨hI.below, hI.base_le, hI.okLt, hI.lo, fun c x hx => by rw [List.length_set]; exact hI.dom c x hx, fun x c hx hs hc => hI.apart x c hx hs (hlive c hc).1, fun c d x hs ht hc hd => hI.inj c d x hs ht (hlive c hc).1 (hlive d hd).1, fun c k x hs hk hx => ?_⟩
  rw [Heap.blk_set hb] at hk
  split at hk
  · cases hk
  · exact hI.own c k x hs hk hx
end
end Go.VM
/- Each operation that the evaluator carries out, the model carries out alike (ninth part): append and copy, joined. -/
namespace Go.VM
open Go.RowKit
set_option linter.unusedVariables false
set_option linter.unusedSimpArgs false
set_option linter.unusedSectionVars false

section
variable {P : Program} {base : Nat} {w0 w : World} {ok : Nat → Prop} {ρ : Nat → Option Nat} {S : Nat → Prop} {H H' : Heap} {E : Env} {ev : Operand → Value} {v : V}

theorem cellAt_append3 {α : Type} {a b c : List (List α)} {i j : Nat} {x : α} (h : cellAt (a ++ b ++ c) i j = some x) :
    (i < a.length ∧ cellAt a i j = some x) ∨ (a.length ≤ i ∧ i < a.length + b.length ∧ cellAt b (i - a.length) j = some x) ∨ (a.length + b.length ≤ i ∧ cellAt c (i - (a.length + b.length)) j = some x) := by
  obtain ⟨e, he, hj⟩ := cellAt_some h
  by_cases h1 : i < a.length
  · left
    rw [List.append_assoc, List.getElem?_append_left h1] at he
    exact ⟨h1, cellAt_of he hj⟩
  · right
    by_cases h2 : i < a.length + b.length
    · left
      rw [List.append_assoc, List.getElem?_append_right (by omega), List.getElem?_append_left (by omega)] at he
      exact ⟨by omega, h2, cellAt_of he hj⟩
    · right
      rw [List.getElem?_append_right (by simp; omega)] at he
      simp only [List.length_append] at he
      exact ⟨by omega, cellAt_of he hj⟩
theorem cellAt_take {α : Type} {es : List (List α)} {n i j : Nat} {x : α} (h : cellAt (es.take n) i j = some x) : i < n ∧ cellAt es i j = some x := by
  obtain ⟨e, he, hj⟩ := cellAt_some h
  rw [List.getElem?_take] at he
  split at he
  · exact ⟨‹_›, cellAt_of he hj⟩
  · cases he
theorem cellAt_drop {α : Type} {es : List (List α)} {n i j : Nat} {x : α} (h : cellAt (es.drop n) i j = some x) : cellAt es (n + i) j = some x := by
  obtain ⟨e, he, hj⟩ := cellAt_some h
  rw [List.getElem?_drop] at he
  exact cellAt_of he hj

/-- elements written in the middle of an own block -/
theorem OpRes.splice {T : List Nat} (hI : Inv base w0 w ok ρ S H) {b x : Nat} {k : Blk} {xs : List (List V)} (hsb : S b) (hk : H.blk b = some k) (hx : ρ b = some x) (hT : b ∈ T) (hown : OwnAt w ok ρ x k) (cur : Array Value)
    (hcur : w.heap[x]? = some (.cells cur k.ty (0, 0))) (p : Nat) {ad : Addr} {news : List Value} (hs : Source w ok ρ k.sz xs ad news) (hfit : p * k.sz + news.length ≤ cur.size) (hp : p ≤ k.es.length)
    (hn : (p + xs.length) * k.sz ≤ cur.size) {v : V} {u : Value} (hv : VRep w ok ρ v u) :
    OpRes base w0 w ok ρ S H T v (H.set b (some { k with es := k.es.take p ++ xs ++ k.es.drop (p + xs.length) })) u (w.setRow x (cur.toList.take (p * k.sz) ++ news ++ cur.toList.drop (p * k.sz + news.length)).toArray) ok ρ := by
  have hnl := hs.size
  have htl : (k.es.take p).length = p := by simp; omega
  obtain ⟨cs, hcs, hsize, _⟩ := hown.cells
  rw [hcur] at hcs
  simp only [Option.some.injEq, Obj.cells.injEq] at hcs
  obtain ⟨rfl, _⟩ := hcs
  refine OpRes.cells hI hsb hk hx hT hown cur hcur (p * k.sz) news hfit (fun e he => ?_) ?_ (fun i j c hc => ?_) hv
  · rcases List.mem_append.1 he with he | he
    · rcases List.mem_append.1 he with he | he
      · exact hown.len e (List.mem_of_mem_take he)
      · exact hs.len e he
    · exact hown.len e (List.mem_of_mem_drop he)
  · simp only [List.length_append, htl, List.length_drop]
    by_cases hle : p + xs.length ≤ k.es.length
    · rw [show p + xs.length + (k.es.length - (p + xs.length)) = k.es.length from by omega]; exact hsize
    · rw [show p + xs.length + (k.es.length - (p + xs.length)) = p + xs.length from by omega]; exact hn
  · rcases cellAt_append3 hc with ⟨h1, h2⟩ | ⟨h1, h2, h3⟩ | ⟨h1, h2⟩
    · right
      obtain ⟨h3, h4⟩ := cellAt_take h2
      obtain ⟨_, hj⟩ := cellAt_lt hown.len h4
      have := idx_lt (sz := k.sz) (j := j) h3 hj
      exact ⟨by omega, h4⟩
    · left
      rw [htl] at h1 h2 h3
      obtain ⟨hi, hj⟩ := cellAt_lt hs.len h3
      obtain ⟨u, hu, hr⟩ := hs.rep _ _ _ h3
      have h4 := idx_lt (sz := k.sz) hi hj
      have h5 : (i - p) * k.sz + p * k.sz = i * k.sz := by rw [← Nat.add_mul]; congr 1; omega
      refine ⟨by omega, by omega, u, ?_, hr, hs.one u (List.mem_of_getElem? hu)⟩
      rw [show i * k.sz + j - p * k.sz = (i - p) * k.sz + j from by omega]
      exact hu
    · right
      rw [htl] at h1 h2
      have h3 := cellAt_drop h2
      rw [show p + xs.length + (i - (p + xs.length)) = i from by omega] at h3
      have h4 : (p + xs.length) * k.sz ≤ i * k.sz := Nat.mul_le_mul_right _ h1
      rw [Nat.add_mul] at h4
      exact ⟨by omega, h3⟩

/-- a block under a new number -/
theorem Inv.moved {w' : World} {b x : Nat} {k' k1 : Blk} (hI : Inv base w0 w' ok ρ S (H.set b (some k1))) (hsb : S b) (hN : S H.length) (ho : OwnAt w' ok ρ x k') (hb : b < H.length) (hx : ρ b = some x) :
    Inv base w0 w' ok (setRho ρ H.length x) S (H.set b none ++ [some k']) ∧ Ext w' ok ρ w' ok (setRho ρ H.length x) := by
  have hne : ∀ c y, ρ c = some y → c ≠ H.length := fun c y hy e => by subst e; exact hI.dom _ y hy (by rw [List.length_set]; exact Nat.le_refl _) hN
  have hext : Ext w' ok ρ w' ok (setRho ρ H.length x) := ⟨fun _ h => h, fun c y hy => by unfold setRho; rw [if_neg (hne c y hy)]; exact hy, fun _ _ => rfl, fun _ c _ fz h => ⟨c, fz, h, rfl⟩, Nat.le_refl _⟩
  have hinv : ∀ c y, setRho ρ H.length x c = some y → (c = H.length ∧ y = x) ∨ (c ≠ H.length ∧ ρ c = some y) := fun c y hy => by
    unfold setRho at hy
    split at hy
    · left; simp at hy; exact ⟨‹_›, hy.symm⟩
    · exact .inr ⟨‹_›, hy⟩
  have hlen : (H.set b none).length = H.length := List.length_set
  have hblk : ∀ c k, Heap.blk (H.set b none ++ [some k']) c = some k → (c < H.length ∧ c ≠ b ∧ Heap.blk (H.set b (some k1)) c = some k) ∨ (c = H.length ∧ k = k') := fun c k hk => by
    rcases Heap.blk_append hk with ⟨h1, h2⟩ | ⟨h1, h2⟩
    · left
      rw [hlen] at h1
      rw [Heap.blk_set hb] at h2
      by_cases e : c = b
      · rw [if_pos e] at h2; cases h2
      · rw [if_neg e] at h2
        exact ⟨h1, e, by rw [Heap.blk_set hb, if_neg e]; exact h2⟩
    · right; exact ⟨by rw [h1, hlen], (Option.some.inj h2).symm⟩
  have hlive : ∀ c, Live (H.set b none ++ [some k']) c → (c < H.length ∧ c ≠ b ∧ Live (H.set b (some k1)) c) ∨ c = H.length := fun c hc => by
    obtain ⟨k, hk⟩ := Option.isSome_iff_exists.1 hc
    rcases hblk c k hk with ⟨h1, h2, h3⟩ | ⟨h1, _⟩
    · exact .inl ⟨h1, h2, by unfold Live; rw [h3]; rfl⟩
    · exact .inr h1
  have hlb : Live (H.set b (some k1)) b := by unfold Live; rw [Heap.blk_set hb, if_pos rfl]; rfl
  refine ⟨⟨hI.below, hI.base_le, hI.okLt, fun c y hy => ?_, fun c y hy => ?_, fun y c hy hs hl he => ?_, fun c d y hsc hsd hc hd h1 h2 => ?_, fun c k y hs hk hy => ?_⟩, hext⟩
  · rcases hinv c y hy with ⟨_, rfl⟩ | ⟨_, h⟩
    · exact hI.lo b y hx
    · exact hI.lo c y h
  · simp only [List.length_append, hlen, List.length_singleton]
    intro hle
    rcases hinv c y hy with ⟨rfl, _⟩ | ⟨_, h⟩
    · omega
    · exact hI.dom c y h (by rw [List.length_set]; omega)
  · rcases hinv c y he with ⟨_, rfl⟩ | ⟨hne', h⟩
    · exact hI.apart y b hy hsb hlb hx
    · rcases hlive c hl with ⟨_, _, h3⟩ | h3
      · exact hI.apart y c hy hs h3 h
      · exact hne' h3
  · rcases hinv c y h1 with ⟨rfl, rfl⟩ | ⟨hc', h1'⟩ <;> rcases hinv d _ h2 with ⟨rfl, e⟩ | ⟨hd', h2'⟩
    · rfl
    · rcases hlive d hd with ⟨_, h4, h5⟩ | h5
      · exact absurd (hI.inj d b y hsd hsb h5 hlb h2' hx) h4
      · exact absurd h5 hd'
    · subst e
      rcases hlive c hc with ⟨_, h4, h5⟩ | h5
      · exact absurd (hI.inj c b y hsc hsb h5 hlb h1' hx) h4
      · exact absurd h5 hc'
    · rcases hlive c hc with ⟨_, _, h5⟩ | h5
      · rcases hlive d hd with ⟨_, _, h6⟩ | h6
        · exact hI.inj c d y hsc hsd h5 h6 h1' h2'
        · exact absurd h6 hd'
      · exact absurd h5 hc'
  · rcases hblk c k hk with ⟨h1, h2, h3⟩ | ⟨rfl, rfl⟩
    · rcases hinv c y hy with ⟨e, _⟩ | ⟨_, h⟩
      · omega
      · exact (hI.own c k y hs h3 h).ext hext rfl
    · rcases hinv _ y hy with ⟨_, rfl⟩ | ⟨h, _⟩
      · exact ho.ext hext rfl
      · exact absurd rfl h

theorem size_zeroCells' (z : Array Value) (n : Nat) : (Builtin.zeroCells z n).size = n * z.size := size_zeroCells z n

theorem grown_len {sz : Nat} {n c : Nat} (h : n ≤ c) : n * sz + (c - n) * sz = c * sz := by rw [← Nat.add_mul]; congr 1; omega

theorem snd_app {args : Array Operand} {ts : Array TypeId} {vo : VOp} (hc : compOp P (.call ⟨.builtin .append, args, ts⟩) = some vo) (hE : Reps w ok ρ E ev) (hI : Inv base w0 w ok ρ S H)
    (he : evalOp vo (X.ev E) H = some (v, H')) (hS : ∀ b ∈ touchOp vo (X.ev E), S b) (hN : ∀ b, H.length ≤ b → b < H'.length → S b) : OpOk P base w0 w ok ρ S H (wtouchOp vo (X.ev E)) ev (.call ⟨.builtin .append, args, ts⟩) v H' := by
  simp only [compOp] at hc
  split at hc
  · rename_i x y t t' hargs hts
    obtain rfl : args = #[x, y] := Array.ext' (by simpa using hargs)
    obtain rfl : ts = #[t, t'] := Array.ext' (by simpa using hts)
    split at hc
    · rename_i e e' x' y' hu hu' hx hy
      split at hc
      · rename_i i hi
        split at hc
        · rename_i hcond
          obtain ⟨hz, rfl, hby⟩ := hcond
          obtain rfl := Option.some.inj hc
          obtain ⟨z, hz1, hz2⟩ : ∃ z, i.zero = some z ∧ z.cells.size = i.size := by
            obtain ⟨z, h1, h2⟩ := Option.map_eq_some_iff.1 hz
            exact ⟨z, h1, h2⟩
          simp only [evalOp] at he
          split at he
          · rename_i xs hxs
            split at he
            · rename_i hsz
              have hrx := hE x x' hx
              have hry := hE y y' hy
              simp only [touchOp, wtouchOp] at hS ⊢
              obtain ⟨a, capy, huy, hxl, hsrc⟩ := elems_reads hI (fun b hb => hS b (List.mem_append_right _ hb)) hry hxs hsz
              generalize X.ev E x' = vx at he hrx hS ⊢
              have hgo : ∀ (u : Value) (w' : World), (∀ ty, (Builtin.append_ #[t, t'] ty #[ev x, ev y]).run P w = .ok u w') → RunsTo P ev (.call ⟨.builtin .append, #[x, y], #[t, t']⟩) w u w' := fun u w' hr =>
                RunsTo.builtin (s := fun ty => Builtin.append_ #[t, t'] ty #[ev x, ev y]) (fun ty cs => by simp only [List.map_toArray, List.map_cons, List.map_nil]; rfl) hr
              have hbytes : ∀ n, n * i.bytes ≤ room → n ≤ 140737488355328 := fun n hn => Nat.le_trans (Nat.le_mul_of_pos_right n hby) hn
              generalize hux : ev x = ux at hrx
              cases hrx with
              | nilS ax =>
                simp only [appV] at he
                split at he
                · rename_i h0
                  simp only [Option.some.injEq, Prod.mk.injEq] at he
                  obtain ⟨rfl, rfl⟩ := he
                  refine .same (u := .slice ax 0 0) (hgo _ _ fun ty => ?_) hI (.nilS ax)
                  rw [hux, huy, h0]
                  exact run_append_nothing hu hu' hi _ _ 0 0 _ (Nat.le_refl _)
                · rename_i h0
                  split at he
                  · rename_i hroom
                    simp only [Option.some.injEq, Prod.mk.injEq] at he
                    obtain ⟨rfl, rfl⟩ := he
                    obtain ⟨ad, news, rfl, hs⟩ := hsrc h0
                    have hf : (Builtin.firstCells i.size 0 (.slice ax 0 0)).run P w.drew = .ok ([] : List Value).toArray w.drew := by
                      cases ax <;> simp [Builtin.firstCells, loadCells, loadCellsFrom]
                    have hr := fun ty => run_append_grows (P := P) (w := w) (ty := ty) hu hu' hi hz1 ax 0 0 [] hf ad xs.length capy news hs.size hs.read (by omega) (by rw [Nat.zero_add]; exact hroom) (by rw [Nat.zero_add]; exact hbytes _ hroom)
                    have hge := grownCap_ge w (0 + xs.length) 0 e
                    have hcm := grownCap_le_maxLen w (0 + xs.length) 0 e (by have := hbytes _ hroom; unfold maxLen; omega)
                    rw [Nat.zero_add] at hge hcm
                    refine ⟨_, _, ok, setRho ρ H.length w.heap.size, hgo _ _ fun ty => by rw [hux, huy, hr ty], ?_⟩
                    simp only [Nat.zero_add]
                    have hsize : (([] : List Value).toArray ++ news.toArray ++ Builtin.zeroCells z.cells (grownCap w xs.length 0 e - xs.length)).size = grownCap w xs.length 0 e * i.size := by
                      simp only [Array.size_append, List.size_toArray, List.length_nil, Nat.zero_add, size_zeroCells, hz2, hs.size]
                      exact grown_len hge
                    refine OpRes.newSlice hI (hN _ (Nat.le_refl _) (by simp [newBlk])) w.drew rfl hI.below.drew hsz hs.len (by rw [hsize]; exact Nat.mul_le_mul_right _ hge) (fun ii j c hcc => ?_) (Nat.le_refl _) hge hcm (by rw [hsize]; exact Nat.le_refl _)
                    obtain ⟨u, hu1, hr1⟩ := hs.rep ii j c hcc
                    refine ⟨u, ?_, hr1, hs.one u (List.mem_of_getElem? hu1)⟩
                    have hlt := (List.getElem?_eq_some_iff.1 hu1).1
                    rw [Array.getElem?_append_left (by simp; exact hlt)]
                    simpa using hu1
                  · cases he
              | d xx _ hd =>
                cases xx with
                | lit _ => simp [appV] at he
                | sl es =>
                  simp only [appV] at he
                  split at he
                  · rename_i h0
                    simp only [Option.some.injEq, Prod.mk.injEq] at he
                    obtain ⟨rfl, rfl⟩ := he
                    obtain ⟨a', cap', rfl, hle, hm⟩ := hd.cut
                    refine .same (u := .slice a' es.length cap') (hgo _ _ fun ty => ?_) hI (.d _ _ hd)
                    rw [hux, huy, h0]
                    exact run_append_nothing hu hu' hi _ _ _ _ _ hle
                  · cases he
              | ref b bsz off len cap g cap' hrr hlc hcc hmx hs0 hss =>
                simp only [appV] at he
                split at he
                · rename_i k hk
                  split at he
                  · rename_i hcond
                    obtain ⟨c1, c2, c3⟩ := hcond
                    subst c2
                    have hSb : S b := hS b (by simp [touchV])
                    have hown := hI.own b k g hSb hk hrr
                    obtain ⟨cur, hcur, hcs, hcells⟩ := hown.cells
                    obtain ⟨curs, Ts, fzs, hcurs, hcapsize⟩ := hss
                    rw [hcur] at hcurs
                    simp only [Option.some.injEq, Obj.cells.injEq] at hcurs
                    obtain ⟨rfl, _, _⟩ := hcurs
                    split at he
                    · rename_i h0
                      simp only [Option.some.injEq, Prod.mk.injEq] at he
                      obtain ⟨rfl, rfl⟩ := he
                      refine .same (u := ev x) (hgo _ _ fun ty => ?_) hI (by rw [hux]; exact .ref _ _ _ _ _ _ _ hrr hlc hcc hmx hs0 ⟨cur, _, _, hcur, hcapsize⟩)
                      rw [hux, huy, h0]
                      exact run_append_nothing hu hu' hi _ _ _ _ _ (by omega)
                    · rename_i h0
                      obtain ⟨ad, news, rfl, hs⟩ := hsrc h0
                      have hnl := hs.size
                      -- in place
                      have hplace : len + xs.length ≤ cap' → ∀ ty, (Builtin.append_ #[t, t'] ty #[ev x, ev y]).run P w = .ok (.slice (some ⟨g, off * i.size, none⟩) (len + xs.length) cap')
                          (w.setRow g (cur.toList.take ((off + len) * i.size) ++ news ++ cur.toList.drop ((off + len) * i.size + news.length)).toArray) := fun hle ty => by
                        have h2 : (off + (len + xs.length)) * i.size ≤ (off + cap') * i.size := Nat.mul_le_mul_right _ (by omega)
                        simp only [Nat.add_mul] at h2 hcapsize
                        rw [hux, huy]
                        have := run_append_fits (P := P) (w := w) (ty := ty) hu hu' hi g (off * i.size) len cap' cur hcur ad xs.length capy news hnl hs.read hs.one hle (by omega)
                        rw [this, Nat.add_mul]
                      have hfits : len + xs.length ≤ cap' → (off + len) * i.size + news.length ≤ cur.size ∧ (off + len + xs.length) * i.size ≤ cur.size := fun hle => by
                        have h2 : (off + (len + xs.length)) * i.size ≤ (off + cap') * i.size := Nat.mul_le_mul_right _ (by omega)
                        simp only [Nat.add_mul] at h2 hcapsize ⊢
                        omega
                      split at he
                      · rename_i hroom
                        split at he
                        · rename_i hin
                          simp only [Option.some.injEq, Prod.mk.injEq] at he
                          obtain ⟨rfl, rfl⟩ := he
                          obtain ⟨f1, f2⟩ := hfits (by omega)
                          rw [← c1] at hs f1 f2
                          refine ⟨_, _, ok, ρ, hgo _ _ (hplace (by omega)), ?_⟩
                          rw [← c1]
                          exact OpRes.splice hI hSb hk hrr (by simp [touchV]) hown cur hcur (off + len) hs f1 (by omega) f2 (.ref _ _ _ _ _ _ _ hrr hroom hcc hmx (by rw [c1]; exact hs0) ⟨cur, _, _, hcur, by rw [c1]; exact hcapsize⟩)
                        · cases he
                      · rename_i hroom
                        split at he
                        · rename_i hgrow
                          obtain ⟨rfl, hlen, hbound⟩ := hgrow
                          simp only [Option.some.injEq, Prod.mk.injEq] at he
                          obtain ⟨rfl, rfl⟩ := he
                          have hlt := Heap.blk_lt hk
                          by_cases hle : len + xs.length ≤ cap'
                          · -- there was room after all
                            obtain ⟨f1, f2⟩ := hfits hle
                            rw [← c1] at hs f1 f2
                            have hres := OpRes.splice hI hSb hk hrr (T := touchV (.ref b i.size 0 len cap)) (by simp [touchV]) hown cur hcur (0 + len) hs f1 (by omega) f2 (v := .undef) (u := undef) (.undef _)
                            have htl : (k.es.take (0 + len)).length = len := by simp; omega
                            have hown' := hres.inv.own b _ g hSb (by rw [Heap.blk_set hlt, if_pos rfl]) hrr
                            have hpre : ∀ ii j c, cellAt (k.es.take len ++ xs) ii j = some c → cellAt (k.es.take (0 + len) ++ xs ++ k.es.drop (0 + len + xs.length)) ii j = some c := fun ii j c hcc => by
                              obtain ⟨e', he', hj⟩ := cellAt_some hcc
                              rw [Nat.zero_add]
                              exact cellAt_of (by rw [List.getElem?_append_left (List.getElem?_eq_some_iff.1 he').1]; exact he') hj
                            have hlen2 : (k.es.take len ++ xs).length = len + xs.length := by simp; omega
                            have hmem : ∀ e' ∈ k.es.take len ++ xs, e'.length = k.sz := fun e' he' => by
                              rcases List.mem_append.1 he' with he' | he'
                              · exact hown.len e' (List.mem_of_mem_take he')
                              · exact hs.len e' he'
                            have hownNew : OwnAt (w.setRow g (cur.toList.take ((0 + len) * k.sz) ++ news ++ cur.toList.drop ((0 + len) * k.sz + news.length)).toArray) ok ρ g ⟨e, i.size, k.es.take len ++ xs⟩ := by
                              obtain ⟨cs', hcs', hsz', hcc'⟩ := hown'.cells
                              refine ⟨hsz, fun e' he' => by rw [hmem e' he', c1], cs', by rw [← c3]; exact hcs', ?_, fun ii j c hcc => ?_⟩
                              · simp only
                                rw [hlen2, ← c1]
                                refine Nat.le_trans (Nat.mul_le_mul_right _ ?_) hsz'
                                simp only [List.length_append, htl]; omega
                              · have := hcc' ii j c (hpre ii j c hcc)
                                simp only at this ⊢
                                have e1 : ii * i.size + j = ii * k.sz + j := by rw [c1]
                                rw [e1]
                                exact this
                            obtain ⟨m1, m2⟩ := Inv.moved (k' := ⟨e, i.size, k.es.take len ++ xs⟩) hres.inv hSb (hN _ (Nat.le_refl _) (by simp [newBlk])) hownNew hlt hrr
                            have hrun := hplace hle
                            rw [← c1] at hrun
                            refine ⟨_, _, ok, setRho ρ H.length g, hgo _ _ hrun, ⟨m1, ?_, hres.ext.trans m2, fun c y hy hcl => ?_, fun c hc1 hc2 => ?_, hres.frame, fun _ h => .inl h, fun c y hy => ?_, fun c y hy => ?_⟩⟩
                            · have h0 : 0 * k.sz = 0 * i.size := by omega
                              obtain ⟨c', fz', h1, h2⟩ := hres.ext.shape g cur k.ty (0, 0) hcur
                              have := VRep.ref (w := w.setRow g (cur.toList.take ((0 + len) * k.sz) ++ news ++ cur.toList.drop ((0 + len) * k.sz + news.length)).toArray) (ok := ok) (ρ := setRho ρ H.length g) H.length i.size 0 (len + xs.length) (len + xs.length) g cap' (by unfold setRho; rw [if_pos rfl]) (Nat.le_refl _) hle hmx hsz ⟨c', _, _, h1, by rw [h2]; exact hcapsize⟩
                              rw [h0]
                              exact this
                            · unfold setRho at hy; rw [if_neg (by omega)] at hy; exact hy
                            · simp [newBlk] at hc2
                              obtain rfl : c = H.length := by omega
                              exact ⟨g, by unfold setRho; rw [if_pos rfl]⟩
                            · unfold setRho at hy
                              split at hy
                              · rename_i e0; subst e0; exact .inr ⟨Nat.le_refl _, by simp [newBlk]⟩
                              · exact .inl hy
                            · unfold setRho at hy
                              split at hy
                              · obtain rfl := Option.some.inj hy
                                exact .inr (.inr ⟨b, by simp [touchV], hrr, by unfold Live; rw [hk]; rfl⟩)
                              · exact .inl hy
                          · -- a new block
                            have hkill := hI.kill hlt
                            have hbl := hbytes _ hbound
                            have holdl : (cur.toList.take (len * i.size)).length = len * i.size := by
                              simp only [List.length_take, Array.length_toList]
                              have : len * i.size ≤ k.es.length * i.size := Nat.mul_le_mul_right _ hlen
                              rw [c1] at hcs; omega
                            have hf : (Builtin.firstCells i.size len (.slice (some ⟨g, 0 * i.size, none⟩) len cap')).run P w.drew = .ok (cur.toList.take (len * i.size)).toArray w.drew := by
                              refine run_firstCells_some (P := P) w.drew i.size len _ len cap' _ holdl fun j u hu => ?_
                              rw [Nat.zero_mul, Addr.add_plain, Nat.zero_add, World.cell?_drew, cell_of_row w g _ cur _ _ hcur]
                              rw [List.getElem?_take] at hu
                              split at hu
                              · simpa using hu
                              · cases hu
                            have hr := fun ty => run_append_grows (P := P) (w := w) (ty := ty) hu hu' hi hz1 (some ⟨g, 0 * i.size, none⟩) len cap' _ hf ad xs.length capy news hs.size hs.read (by omega) hbound hbl
                            have hge := grownCap_ge w (len + xs.length) cap' e
                            have hcm := grownCap_le_maxLen w (len + xs.length) cap' e (by unfold maxLen; omega)
                            have hsize : ((cur.toList.take (len * i.size)).toArray ++ news.toArray ++ Builtin.zeroCells z.cells (grownCap w (len + xs.length) cap' e - (len + xs.length))).size = grownCap w (len + xs.length) cap' e * i.size := by
                              simp only [Array.size_append, List.size_toArray, holdl, hnl, size_zeroCells, hz2]
                              rw [← Nat.add_mul]; exact grown_len hge
                            have hlen2 : (k.es.take len ++ xs).length = len + xs.length := by simp; omega
                            have hll : (H.set b none).length = H.length := List.length_set
                            have hres := OpRes.newSlice (T := touchV (.ref b i.size 0 len cap)) (ty := e) (es := k.es.take len ++ xs) (len := len + xs.length) (vcap := len + xs.length) hkill (by rw [List.length_set]; exact hN _ (Nat.le_refl _) (by simp [newBlk])) w.drew rfl hI.below.drew hsz
                              (fun e' he' => by
                                rcases List.mem_append.1 he' with he' | he'
                                · rw [← c1]; exact hown.len e' (List.mem_of_mem_take he')
                                · exact hs.len e' he')
                              (by rw [hsize, hlen2]; exact Nat.mul_le_mul_right _ hge)
                              (fun ii j c hcc => by
                                obtain ⟨e', he', hj⟩ := cellAt_some hcc
                                by_cases hii : ii < len
                                · rw [List.getElem?_append_left (by simp; omega), List.getElem?_take, if_pos hii] at he'
                                  obtain ⟨u, hu1, hr1, ho1⟩ := hcells ii j c (cellAt_of he' hj)
                                  rw [c1] at hu1
                                  have hjs : j < i.size := by rw [← c1, ← hown.len e' (List.mem_of_getElem? he')]; exact (List.getElem?_eq_some_iff.1 hj).1
                                  have hlt2 := idx_lt (sz := i.size) hii hjs
                                  refine ⟨u, ?_, hr1, ho1⟩
                                  rw [Array.append_assoc, Array.getElem?_append_left (by simp only [List.size_toArray]; omega)]
                                  simp only [List.getElem?_toArray]
                                  rw [List.getElem?_take, if_pos hlt2]
                                  simpa using hu1
                                · have htl : (k.es.take len).length = len := by simp; omega
                                  rw [List.getElem?_append_right (by omega), htl] at he'
                                  obtain ⟨u, hu1, hr1⟩ := hs.rep _ j c (cellAt_of he' hj)
                                  refine ⟨u, ?_, hr1, hs.one u (List.mem_of_getElem? hu1)⟩
                                  have hidx : (ii - len) * i.size + len * i.size = ii * i.size := by rw [← Nat.add_mul]; congr 1; omega
                                  have hlt2 := (List.getElem?_eq_some_iff.1 hu1).1
                                  rw [Array.append_assoc, Array.getElem?_append_right (by simp only [List.size_toArray]; omega), Array.getElem?_append_left (by simp only [List.size_toArray]; omega)]
                                  simp only [List.size_toArray, List.getElem?_toArray, holdl]
                                  rw [show ii * i.size + j - len * i.size = (ii - len) * i.size + j from by omega]
                                  exact hu1)
                              (Nat.le_refl _) hge hcm (by rw [hsize]; exact Nat.le_refl _)
                            rw [hll] at hres
                            refine ⟨_, _, ok, setRho ρ H.length w.heap.size, hgo _ _ fun ty => by rw [hux, huy, hr ty], ?_⟩
                            exact ⟨hres.inv, hres.rep, hres.ext, fun c y hy hcl => hres.old c y hy (by rw [hll]; exact hcl), fun c h1 h2 => hres.all c (by rw [hll]; exact h1) h2, fun y hy hT => hres.frame y hy fun b0 h0 hl0 => hT b0 h0 (by
                              unfold Live at hl0 ⊢
                              rw [Heap.blk_set hlt] at hl0
                              split at hl0
                              · simp at hl0
                              · exact hl0), hres.fresh, fun c y hy => by have := hres.newb c y hy; rw [hll] at this; exact this, fun c y hy => by
                              rcases hres.newx c y hy with h | h | ⟨b0, h1, h2, h3⟩
                              · exact .inl h
                              · exact .inr (.inl h)
                              · refine .inr (.inr ⟨b0, h1, h2, ?_⟩)
                                unfold Live at h3 ⊢
                                rw [Heap.blk_set hlt] at h3
                                split at h3
                                · simp at h3
                                · exact h3⟩
                        · cases he
                  · cases he
                · cases he
              | _ => simp [appV] at he
            · cases he
          · cases he
        · cases hc
      · cases hc
    · cases hc
  · cases hc
end
end Go.VM
