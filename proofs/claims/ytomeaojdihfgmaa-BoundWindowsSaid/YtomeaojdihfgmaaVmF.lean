/- What came in, as data: from the reading of an argument to what the evaluator takes. -/
import Derived.Test.YtomeaojdihfgmaaVmE
import Derived.ChangeArms
import Derived.ChangeOld
import Derived.DataReads
import Derived.DataElems
import Derived.ProofKit
namespace Go.VM
open Go.RowKit
set_option linter.unusedVariables false
set_option linter.unusedSimpArgs false
set_option linter.unusedSectionVars false

def tile (P : Program) : Nat → List Field → Option Nat
  | off, [] => some off
  | off, f :: r => if f.offset = off then tile P (off + P.cellsOf f.type) r else none

/-- numbers, truth values, strings, and slices, structs and arrays of such -/
def plainT (P : Program) : Nat → TypeId → Bool
  | 0, _ => false
  | n + 1, t => match P.underlying t with
    | some .bool | some (.int _) | some .string => true
    | some (.slice e) => decide (0 < P.cellsOf e) && plainT P n e
    | some (.struct fs) => tile P 0 fs.toList == some (P.cellsOf t) && fs.toList.all fun f => plainT P n f.type
    | some (.array m e) => decide (m * P.cellsOf e = P.cellsOf t) && plainT P n e
    | _ => false

/-- data of a type: its cells -/
def Shape (P : Program) : Nat → TypeId → List D → Prop
  | 0, _, _ => False
  | n + 1, t, ds => match P.underlying t with
    | some .bool => ∃ b, ds = [.lit (.bool b)]
    | some (.int k) => ∃ x, ds = [.lit (.int k x)] ∧ (Lit.int k x).wf = true
    | some .string => ∃ s : ByteArray, ds = [.lit (.string s)] ∧ s.size ≤ maxLen
    | some (.slice e) => ∃ es, ds = [.sl es] ∧ es.length ≤ maxLen ∧ ∀ x ∈ es, x.length = P.cellsOf e ∧ Shape P n e x
    | some (.struct fs) => ds.length = P.cellsOf t ∧ ∀ f ∈ fs.toList, Shape P n f.type ((ds.drop f.offset).take (P.cellsOf f.type))
    | some (.array m e) => ds.length = P.cellsOf t ∧ ∀ i, i < m → Shape P n e ((ds.drop (i * P.cellsOf e)).take (P.cellsOf e))
    | _ => False

section
variable {H : Type} {enc : TypeId × Value → H} {P : Program} {w : World} {base : Nat} {spare : Nat → Bool} {held : Bool}

def Fits (w : World) (ok : Nat → Prop) (ds : List D) (cs : List Value) : Prop := ds.length = cs.length ∧ ∀ (j : Nat) x u, ds[j]? = some x → cs[j]? = some u → DRep w ok x u

theorem fits_one {ok : Nat → Prop} {x : D} {u : Value} (h : DRep w ok x u) : Fits w ok [x] [u] := ⟨rfl, fun j y v hy hv => by
  cases j with
  | zero => simp at hy hv; subst hy; subst hv; exact h
  | succ j => simp at hy⟩

theorem mapM_at {α β : Type} {f : α → Option β} : ∀ {l : List α} {r : List β}, l.mapM f = some r → ∀ x ∈ l, ∃ y, f x = some y
  | [], r, h, x, hx => by cases hx
  | a :: l, r, h, x, hx => by
    rw [List.mapM_cons] at h
    cases ha : f a with
    | none => rw [ha] at h; simp at h
    | some y =>
      rw [ha] at h
      cases hl : l.mapM f with
      | none => rw [hl] at h; simp at h
      | some ys =>
        rcases List.mem_cons.1 hx with rfl | hx'
        · exact ⟨y, ha⟩
        · exact mapM_at hl x hx'

/-- fields, one behind the other -/
theorem tiled {ok : Nat → Prop} {n : Nat} {cs : List Value} : ∀ (L : List Field) (off e : Nat), tile P off L = some e → e ≤ cs.length →
    (∀ f ∈ L, ∃ ds, Fits w ok ds ((cs.drop f.offset).take (P.cellsOf f.type)) ∧ Shape P n f.type ds) →
    off ≤ e ∧ ∃ ds : List D, ds.length = e - off ∧ (∀ (j : Nat) x u, ds[j]? = some x → cs[off + j]? = some u → DRep w ok x u) ∧ ∀ f ∈ L, off ≤ f.offset ∧ Shape P n f.type ((ds.drop (f.offset - off)).take (P.cellsOf f.type))
  | [], off, e, h, hl, hf => by
    simp only [tile, Option.some.injEq] at h
    subst h
    exact ⟨Nat.le_refl _, [], by simp, fun j x u h => by simp at h, fun f hf => by cases hf⟩
  | f :: L, off, e, h, hl, hf => by
    simp only [tile] at h
    split at h
    · rename_i ho
      obtain ⟨hle, ds, h1, h2, h3⟩ := tiled L _ e h hl fun g hg => hf g (List.mem_cons_of_mem _ hg)
      obtain ⟨df, ⟨g1, g2⟩, g3⟩ := hf f (by simp)
      have hdf : df.length = P.cellsOf f.type := by rw [g1]; simp; omega
      refine ⟨by omega, df ++ ds, by simp [h1, hdf]; omega, fun j x u hx hu => ?_, fun g hg => ?_⟩
      · by_cases hj : j < df.length
        · rw [List.getElem?_append_left hj] at hx
          refine g2 j x u hx ?_
          rw [List.getElem?_take, if_pos (by omega), List.getElem?_drop, ho]; exact hu
        · rw [List.getElem?_append_right (by omega)] at hx
          refine h2 (j - df.length) x u hx ?_
          rw [← hu]; congr 1; omega
      · rcases List.mem_cons.1 hg with rfl | hg
        · refine ⟨by omega, ?_⟩
          rw [ho, Nat.sub_self, List.drop_zero, ← hdf, List.take_left]
          exact g3
        · obtain ⟨k1, k2⟩ := h3 g hg
          refine ⟨by omega, ?_⟩
          rw [List.drop_append, List.drop_eq_nil_of_le (by omega), List.nil_append, show g.offset - off - df.length = g.offset - (off + P.cellsOf f.type) from by omega]
          exact k2
    · cases h
/-- elements of an array, one behind the other -/
theorem tiledArr {ok : Nat → Prop} {n s : Nat} {e : TypeId} {cs : List Value} : ∀ (m : Nat), m * s ≤ cs.length →
    (∀ i, i < m → ∃ ds, Fits w ok ds ((cs.drop (i * s)).take s) ∧ Shape P n e ds) →
    ∃ ds : List D, ds.length = m * s ∧ (∀ (j : Nat) x u, ds[j]? = some x → cs[j]? = some u → DRep w ok x u) ∧ ∀ i, i < m → Shape P n e ((ds.drop (i * s)).take s)
  | 0, hl, hf => ⟨[], by simp, fun j x u h => by simp at h, fun i hi => by omega⟩
  | m + 1, hl, hf => by
    rw [Nat.add_mul, Nat.one_mul] at hl
    obtain ⟨ds, h1, h2, h3⟩ := tiledArr m (by omega) fun i hi => hf i (by omega)
    obtain ⟨df, ⟨g1, g2⟩, g3⟩ := hf m (by omega)
    have hdf : df.length = s := by rw [g1]; simp; omega
    refine ⟨ds ++ df, by simp [h1, hdf, Nat.add_mul], fun j x u hx hu => ?_, fun i hi => ?_⟩
    · by_cases hj : j < ds.length
      · rw [List.getElem?_append_left hj] at hx; exact h2 j x u hx hu
      · rw [List.getElem?_append_right (by omega)] at hx
        have := (List.getElem?_eq_some_iff.1 hx).1
        refine g2 _ x u hx ?_
        rw [List.getElem?_take, if_pos (by omega), List.getElem?_drop, ← hu]; congr 1; omega
    · by_cases him : i < m
      · have hle : i * s + s ≤ m * s := by rw [← Nat.succ_mul]; exact Nat.mul_le_mul_right _ him
        rw [List.drop_append_of_le_length (by omega), List.take_append_of_le_length (by simp; omega)]
        exact h3 i him
      · obtain rfl : i = m := by omega
        rw [← h1, List.drop_left, ← hdf, List.take_length]
        exact g3

theorem trod_D : ∀ (fuel k : Nat) (t : TypeId) (cs : List Value) (x : DataW H × List MemPlace), DataW.trod enc P w base spare held fuel t cs = some x → plainT P k t = true →
    ∃ ds, Fits w (fun b => b < w.heap.size) ds cs ∧ Shape P fuel t ds
  | 0, k, t, cs, x, h, hp => by simp [DataW.trod] at h
  | fuel + 1, 0, t, cs, x, h, hp => by simp [plainT] at hp
  | fuel + 1, k + 1, t, cs, x, h, hp => by
    have ih := trod_D fuel k
    cases hu : P.underlying t with
    | none => simp [plainT, hu] at hp
    | some d =>
      simp only [plainT, hu] at hp
      simp only [Shape, hu]
      cases d with
      | bool =>
        rcases cs with _ | ⟨c, _ | ⟨c2, r⟩⟩
        · simp [DataW.trod, hu] at h
        · cases c <;> simp [DataW.trod, hu] at h
          rename_i b
          exact ⟨_, fits_one (.lit _ rfl), b, rfl⟩
        · simp [DataW.trod, hu] at h
      | int kd =>
        rcases cs with _ | ⟨c, _ | ⟨c2, r⟩⟩
        · simp [DataW.trod, hu] at h
        · cases c <;> simp [DataW.trod, hu] at h
          rename_i k' n
          obtain ⟨⟨rfl, hw⟩, _⟩ := h
          exact ⟨_, fits_one (.lit _ rfl), n, rfl, hw⟩
        · simp [DataW.trod, hu] at h
      | string =>
        rcases cs with _ | ⟨c, _ | ⟨c2, r⟩⟩
        · simp [DataW.trod, hu] at h
        · cases c <;> simp [DataW.trod, hu] at h
          rename_i s0
          exact ⟨_, fits_one (.lit _ rfl), s0, rfl, h.1⟩
        · simp [DataW.trod, hu] at h
      | slice e =>
        simp only [Bool.and_eq_true, decide_eq_true_eq] at hp
        rcases DataW.trod_slice hu h with ⟨rfl, _⟩ | ⟨a, len, cap, elems, rest, n, hn, rfl, _, _, hlc, hcap, hel, hat, _⟩
        · exact ⟨_, fits_one (.sl0 none 0 (by unfold maxLen; omega)), [], rfl, by simp, fun x hx => by cases hx⟩
        · obtain rfl : fuel = n := by omega
          by_cases hl0 : len = 0
          · subst hl0
            exact ⟨_, fits_one (.sl0 (some a) cap hcap), [], rfl, by simp, fun x hx => by cases hx⟩
          · have hone : ∀ i, ∃ cs : List Value, ∃ ds : List D, i < len → (w.cells? base (a.add (i * P.cellsOf e)) (P.cellsOf e)) = some cs ∧ Fits w (fun b => b < w.heap.size) ds cs ∧ Shape P fuel e ds := fun i => by
              by_cases hi : i < len
              · have h1 := hat i hi
                rw [List.getElem?_eq_getElem (by omega)] at h1
                obtain ⟨cs, hcs, htr⟩ := Option.bind_eq_some_iff.1 h1
                obtain ⟨ds, hf, hs⟩ := ih e cs _ htr hp.2
                exact ⟨cs, ds, fun _ => ⟨hcs, hf, hs⟩⟩
              · exact ⟨[], [], fun h => absurd h hi⟩
            let cf : Nat → List Value := fun i => Classical.choose (hone i)
            let df : Nat → List D := fun i => Classical.choose (Classical.choose_spec (hone i))
            have hcd : ∀ i, i < len → (w.cells? base (a.add (i * P.cellsOf e)) (P.cellsOf e)) = some (cf i) ∧ Fits w (fun b => b < w.heap.size) (df i) (cf i) ∧ Shape P fuel e (df i) := fun i => Classical.choose_spec (Classical.choose_spec (hone i))
            have hlen : ∀ i, i < len → (df i).length = P.cellsOf e := fun i hi => by
              obtain ⟨h1, h2, _⟩ := hcd i hi
              obtain ⟨_, hl, _⟩ := World.cells?_some h1
              rw [h2.1, hl]
            have hblk : a.block < w.heap.size := by
              have := World.cells?_block (hcd 0 (by omega)).1 hp.1
              rwa [Addr.add_block] at this
            have hcell : ∀ i j d, cellAt ((List.range len).map df) i j = some d → i < len ∧ (df i)[j]? = some d := fun i j d hcc => by
              obtain ⟨x, hx, hj⟩ := cellAt_some hcc
              have hi : i < len := by have := (List.getElem?_eq_some_iff.1 hx).1; simpa using this
              simp [hi] at hx
              subst hx
              exact ⟨hi, hj⟩
            have hrow := DRep.sl (w := w) (ok := fun b => b < w.heap.size) ((List.range len).map df) (P.cellsOf e) a cap (fun i j => ((cf i)[j]?).getD undef) hp.1 (fun x hx => by
              obtain ⟨i, hi, rfl⟩ := List.mem_map.1 hx
              exact hlen i (by simpa using hi)) (by simpa using hlc) hcap hblk (fun i j d hcc => by
              obtain ⟨hi, hj⟩ := hcell i j d hcc
              obtain ⟨h1, h2, _⟩ := hcd i hi
              obtain ⟨_, hl, hc⟩ := World.cells?_some h1
              have hjl : j < P.cellsOf e := by rw [← hlen i hi]; exact (List.getElem?_eq_some_iff.1 hj).1
              have h3 := hc j hjl
              have h4 : (cf i)[j]? = some ((cf i)[j]'(by omega)) := List.getElem?_eq_getElem (by omega)
              rw [Addr.add_add] at h3
              rw [h3, h4]; rfl) (fun i j d hcc => by
              obtain ⟨hi, hj⟩ := hcell i j d hcc
              obtain ⟨h1, h2, _⟩ := hcd i hi
              obtain ⟨_, hl, _⟩ := World.cells?_some h1
              have hjl : j < P.cellsOf e := by rw [← hlen i hi]; exact (List.getElem?_eq_some_iff.1 hj).1
              have h4 : (cf i)[j]? = some ((cf i)[j]'(by omega)) := List.getElem?_eq_getElem (by omega)
              rw [h4]
              exact h2.2 j d _ hj h4)
            rw [List.length_map, List.length_range] at hrow
            refine ⟨_, fits_one hrow, _, rfl, by simp; omega, fun x hx => ?_⟩
            obtain ⟨i, hi, rfl⟩ := List.mem_map.1 hx
            have hi' : i < len := by simpa using hi
            exact ⟨hlen i hi', (hcd i hi').2.2⟩
      | struct fs =>
        simp only [Bool.and_eq_true, beq_iff_eq, List.all_eq_true] at hp
        simp only [DataW.trod, hu] at h
        split at h
        · rename_i hl
          obtain ⟨xs, hxs, _⟩ := Option.map_eq_some_iff.1 h
          obtain ⟨_, ds, h1, h2, h3⟩ := tiled (w := w) (ok := fun b => b < w.heap.size) (n := fuel) (cs := cs) fs.toList 0 _ hp.1 (by omega) fun f hf => by
            obtain ⟨y, hy⟩ := mapM_at hxs f hf
            exact ih f.type _ y hy (hp.2 f hf)
          refine ⟨ds, ⟨by rw [h1, hl]; rfl, fun j x u hx hu => h2 j x u hx (by rw [Nat.zero_add]; exact hu)⟩, by rw [h1]; rfl, fun f hf => ?_⟩
          have := (h3 f hf).2
          rwa [Nat.sub_zero] at this
        · cases h
      | array m e =>
        simp only [Bool.and_eq_true, decide_eq_true_eq] at hp
        simp only [DataW.trod, hu] at h
        split at h
        · rename_i hl
          obtain ⟨xs, hxs, _⟩ := Option.map_eq_some_iff.1 h
          obtain ⟨ds, h1, h2, h3⟩ := tiledArr (w := w) (ok := fun b => b < w.heap.size) (n := fuel) (s := P.cellsOf e) (e := e) (cs := cs) m (by omega) fun i hi => by
            obtain ⟨y, hy⟩ := mapM_at hxs i (by simpa using hi)
            exact ih e _ y hy hp.2
          exact ⟨ds, ⟨by rw [h1, hl, hp.1], h2⟩, by rw [h1, hp.1], h3⟩
        · cases h
      | _ => simp at hp
end
end Go.VM
/- A law: from the row's statement to the evaluator's run, and back. -/
namespace Go.VM
open Go.RowKit Go.ChangeShapes Go.WideShapes Go.ChangeAt
set_option linter.unusedVariables false
set_option linter.unusedSimpArgs false
set_option linter.unusedSectionVars false

section
variable {H : Type} {enc : TypeId × Value → H} {P : Program} {W W' : World}

/-- an argument as the evaluator takes it -/
def ShapeV (P : Program) (n : Nat) (t : TypeId) (x : V) : Prop :=
  match P.underlying t with
  | some (.struct _) | some (.array _ _) => ∃ ds : List D, x = .agg (ds.map .d) ∧ Shape P n t ds
  | _ => ∃ d : D, x = .d d ∧ Shape P n t [d]

theorem fits_single {ok : Nat → Prop} {ds : List D} {u : Value} (h : Fits W ok ds [u]) : ∃ x, ds = [x] ∧ DRep W ok x u := by
  obtain ⟨h1, h2⟩ := h
  match ds, h1 with
  | [x], _ => exact ⟨x, rfl, h2 0 x u rfl rfl⟩

theorem arg_V {k : Nat} {t : TypeId} {v : Value} {d : DataW H} {ps : List MemPlace} {sp : Nat → Bool} {held : Bool} {base : Nat} (hp : plainT P k t = true) (h : DataW.Trod enc P W 0 sp held t v d ps) (hval : Value.okWide P W .any base t v) :
    ∃ x n, VRep W (fun b => b < W.heap.size) (fun _ => none) x v ∧ ShapeV P n t x := by
  obtain ⟨fuel, hf⟩ := h
  obtain ⟨ds, hfit, hsh⟩ := trod_D fuel k t _ _ hf hp
  cases k with
  | zero => simp [plainT] at hp
  | succ k =>
    have hagg : ∀ (cs : Array Value), v = .agg cs → ∃ x, VRep W (fun b => b < W.heap.size) (fun _ => none) x v ∧ ∃ ds : List D, x = .agg (ds.map .d) ∧ Shape P fuel t ds := fun cs e => by
      subst e
      refine ⟨_, .agg (ds.map .d) cs (by rw [List.length_map, hfit.1]; rfl) fun j x u hx hu => ?_, ds, rfl, hsh⟩
      rw [List.getElem?_map, Option.map_eq_some_iff] at hx
      obtain ⟨y, hy, rfl⟩ := hx
      exact .d _ _ (hfit.2 j y u hy (by simpa [Value.cells] using hu))
    have hone : v.cells.toList = [v] → ∃ x, VRep W (fun b => b < W.heap.size) (fun _ => none) x v ∧ ∃ d : D, x = .d d ∧ Shape P fuel t [d] := fun e => by
      rw [e] at hfit
      obtain ⟨x, rfl, hx⟩ := fits_single hfit
      exact ⟨_, .d _ _ hx, x, rfl, hsh⟩
    cases hu : P.underlying t with
    | none => simp [plainT, hu] at hp
    | some td =>
      simp only [Value.okWide, hu] at hval
      simp only [ShapeV, hu]
      cases td with
      | struct fs =>
        obtain ⟨cs, rfl, _⟩ := hval
        obtain ⟨x, h1, h2⟩ := hagg cs rfl
        exact ⟨x, fuel, h1, h2⟩
      | array m e =>
        obtain ⟨cs, rfl, _⟩ := hval
        obtain ⟨x, h1, h2⟩ := hagg cs rfl
        exact ⟨x, fuel, h1, h2⟩
      | bool | int _ | string | slice _ =>
        simp only [Cell.okWide, hu] at hval
        have : v.cells.toList = [v] := by
          cases v <;> first
            | rfl
            | (exfalso; simp [Cell.ok, hu] at hval)
        obtain ⟨x, h1, h2⟩ := hone this
        exact ⟨x, fuel, h1, h2⟩
      | _ => simp [plainT, hu] at hp

/-- arguments read behind a call as they did -/
theorem trodAll_stays (hl : laidOutB P = true) (hb : Below W.heap.size W W') {sp : Nat → Bool} : ∀ {ts : List TypeId} {vs : List Value} {ds : List (DataW H)} {p : List MemPlace}, (∀ t ∈ ts, P.readableRec t = true ∧ t < P.types.size) →
    DataW.TrodAll enc P W 0 (fun _ => true) true ts vs ds p → (∀ x ∈ p, x.block < W.heap.size) → (∀ x ∈ p, sp x.block = true) → DataW.TrodAll enc P W' 0 sp true ts vs ds p
  | [], [], [], p, _, h, _, _ => h
  | t :: ts, v :: vs, d :: ds, p, ht, h, hlt, hsp => by
    obtain ⟨a, b, h1, h2, rfl⟩ := h
    obtain ⟨hr, hrow⟩ := ht t (by simp)
    exact ⟨a, b, WideElems.Trod_stays hl hr hrow h1 (fun x hx => hb.same (hlt x (List.mem_append_left _ hx))) (fun x hx => hsp x (List.mem_append_left _ hx)),
      trodAll_stays hl hb (fun t h => ht t (by simp [h])) h2 (fun x hx => hlt x (List.mem_append_right _ hx)) (fun x hx => hsp x (List.mem_append_right _ hx)), rfl⟩
  | [], [], _ :: _, _, _, h, _, _ => by simp [DataW.TrodAll] at h
  | [], _ :: _, _, _, _, h, _, _ => by simp [DataW.TrodAll] at h
  | _ :: _, [], _, _, _, h, _, _ => by simp [DataW.TrodAll] at h
  | _ :: _, _ :: _, [], _, _, h, _, _ => by simp [DataW.TrodAll] at h

/-- a law returned true, and nothing that was there has turned -/
theorem law_post {f : Func} {s : ChangeSpec} {apart fresh handsOn again : Bool} {args : Array Value} {ds gs : List (DataW H)} {before : List MemPlace} {tb : TypeId} (hl : laidOutB P = true) (hpar : ∀ t ∈ f.params.toList, P.readableRec t = true ∧ t < P.types.size)
    (hrt : f.resultTypes = #[tb]) (hub : P.underlying tb = some .bool) (hvars : s.vars = []) (hs : s.fn H (ds ++ gs) = { results := [.lit (.bool true)], args := ds })
    (hW : DataW.Whole enc P f.params.toList s.vars apart W args.toList ds gs before) (hb : Below W.heap.size W W') : s.post enc P f apart fresh handsOn again W args (.bool true) W' := by
  have hlt : ∀ p ∈ before, p.block < W.heap.size := fun p hp => hW.lt p hp
  have hW0 := hW
  obtain ⟨p, q, hA, hV, rfl, hz, hn⟩ := hW
  have hq : q = [] := by
    rw [hvars] at hV
    cases gs with
    | nil => exact hV
    | cons => simp [DataW.TrodVars] at hV
  subst hq
  rw [List.append_nil] at *
  have hres : ∀ (b : Nat) (sp : Nat → Bool) (hd : Bool), DataW.TrodAll enc P W' b sp hd f.resultTypes.toList ((Value.bool true).resultList f.resultTypes.size) (s.fn H (ds ++ gs)).results [] := fun b sp hd => by
    rw [hs, hrt]; exact trodAll_mk1 (shut_bool hub true)
  have hargs : ∀ sp : Nat → Bool, (∀ x ∈ p, sp x.block = true) → DataW.TrodAll enc P W' 0 sp true f.params.toList args.toList (s.fn H (ds ++ gs)).args p := fun sp hsp => by
    rw [hs]; exact trodAll_stays hl hb hpar hA hlt hsp
  have hvs : ∀ sp : Nat → Bool, DataW.TrodVars enc P W' sp s.vars (s.fn H (ds ++ gs)).vars [] := fun sp => by
    rw [hs, hvars]; simp [DataW.TrodVars]
  have hold : ∀ x ∈ p, (fun b => decide (b < W.heap.size)) x.block = true := fun x hx => by simpa using hlt x hx
  have hok : ∀ (j : Nat) (t : TypeId) (r : Value), f.resultTypes[j]? = some t → ((Value.bool true).resultList f.resultTypes.size)[j]? = some r → Value.okWide P W' .any 0 t r := ok_one hrt rfl (okWide_bool_mk hub true)
  refine ⟨ds, gs, p, [], p, [], hW0, hres _ _ _, hargs _ hold, hvs _, hb.frame _, fun _ => ⟨hok, _, _, ([] ++ p) ++ [], ⟨[] ++ p, [], trodAll_append (hargs _ (fun _ _ => rfl)) (hres _ _ _), hvs _, rfl, ?_, ?_⟩, ?_⟩⟩
  · intro b off hp
    simp only [List.nil_append, List.append_nil] at hp
    rw [hb.frozen (p := ⟨b, off, none⟩) (hlt _ hp)]
    exact hz b off hp
  · intro ha
    simpa using hn ha
  · intro x hx _
    simpa using hx

/-- the evaluator's run of a law is the model's -/
theorem law_run {O : Calls'} (hO : CallOk P O) {f : Nat} {vs : List V} {vals : Array Value} {H1 : Heap} (hrun : O.run f vs [] = some (V.bool true, H1)) (hlen : vs.length = vals.size)
    (hrep : ∀ (j : Nat) x u, vs[j]? = some x → vals[j]? = some u → VRep W (fun b => b < W.heap.size) (fun _ => none) x u) : Calls P f vals W fun e W' => e = .returned (.bool true) ∧ Below W.heap.size W W' := by
  obtain ⟨_, _, h⟩ := hO f vs [] _ H1 hrun
  have hI0 : Inv W.heap.size W W (fun b => b < W.heap.size) (fun _ => none) (fun _ => True) [] := by
    refine ⟨Below.refl _ _, Nat.le_refl _, fun _ h => h, ?_, ?_, ?_, ?_, ?_⟩
    · intro _ _ h; cases h
    · intro _ _ h; cases h
    · intro _ _ _ _ _ h; cases h
    · intro _ _ _ _ _ _ _ h; cases h
    · intro _ _ _ _ _ h; cases h
  refine (h W.heap.size W W _ _ _ vals hI0 (fun _ _ => trivial) (.inr fun _ => trivial) (fun _ _ _ => trivial) hlen hrep).mono ?_
  rintro e w' ⟨u, ok', ρ', rfl, hres⟩
  refine ⟨?_, hres.inv.below⟩
  have := hres.rep.lit_inv
  rw [this]
end
end Go.VM
