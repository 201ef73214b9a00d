/- Regions whose order the model draws: whatever the order is, they come to what the order of the text comes to. -/
import Derived.Test.YtomeaojdihfgmaaVmC
namespace Go.VM
open Go.RowKit
set_option linter.unusedVariables false
set_option linter.unusedSimpArgs false
set_option linter.unusedSectionVars false

def slotsX (xs : List X) : List Nat := xs.filterMap fun x => match x with | .t n => some n | .c _ => none
/-- the slots that an operation looks at -/
def looks (all : List VOper) (o : VOper) : List Nat := slotsX o.op.xs ++ (match o.guard with | some (g, _) => (match all[g]? with | some p => p.dst.toList | none => []) | none => [])

/-- what is asked of a region, once: where results go, what is waited for, and that operations that share a slot are in order -/
def slotsOk (all : List VOper) (an : List (List Nat)) : Bool :=
  (List.range all.length).all fun j => (List.range j).all fun i =>
    match all[i]?, all[j]? with
    | some p, some q => (an.getD j []).contains i || !(p.dst.toList.any fun d => (looks all q).contains d || q.dst == some d) && !(q.dst.toList.any fun d => (looks all p).contains d)
    | _, _ => true
def regionOk (P : Program) (N : Nat) (ops : Array Oper) (draw : Bool) : Bool :=
  (ops.toList.all fun o => o.dst.all (· < N)) &&
  (!draw || ((ops.toList.zipIdx.all fun p => p.1.after.toList.all fun e => !Region.binds .any e || decide (e.on < p.2)) && slotsOk (ops.toList.map (compOper P)) (ancs ops.toList [])))

/-! ### what is waited for -/
theorem ancs_get : ∀ (l : List Oper) (acc : List (List Nat)), (ancs l acc).length = acc.length + l.length ∧ (∀ i, i < acc.length → (ancs l acc)[i]? = acc[i]?) ∧
    ∀ (t : Nat) o, l[t]? = some o → ∀ i ∈ (ancs l acc).getD (acc.length + t) [], ∃ e ∈ o.after, Region.binds .any e = true ∧ (i = e.on ∨ (e.on < acc.length + t ∧ i ∈ (ancs l acc).getD e.on []))
  | [], acc => by simp [ancs]
  | o :: l, acc => by
    obtain ⟨h1, h2, h3⟩ := ancs_get l (acc ++ [(o.after.toList.flatMap fun e => if Region.binds .any e then e.on :: acc.getD e.on [] else []).eraseDups])
    have hpre : ∀ i, i < acc.length → (ancs (o :: l) acc)[i]? = acc[i]? := fun i hi => by
      simp only [ancs]
      rw [h2 i (by simp; omega), List.getElem?_append_left hi]
    refine ⟨by simp only [ancs]; rw [h1]; simp; omega, hpre, fun t o' ho' i hi => ?_⟩
    cases t with
    | zero =>
      simp at ho'; subst ho'
      have hget : (ancs (o :: l) acc)[acc.length]? = some ((o.after.toList.flatMap fun e => if Region.binds .any e then e.on :: acc.getD e.on [] else []).eraseDups) := by
        simp only [ancs]
        rw [h2 _ (by simp), List.getElem?_append_right (Nat.le_refl _)]
        simp
      rw [Nat.add_zero, List.getD_eq_getElem?_getD, hget, Option.getD_some, List.mem_eraseDups, List.mem_flatMap] at hi
      obtain ⟨e, he, hie⟩ := hi
      split at hie
      · rename_i hb
        refine ⟨e, by simpa using he, hb, ?_⟩
        rcases List.mem_cons.1 hie with h | h
        · exact .inl h
        · right
          by_cases hlt : e.on < acc.length
          · refine ⟨by omega, ?_⟩
            rw [List.getD_eq_getElem?_getD, hpre _ hlt, ← List.getD_eq_getElem?_getD]
            exact h
          · rw [List.getD_eq_getElem?_getD, List.getElem?_eq_none (by omega)] at h
            simp at h
      · simp at hie
    | succ t =>
      have := h3 t o' (by simpa using ho') i (by
        simp only [List.length_append, List.length_singleton]
        rw [show acc.length + 1 + t = acc.length + (t + 1) from by omega]
        simpa only [ancs] using hi)
      simp only [List.length_append, List.length_singleton] at this
      rw [show acc.length + 1 + t = acc.length + (t + 1) from by omega] at this
      simpa only [ancs] using this

theorem anc_closed {ops : Array Oper} {D : Nat → Prop} (hc : ∀ (j : Nat) o e, D j → ops[j]? = some o → e ∈ o.after → Region.binds .any e = true → D e.on) : ∀ (j : Nat) (o : Oper), ops[j]? = some o →
    (∀ e ∈ o.after, Region.binds .any e = true → D e.on) → ∀ i ∈ (ancs ops.toList []).getD j [], D i := by
  intro j
  induction j using Nat.strongRecOn with
  | _ j ih =>
    intro o ho hd i hi
    obtain ⟨_, _, h3⟩ := ancs_get ops.toList []
    obtain ⟨e, he, hb, h | ⟨hlt, h⟩⟩ := h3 j o (by simpa using ho) i (by simpa using hi)
    · subst h; exact hd e he hb
    · have hDe := hd e he hb
      simp only [List.length_nil, Nat.zero_add] at hlt
      have hsz : j < ops.size := (Array.getElem?_eq_some_iff.1 ho).1
      have hoe : ops[e.on]? = some (ops[e.on]'(by omega)) := Array.getElem?_eq_getElem (by omega)
      exact ih e.on hlt _ hoe (fun e' he' hb' => hc e.on _ e' hDe hoe he' hb') i h

theorem inOrder_spec {anc : List Nat} {f : List Nat × List Nat} {g : Nat → List Nat × List Nat} : ∀ (n : Nat), inOrder anc f n ((List.range n).reverse.map g) = true →
    ∀ j, j < n → j ∈ anc ∨ (meets (g j).2 f.1 = false ∧ meets (g j).2 f.2 = false ∧ meets (g j).1 f.2 = false)
  | 0, _, j, hj => by omega
  | n + 1, h, j, hj => by
    rw [List.range_succ, List.reverse_append, List.reverse_singleton, List.singleton_append, List.map_cons] at h
    simp only [inOrder, Bool.and_eq_true, Bool.or_eq_true, Bool.not_eq_true', Bool.or_eq_false_iff] at h
    by_cases hjn : j = n
    · subst hjn
      rcases h.1 with h1 | ⟨⟨h1, h2⟩, h3⟩
      · exact .inl (by simpa using h1)
      · exact .inr ⟨h1, h2, h3⟩
    · exact inOrder_spec n h.2 j (by omega)

theorem meets_false {a b : List Nat} (h : meets a b = false) {x : Nat} (ha : x ∈ a) : x ∉ b := by
  intro hb
  have : meets a b = true := by
    unfold meets
    rw [List.any_eq_true]
    exact ⟨x, ha, by simpa using hb⟩
  rw [this] at h; cases h

section
variable {P : Program} {O : Calls'} {ops : Array Oper}

/-- the states of the order of the text -/
structure Trace (O : Calls') (all : List VOper) (an : List (List Nat)) (tr : Nat → Env × Heap) (k : Nat) (fs : List (List Nat × List Nat)) : Prop where
  step : ∀ i o, k ≤ i → all[i]? = some o → stepO O.run all o (tr i).1 (tr i).2 = some (tr (i + 1))
  reads : ∀ i o, k ≤ i → all[i]? = some o → (footO O all o (tr i).1 (tr i).2 (tr (i + 1)).2).1.all (· < (tr i).2.length) = true
  order : ∀ i o, k ≤ i → all[i]? = some o → inOrder (an.getD i []) (footO O all o (tr i).1 (tr i).2 (tr (i + 1)).2) i
    (((List.range' k (i - k)).reverse.map fun j => match all[j]? with | some p => footO O all p (tr j).1 (tr j).2 (tr (j + 1)).2 | none => ([], [])) ++ fs) = true

theorem trace_of {all : List VOper} {an : List (List Nat)} {En : Env} {Hn : Heap} : ∀ (l : List VOper) (k : Nat) (fs : List (List Nat × List Nat)) (E : Env) (H : Heap), l = all.drop k → k ≤ all.length → runDraw O all an l k fs E H = some (En, Hn) →
    ∃ tr : Nat → Env × Heap, tr k = (E, H) ∧ tr all.length = (En, Hn) ∧ Trace O all an tr k fs
  | [], k, fs, E, H, hl, hk, h => by
    simp only [runDraw, Option.some.injEq, Prod.mk.injEq] at h
    obtain ⟨rfl, rfl⟩ := h
    have hke : all.length ≤ k := by simpa using List.drop_eq_nil_iff.1 hl.symm
    have : ∀ i o, k ≤ i → ¬ all[i]? = some o := fun i o hi ho => by have := (List.getElem?_eq_some_iff.1 ho).1; omega
    exact ⟨fun _ => (E, H), rfl, rfl, fun i o hi ho => absurd ho (this i o hi), fun i o hi ho => absurd ho (this i o hi), fun i o hi ho => absurd ho (this i o hi)⟩
  | o :: l, k, fs, E, H, hl, hk, h => by
    have hlt : k < all.length := by
      rcases Nat.lt_or_ge k all.length with h1 | h1
      · exact h1
      · rw [List.drop_eq_nil_of_le h1] at hl; cases hl
    have hok : all[k]? = some o := by
      have := congrArg (fun l : List VOper => l[0]?) hl
      simp only [List.getElem?_cons_zero, List.getElem?_drop, Nat.add_zero] at this
      exact this.symm
    have hl' : l = all.drop (k + 1) := by
      have := congrArg List.tail hl
      simpa using this
    simp only [runDraw] at h
    split at h
    · rename_i E' H' hstep
      split at h
      · rename_i hcond
        simp only [Bool.and_eq_true] at hcond
        obtain ⟨tr, h1, h2, h3⟩ := trace_of l (k + 1) _ E' H' hl' hlt h
        have hne : ∀ i, k + 1 ≤ i → (fun i => if i = k then (E, H) else tr i) i = tr i := fun i hi => if_neg (by omega)
        refine ⟨fun i => if i = k then (E, H) else tr i, if_pos rfl, by simp only; rw [if_neg (by omega), h2], ⟨fun i o' hi ho' => ?_, fun i o' hi ho' => ?_, fun i o' hi ho' => ?_⟩⟩
        · by_cases hik : i = k
          · subst hik
            rw [hok] at ho'; obtain rfl := Option.some.inj ho'
            simp only [if_true]
            rw [if_neg (by omega), h1]; exact hstep
          · rw [if_neg hik, if_neg (by omega)]; exact h3.step i o' (by omega) ho'
        · by_cases hik : i = k
          · subst hik
            rw [hok] at ho'; obtain rfl := Option.some.inj ho'
            simp only [if_true]
            rw [if_neg (by omega), h1]; exact hcond.1
          · rw [if_neg hik, if_neg (by omega)]; exact h3.reads i o' (by omega) ho'
        · by_cases hik : i = k
          · subst hik
            rw [hok] at ho'; obtain rfl := Option.some.inj ho'
            simp only [if_true, Nat.sub_self, List.range'_zero, List.reverse_nil, List.map_nil, List.nil_append]
            rw [if_neg (by omega), h1]; exact hcond.2
          · have := h3.order i o' (by omega) ho'
            rw [if_neg hik, if_neg (by omega)]
            have hr : List.range' k (i - k) = k :: List.range' (k + 1) (i - (k + 1)) := by
              rw [show i - k = (i - (k + 1)) + 1 from by omega, List.range'_succ]
            rw [hr, List.reverse_cons, List.map_append, List.append_assoc]
            have hmap : (List.range' (k + 1) (i - (k + 1))).reverse.map (fun j => match all[j]? with | some p => footO O all p (if j = k then (E, H) else tr j).1 (if j = k then (E, H) else tr j).2 (if j + 1 = k then (E, H) else tr (j + 1)).2 | none => ([], [])) =
                (List.range' (k + 1) (i - (k + 1))).reverse.map (fun j => match all[j]? with | some p => footO O all p (tr j).1 (tr j).2 (tr (j + 1)).2 | none => ([], [])) := by
              apply List.map_congr_left
              intro j hj
              have hj' : k + 1 ≤ j := by
                simp only [List.mem_reverse, List.mem_range'_1] at hj; exact hj.1
              rw [if_neg (by omega), if_neg (by omega)]
            rw [hmap]
            simp only [List.map_cons, List.map_nil, List.singleton_append, hok, if_true]
            rw [if_neg (by omega), h1]
            exact this
      · cases h
    · cases h
end
end Go.VM
/- Regions whose order the model draws: the induction over what has been carried out. -/
namespace Go.VM
open Go.RowKit
set_option linter.unusedVariables false
set_option linter.unusedSimpArgs false
set_option linter.unusedSectionVars false

section
variable {P : Program} {O : Calls'} {ops : Array Oper} {N : Nat}

/-- the blocks that operation j writes or makes, in the order of the text -/
def wr (O : Calls') (all : List VOper) (tr : Nat → Env × Heap) (j : Nat) : List Nat :=
  match all[j]? with | some p => (footO O all p (tr j).1 (tr j).2 (tr (j + 1)).2).2 | none => []
def rd (O : Calls') (all : List VOper) (tr : Nat → Env × Heap) (j : Nat) : List Nat :=
  match all[j]? with | some p => (footO O all p (tr j).1 (tr j).2 (tr (j + 1)).2).1 | none => []

/-- D: what has been carried out; the block b is as it is before operation k, in the order of the text -/
def Match (O : Calls') (all : List VOper) (tr : Nat → Env × Heap) (D : Nat → Prop) (b k : Nat) : Prop := ∀ j, j < all.length → b ∈ wr O all tr j → (D j ↔ j < k)
def MatchS (all : List VOper) (D : Nat → Prop) (s k : Nat) : Prop := ∀ j o, all[j]? = some o → o.dst = some s → (D j ↔ j < k)

structure DRel (O : Calls') (all : List VOper) (tr : Nat → Env × Heap) (N base : Nat) (w0 ws : World) (oks : Nat → Prop) (ρs : Nat → Option Nat) (D : Nat → Prop) (a : Act) (w : World) (ok : Nat → Prop) (ρ : Nat → Option Nat) : Prop where
  size : a.tmps.size = N
  defers : a.defers = []
  below : Below base w0 w
  base_le : base ≤ w0.heap.size
  okLt : ∀ x, ok x → x < w.heap.size
  lo : ∀ b x, ρ b = some x → base ≤ x ∧ x < w.heap.size
  dom : ∀ b x, ρ b = some x → b < (tr 0).2.length ∨ ∃ j, j < all.length ∧ D j ∧ (tr j).2.length ≤ b ∧ b < (tr (j + 1)).2.length
  own : ∀ b k kb x, k ≤ all.length → Match O all tr D b k → (tr k).2.blk b = some kb → ρ b = some x → OwnAt w ok ρ x kb
  apart : ∀ b k x, k ≤ all.length → Match O all tr D b k → Live (tr k).2 b → ok x → ρ b ≠ some x
  inj : ∀ b c kb kc x, kb ≤ all.length → kc ≤ all.length → Match O all tr D b kb → Match O all tr D c kc → Live (tr kb).2 b → Live (tr kc).2 c → ρ b = some x → ρ c = some x → b = c
  slots : ∀ s k, k ≤ all.length → MatchS all D s k → VRep w ok ρ ((tr k).1.at s) (a.tmps.getD s undef)
  ext : Ext ws oks ρs w ok ρ
  fresh : ∀ x, ok x → oks x ∨ ws.heap.size ≤ x
  made : ∀ j, j < all.length → D j → ∀ b, (tr j).2.length ≤ b → b < (tr (j + 1)).2.length → ∃ x, ρ b = some x
  old : ∀ b x, ρ b = some x → b < (tr 0).2.length → ρs b = some x
  doms : ∀ b x, ρs b = some x → b < (tr 0).2.length
  newx : ∀ b x, ρ b = some x → ρs b = some x ∨ ws.heap.size ≤ x ∨ ∃ b0, ρs b0 = some x ∧ Live (tr 0).2 b0
  frame : ∀ (x : Nat), x < ws.heap.size → (∀ b, Live (tr 0).2 b → ρs b ≠ some x) → w.heap[x]? = ws.heap[x]?

variable {all : List VOper} {tr : Nat → Env × Heap} {base : Nat} {w0 ws w : World} {oks ok : Nat → Prop} {ρs ρ : Nat → Option Nat} {D : Nat → Prop} {a : Act}

theorem runOp_frame (hO : CallOk P O) {op : VOp} {ev : X → V} {H H' : Heap} {v : V} (hop : runOp O.run op ev H = some (v, H')) : HFrame H (writesOp O op ev H) H' := by
  cases op with
  | call f xs => exact (hO f _ H v H' hop).2.1
  | callv f xs =>
    simp only [runOp] at hop
    split at hop
    · rename_i g caps hg
      simp only [writesOp, hg]
      exact (hO g _ H v H' hop).2.1
    · cases hop
  | _ => simp only [runOp] at hop; simp only [writesOp]; exact evalOp_frame hop

/-- one step of the order of the text, as far as own blocks go -/
theorem step_frame (hO : CallOk P O) {o : VOper} {E E' : Env} {H H' : Heap} (h : stepO O.run all o E H = some (E', H')) :
    HFrame H (footO O all o E H H').2 H' ∧ (∀ b, H.length ≤ b → b < H'.length → b ∈ (footO O all o E H H').2) ∧ (∀ s, o.dst ≠ some s → E'.at s = E.at s) ∧
    (∀ b ∈ (footO O all o E H H').2, b < H.length ∨ b < H'.length ∨ b ∈ writesOp O o.op (X.ev E) H) := by
  unfold stepO at h
  have hput : ∀ (v : V) s, o.dst ≠ some s → (putE o.dst v E).at s = E.at s := fun v s hs => by
    cases hd : o.dst with
    | none => rfl
    | some d => simp only [putE, at_put]; rw [if_neg (fun e => hs (by rw [hd, e]))]
  unfold footO
  split at h
  · rename_i hw
    rw [hw]
    split at h
    · rename_i v H2 hop
      simp only [Option.some.injEq, Prod.mk.injEq] at h
      obtain ⟨rfl, rfl⟩ := h
      have hfr := runOp_frame hO hop
      refine ⟨⟨hfr.len, fun b hb hT => hfr.out b hb (fun h => hT (List.mem_append_left _ h)), hfr.live⟩, fun b h1 h2 => List.mem_append_right _ (by rw [List.mem_range'_1]; omega), hput v, fun b hb => ?_⟩
      rcases List.mem_append.1 hb with h | h
      · exact .inr (.inr h)
      · rw [List.mem_range'_1] at h; exact .inr (.inl (by omega))
    · cases h
  · rename_i hw
    rw [hw]
    simp only [Option.some.injEq, Prod.mk.injEq] at h
    obtain ⟨rfl, rfl⟩ := h
    exact ⟨⟨Nat.le_refl _, fun _ _ _ => rfl, fun _ _ h => h⟩, fun b h1 h2 => by omega, hput _, fun b hb => by simp at hb⟩
  · cases h

theorem wr_eq {j : Nat} {o : VOper} (h : all[j]? = some o) : wr O all tr j = (footO O all o (tr j).1 (tr j).2 (tr (j + 1)).2).2 := by unfold wr; rw [h]
theorem rd_eq {j : Nat} {o : VOper} (h : all[j]? = some o) : rd O all tr j = (footO O all o (tr j).1 (tr j).2 (tr (j + 1)).2).1 := by unfold rd; rw [h]

/-- what no operation from i on to k writes is before k as it is before i -/
theorem blk_same (hO : CallOk P O) (hst : ∀ i o, all[i]? = some o → stepO O.run all o (tr i).1 (tr i).2 = some (tr (i + 1))) : ∀ (n i : Nat) (b : Nat), i + n ≤ all.length → (∀ j, i ≤ j → j < i + n → b ∉ wr O all tr j) →
    (tr (i + n)).2.blk b = (tr i).2.blk b ∧ (tr i).2.length ≤ (tr (i + n)).2.length
  | 0, i, b, _, _ => ⟨rfl, Nat.le_refl _⟩
  | n + 1, i, b, h, hb => by
    obtain ⟨h1, h2⟩ := blk_same hO hst n i b (by omega) (fun j hj hj2 => hb j hj (by omega))
    have hlt : i + n < all.length := by omega
    have ho : all[i + n]? = some all[i + n] := List.getElem?_eq_getElem hlt
    obtain ⟨hf, hnew, _, _⟩ := step_frame hO (hst _ _ ho)
    have hnb : b ∉ (footO O all all[i + n] (tr (i + n)).1 (tr (i + n)).2 (tr (i + n + 1)).2).2 := by
      have := hb (i + n) (by omega) (by omega)
      rw [wr_eq ho] at this; exact this
    refine ⟨?_, Nat.le_trans h2 hf.len⟩
    rw [← h1, ← Nat.add_assoc]
    by_cases hlb : b < (tr (i + n)).2.length
    · exact hf.out b hlb hnb
    · have hge : ¬ b < (tr (i + n + 1)).2.length := fun hlt' => hnb (hnew b (by omega) hlt')
      have hn : ∀ {H : Heap}, ¬ b < H.length → H.blk b = none := fun {H} hh => by
        unfold Heap.blk; rw [List.getElem?_eq_none (by omega)]
      rw [hn hge, hn hlb]
theorem len_le (hO : CallOk P O) (hst : ∀ i o, all[i]? = some o → stepO O.run all o (tr i).1 (tr i).2 = some (tr (i + 1))) {i k : Nat} (hik : i ≤ k) (hk : k ≤ all.length) : (tr i).2.length ≤ (tr k).2.length := by
  obtain ⟨n, rfl⟩ : ∃ n, k = i + n := ⟨k - i, by omega⟩
  clear hik
  induction n with
  | zero => exact Nat.le_refl _
  | succ n ih =>
    have hlt : i + n < all.length := by omega
    obtain ⟨hf, _⟩ := step_frame hO (hst _ _ (List.getElem?_eq_getElem hlt))
    exact Nat.le_trans (ih (by omega)) hf.len
theorem live_le (hO : CallOk P O) (hst : ∀ i o, all[i]? = some o → stepO O.run all o (tr i).1 (tr i).2 = some (tr (i + 1))) {b : Nat} (hb : b < (tr 0).2.length) : ∀ (k : Nat), k ≤ all.length → Live (tr k).2 b → Live (tr 0).2 b
  | 0, _, h => h
  | k + 1, hk, h => by
    have hlt : k < all.length := by omega
    obtain ⟨hf, _⟩ := step_frame hO (hst _ _ (List.getElem?_eq_getElem hlt))
    exact live_le hO hst hb k (by omega) (hf.live b (Nat.lt_of_lt_of_le hb (len_le hO hst (Nat.zero_le k) (by omega))) h)
theorem made_at (b : Nat) : ∀ (k : Nat), (tr 0).2.length ≤ b → b < (tr k).2.length → ∃ j, j < k ∧ (tr j).2.length ≤ b ∧ b < (tr (j + 1)).2.length
  | 0, h1, h2 => by omega
  | k + 1, h1, h2 => by
    rcases Nat.lt_or_ge b (tr k).2.length with h | h
    · obtain ⟨j, hj, h3⟩ := made_at b k h1 h
      exact ⟨j, by omega, h3⟩
    · exact ⟨k, by omega, h, h2⟩
theorem at_same (hO : CallOk P O) (hst : ∀ i o, all[i]? = some o → stepO O.run all o (tr i).1 (tr i).2 = some (tr (i + 1))) : ∀ (n i : Nat) (s : Nat), i + n ≤ all.length → (∀ j o, i ≤ j → j < i + n → all[j]? = some o → o.dst ≠ some s) →
    (tr (i + n)).1.at s = (tr i).1.at s
  | 0, i, s, _, _ => rfl
  | n + 1, i, s, h, hs => by
    have h1 := at_same hO hst n i s (by omega) (fun j o hj hj2 => hs j o hj (by omega))
    have hlt : i + n < all.length := by omega
    have ho : all[i + n]? = some all[i + n] := List.getElem?_eq_getElem hlt
    obtain ⟨_, _, hat, _⟩ := step_frame hO (hst _ _ ho)
    rw [← h1, ← Nat.add_assoc]
    exact hat s (hs _ _ (by omega) (by omega) ho)

/-- which operations are in order -/
structure Ord (O : Calls') (all : List VOper) (tr : Nat → Env × Heap) (an : List (List Nat)) : Prop where
  mem : ∀ i j b, i < j → j < all.length → i ∈ an.getD j [] ∨ ((b ∈ wr O all tr i → b ∉ rd O all tr j ∧ b ∉ wr O all tr j) ∧ (b ∈ rd O all tr i → b ∉ wr O all tr j))
  slot : ∀ i j p q s, i < j → all[i]? = some p → all[j]? = some q → i ∈ an.getD j [] ∨ ((p.dst = some s → s ∉ looks all q ∧ q.dst ≠ some s) ∧ (q.dst = some s → s ∉ looks all p))

theorem ord_of {an : List (List Nat)} (ht : Trace O all an tr 0 []) (hs : slotsOk all an = true) : Ord O all tr an := by
  refine ⟨fun i j b hij hj => ?_, fun i j p q s hij hp hq => ?_⟩
  · have hoj : all[j]? = some all[j] := List.getElem?_eq_getElem hj
    have h := ht.order j _ (Nat.zero_le _) hoj
    rw [List.append_nil, Nat.sub_zero, ← List.range_eq_range'] at h
    rcases inOrder_spec j h i hij with h1 | ⟨h1, h2, h3⟩
    · exact .inl h1
    · right
      have hoi : all[i]? = some (all[i]'(by omega)) := List.getElem?_eq_getElem (by omega)
      simp only [hoi] at h1 h2 h3
      rw [wr_eq hoi, rd_eq hoi, wr_eq hoj, rd_eq hoj]
      exact ⟨fun hb => ⟨meets_false h1 hb, meets_false h2 hb⟩, fun hb => meets_false h3 hb⟩
  · have hj := (List.getElem?_eq_some_iff.1 hq).1
    unfold slotsOk at hs
    have h1 := List.all_eq_true.1 hs j (by simpa using hj)
    have h2 := List.all_eq_true.1 h1 i (by simpa using hij)
    rw [hp, hq] at h2
    simp only [Bool.or_eq_true, Bool.and_eq_true, Bool.not_eq_true'] at h2
    rcases h2 with h2 | ⟨h2, h3⟩
    · exact .inl (by simpa using h2)
    · right
      refine ⟨fun hd => ?_, fun hd => ?_⟩
      · rw [hd] at h2
        simp only [Option.toList_some, List.any_cons, List.any_nil, Bool.or_false, Bool.or_eq_false_iff] at h2
        exact ⟨fun hm => by have := h2.1; simp at this; exact this hm, fun he => by have := h2.2; rw [he] at this; simp at this⟩
      · rw [hd] at h3
        simp only [Option.toList_some, List.any_cons, List.any_nil, Bool.or_false] at h3
        exact fun hm => by simp at h3; exact h3 hm
end
end Go.VM
/- Regions that are carried out in the order of the text. -/
namespace Go.VM
open Go.RowKit
set_option linter.unusedVariables false
set_option linter.unusedSimpArgs false
set_option linter.unusedSectionVars false

theorem Inv.dom_lt {base : Nat} {w0 w : World} {ok : Nat → Prop} {ρ : Nat → Option Nat} {H : Heap} (h : Inv base w0 w ok ρ (fun _ => True) H) : ∀ b x, ρ b = some x → b < H.length := fun b x hx => by
  rcases Nat.lt_or_ge b H.length with h1 | h1
  · exact h1
  · exact absurd trivial (h.dom b x hx h1)

theorem Went.of_op {base : Nat} {w0 w w' : World} {ok ok' : Nat → Prop} {ρ ρ' : Nat → Option Nat} {H H' : Heap} {S : Nat → Prop} {T T' : List Nat} {v : V} {u : Value} (h : OpRes base w0 w ok ρ S H T v H' u w' ok' ρ') (hf : HFrame H T' H') : Went w ok ρ H w' ok' ρ' H' :=
  ⟨h.ext, h.fresh, hf.len, hf.live, h.old, h.all, fun x hx hno => h.frame x hx fun b _ hl => hno b hl, h.newb, fun b x hb => by
    rcases h.newx b x hb with h1 | h1 | ⟨b0, _, h1, h2⟩
    · exact .inl h1
    · exact .inr (.inl h1)
    · exact .inr (.inr ⟨b0, h1, h2⟩)⟩

section
variable {P : Program} {O : Calls'} {base N : Nat} {w0 w : World} {ok : Nat → Prop} {ρ : Nat → Option Nat} {S : Nat → Prop} {H H' : Heap} {E E' : Env} {v : V} {ops : Array Oper} {Q : Exit → Act → World → Prop} {a : Act} {o : Oper}

/-- operations in the order of the text, from number k on -/
theorem seq_ops (hO : CallOk P O) (hdst : ∀ (i : Nat) o d, ops[i]? = some o → o.dst = some d → d < N) : ∀ (n k : Nat) (E : Env) (H : Heap) (w : World) (ok : Nat → Prop) (ρ : Nat → Option Nat) (a : Act), k + n = ops.size →
    runOps O.run (ops.toList.map (compOper P)) ((ops.toList.map (compOper P)).drop k) E H = some (E', H') → Inv base w0 w ok ρ (fun _ => True) H → FRep w ok ρ N E a →
    (∀ w' ok' ρ' a', Inv base w0 w' ok' ρ' (fun _ => True) H' → FRep w' ok' ρ' N E' a' → Went w ok ρ H w' ok' ρ' H' → Q .normal a' w') → wpOps P ops Q (List.range' k n) a w
  | 0, k, E, H, w, ok, ρ, a, hk, hrun, hI, hF, hQ => by
    have : ((ops.toList.map (compOper P)).drop k) = [] := by rw [List.drop_eq_nil_iff]; simp; omega
    rw [this] at hrun
    simp only [runOps, Option.some.injEq, Prod.mk.injEq] at hrun
    obtain ⟨rfl, rfl⟩ := hrun
    exact hQ w ok ρ a hI hF (Went.refl _ _ _ _)
  | n + 1, k, E, H, w, ok, ρ, a, hk, hrun, hI, hF, hQ => by
    have hlt : k < ops.size := by omega
    have hoi : ops[k]? = some ops[k] := Array.getElem?_eq_getElem hlt
    have hdrop : (ops.toList.map (compOper P)).drop k = compOper P ops[k] :: (ops.toList.map (compOper P)).drop (k + 1) := by
      rw [List.drop_eq_getElem_cons (by simpa using hlt)]
      simp
    rw [hdrop] at hrun
    simp only [runOps] at hrun
    split at hrun
    · rename_i E1 H1 hstep
      rw [List.range'_succ, wpOps_cons]
      unfold stepO at hstep
      split at hstep
      · rename_i hw
        have hw' := wants_sound (o := ops[k]) hF.slots hw
        split at hstep
        · rename_i v H2 hop
          simp only [Option.some.injEq, Prod.mk.injEq] at hstep
          obtain ⟨rfl, rfl⟩ := hstep
          refine wpOp_run hO hoi hw' hop hF.reps hI (fun _ _ => trivial) (.inr fun _ => trivial) (fun _ _ _ => trivial) fun u w' ok' ρ' hres => ?_
          exact seq_ops hO hdst n (k + 1) _ _ w' ok' ρ' _ (by omega) hrun hres.inv ((hF.ext hres.ext).put (fun d hd => hdst k _ d hoi hd) hres.rep)
            fun w2 ok2 ρ2 a2 h1 h2 h3 => hQ w2 ok2 ρ2 a2 h1 h2 ((Went.of_op hres (runOp_frame hO hop)).trans hI.dom_lt h3)
        · cases hstep
      · rename_i hw
        have hw' := wants_sound (o := ops[k]) hF.slots hw
        simp only [Option.some.injEq, Prod.mk.injEq] at hstep
        obtain ⟨rfl, rfl⟩ := hstep
        unfold wpOp
        rw [hoi]
        simp only [hw', Bool.false_eq_true, if_false]
        exact seq_ops hO hdst n (k + 1) _ _ w ok ρ _ (by omega) hrun hI (hF.put (fun d hd => hdst k _ d hoi hd) (.tup [] #[] rfl fun j v u h => by simp at h)) hQ
      · cases hstep
    · cases hrun
end
end Go.VM
/- Regions whose order the model draws: one step, and the whole. -/
namespace Go.VM
open Go.RowKit
set_option linter.unusedVariables false
set_option linter.unusedSimpArgs false
set_option linter.unusedSectionVars false

section
variable {P : Program} {O : Calls'} {ops : Array Oper} {N : Nat}
variable {all : List VOper} {tr : Nat → Env × Heap} {base : Nat} {w0 ws w : World} {oks ok : Nat → Prop} {ρs ρ : Nat → Option Nat} {D : Nat → Prop} {a : Act}

def AddD (D : Nat → Prop) (i : Nat) : Nat → Prop := fun j => D j ∨ j = i

structure Steps (O : Calls') (all : List VOper) (tr : Nat → Env × Heap) : Prop where
  st : ∀ i o, all[i]? = some o → stepO O.run all o (tr i).1 (tr i).2 = some (tr (i + 1))

/-- what i looks at and writes is as it is before i, in the order of the text -/
theorem match_at {an : List (List Nat)} (hO' : Ord O all tr an) {i : Nat} (hi : i < all.length) (hni : ¬ D i) (hanc : ∀ j ∈ an.getD i [], D j) (hno : ∀ j, D j → i ∉ an.getD j []) {b : Nat} (hb : b ∈ rd O all tr i ∨ b ∈ wr O all tr i) : Match O all tr D b i := by
  intro j hj hbj
  rcases Nat.lt_trichotomy j i with h | h | h
  · refine ⟨fun _ => h, fun _ => ?_⟩
    rcases hO'.mem j i b h hi with h1 | ⟨h1, _⟩
    · exact hanc j h1
    · exact (hb.elim (h1 hbj).1 (h1 hbj).2).elim
  · subst h; exact ⟨fun h => absurd h hni, fun h => by omega⟩
  · refine ⟨fun hd => ?_, fun h => by omega⟩
    rcases hO'.mem i j b h hj with h1 | ⟨h1, h2⟩
    · exact absurd h1 (hno j hd)
    · rcases hb with hb | hb
      · exact absurd hbj (h2 hb)
      · exact absurd hbj (h1 hb).2

theorem matchS_at {an : List (List Nat)} (hO' : Ord O all tr an) {i : Nat} {o : VOper} (ho : all[i]? = some o) (hni : ¬ D i) (hanc : ∀ j ∈ an.getD i [], D j) (hno : ∀ j, D j → i ∉ an.getD j []) {s : Nat} (hs : s ∈ looks all o ∨ o.dst = some s) : MatchS all D s i := by
  intro j p hp hps
  rcases Nat.lt_trichotomy j i with h | h | h
  · refine ⟨fun _ => h, fun _ => ?_⟩
    rcases hO'.slot j i p o s h hp ho with h1 | ⟨h1, _⟩
    · exact hanc j h1
    · exact (hs.elim (h1 hps).1 (h1 hps).2).elim
  · subst h; exact ⟨fun h => absurd h hni, fun h => by omega⟩
  · refine ⟨fun hd => ?_, fun h => by omega⟩
    rcases hO'.slot i j o p s h ho hp with h1 | ⟨h1, h2⟩
    · exact absurd h1 (hno j hd)
    · rcases hs with hs | hs
      · exact absurd hs (h2 hps)
      · exact absurd hps (h1 hs).2

/-- the invariant at the operation i, as the order of the text has it -/
def SetAt (O : Calls') (all : List VOper) (tr : Nat → Env × Heap) (D : Nat → Prop) (i : Nat) : Nat → Prop := fun b => b < (tr (i + 1)).2.length ∧ Match O all tr D b i

theorem DRel.inv (hO : CallOk P O) (hS : Steps O all tr) (h : DRel O all tr N base w0 ws oks ρs D a w ok ρ) {i : Nat} (hi : i < all.length) (hni : ¬ D i) : Inv base w0 w ok ρ (SetAt O all tr D i) (tr i).2 := by
  have hoi : all[i]? = some all[i] := List.getElem?_eq_getElem hi
  obtain ⟨hf, hnew, _, _⟩ := step_frame hO (hS.st _ _ hoi)
  refine ⟨h.below, h.base_le, h.okLt, h.lo, fun b x hx hle hs => ?_, fun x b hx hs hl => h.apart b i x (by omega) hs.2 hl hx, fun b c x hsb hsc hb hc h1 h2 => h.inj b c i i x (by omega) (by omega) hsb.2 hsc.2 hb hc h1 h2, fun b k x hs hk hx => h.own b i k x (by omega) hs.2 hk hx⟩
  rcases h.dom b x hx with h1 | ⟨j, hj, hd, h1, h2⟩
  · have := len_le hO hS.st (Nat.zero_le i) (by omega); omega
  · rcases Nat.lt_trichotomy j i with hji | hji | hji
    · have := len_le hO hS.st (i := j + 1) (k := i) hji (by omega); omega
    · subst hji; exact hni hd
    · have := len_le hO hS.st (i := i + 1) (k := j) hji (by omega); have := hs.1; omega

theorem DRel.step (hO : CallOk P O) (hS : Steps O all tr) {an : List (List Nat)} (hOrd : Ord O all tr an) (h : DRel O all tr N base w0 ws oks ρs D a w ok ρ) {i : Nat} {o : VOper} (hoi : all[i]? = some o) (hni : ¬ D i)
    (hanc : ∀ j ∈ an.getD i [], D j) (hno : ∀ j, D j → i ∉ an.getD j []) (hdst : ∀ d, o.dst = some d → d < N)
    {T : List Nat} {v : V} {u : Value} {w' : World} {ok' : Nat → Prop} {ρ' : Nat → Option Nat} (hT : ∀ b ∈ T, b ∈ wr O all tr i) (hE : (tr (i + 1)).1 = putE o.dst v (tr i).1)
    (hres : OpRes base w0 w ok ρ (SetAt O all tr D i) (tr i).2 T v (tr (i + 1)).2 u w' ok' ρ') :
    DRel O all tr N base w0 ws oks ρs (AddD D i) (a.put o.dst u) w' ok' ρ' := by
  have hi : i < all.length := (List.getElem?_eq_some_iff.1 hoi).1
  obtain ⟨hf, hnew, hslot, _⟩ := step_frame hO (hS.st _ _ hoi)
  rw [← wr_eq hoi] at hf hnew
  have hm : ∀ b, b ∈ wr O all tr i → Match O all tr D b i := fun b hb => match_at hOrd hi hni hanc hno (.inr hb)
  have hI := h.inv hO hS hi hni
  -- what i writes has no writer behind i that has been carried out
  have hwr : ∀ b k, k ≤ all.length → b ∈ wr O all tr i → Match O all tr (AddD D i) b k → (tr k).2.blk b = (tr (i + 1)).2.blk b := fun b k hk hb hM => by
    have hik : i < k := (hM i hi hb).1 (.inr rfl)
    have := (blk_same hO hS.st (k - (i + 1)) (i + 1) b (by omega) fun j hj hj2 hbj => by
      have hDj : D j := ((hM j (by omega) hbj).2 (by omega)).resolve_right (by omega)
      have := (hm b hb j (by omega) hbj).1 hDj
      omega).1
    rw [show i + 1 + (k - (i + 1)) = k from by omega] at this
    exact this
  have hold : ∀ b k, b ∉ wr O all tr i → Match O all tr (AddD D i) b k → Match O all tr D b k := fun b k hb hM j hj hbj => by
    have hne : j ≠ i := fun e => hb (e ▸ hbj)
    have := hM j hj hbj
    exact ⟨fun hd => this.1 (.inl hd), fun hlt => (this.2 hlt).resolve_right hne⟩
  have hrho : ∀ b x, b ∉ wr O all tr i → ρ' b = some x → ρ b = some x := fun b x hb hx => by
    rcases hres.newb b x hx with h1 | ⟨h1, h2⟩
    · exact h1
    · exact absurd (hnew b h1 h2) hb
  have hset : ∀ b, b ∈ wr O all tr i → Live (tr (i + 1)).2 b → SetAt O all tr D i b := fun b hb hl => ⟨by
    obtain ⟨k, hk⟩ := Option.isSome_iff_exists.1 hl
    exact Heap.blk_lt hk, hm b hb⟩
  have hlive : ∀ b k, k ≤ all.length → b ∈ wr O all tr i → Match O all tr (AddD D i) b k → Live (tr k).2 b → Live (tr (i + 1)).2 b := fun b k hk hb hM hl => by
    unfold Live at *; rw [← hwr b k hk hb hM]; exact hl
  have hmix : ∀ b c kb kc x, kb ≤ all.length → kc ≤ all.length → Match O all tr (AddD D i) b kb → Match O all tr (AddD D i) c kc → Live (tr kb).2 b → Live (tr kc).2 c → b ∈ wr O all tr i → c ∉ wr O all tr i → ρ' b = some x → ρ' c = some x → False := fun b c kb kc x hkb hkc hMb hMc hlb hlc hb hc hxb hxc => by
    have hxc' := hrho c x hc hxc
    have hMc' := hold c kc hc hMc
    rcases hres.newx b x hxb with h1 | h1 | ⟨b0, h1, h2, h3⟩
    · have hlb' := hlive b kb hkb hb hMb hlb
      have hsb := hset b hb hlb'
      have hlt : b < (tr i).2.length := by
        rcases Nat.lt_or_ge b (tr i).2.length with h | h
        · exact h
        · exact absurd hsb (hI.dom b x h1 h)
      have := h.inj b c i kc x (by omega) hkc (hm b hb) hMc' (hf.live b hlt hlb') hlc h1 hxc'
      exact hc (this ▸ hb)
    · have := (h.lo c x hxc').2; omega
    · have hb0 := hT b0 h1
      have := h.inj b0 c i kc x (by omega) hkc (hm b0 hb0) hMc' h3 hlc h2 hxc'
      exact hc (this ▸ hb0)
  refine ⟨?_, ?_, hres.inv.below, h.base_le, hres.inv.okLt, hres.inv.lo, ?_, ?_, ?_, ?_, ?_, h.ext.trans hres.ext, fun x hx => ?_, fun j hj hd b h1 h2 => ?_, fun b x hb hlt => ?_, h.doms, fun b x hb => ?_, fun x hlt hno => ?_⟩
  · cases hd : o.dst with
    | none => exact h.size
    | some d => simp [Act.put, h.size]
  · cases hd : o.dst with
    | none => exact h.defers
    | some d => exact h.defers
  · intro b x hx
    rcases hres.newb b x hx with h1 | ⟨h1, h2⟩
    · rcases h.dom b x h1 with h2 | ⟨j, hj, hd, h2⟩
      · exact .inl h2
      · exact .inr ⟨j, hj, .inl hd, h2⟩
    · exact .inr ⟨i, hi, .inr rfl, h1, h2⟩
  · intro b k kb x hk hM hkb hx
    by_cases hb : b ∈ wr O all tr i
    · rw [hwr b k hk hb hM] at hkb
      exact hres.inv.own b kb x (hset b hb (by unfold Live; rw [hkb]; rfl)) hkb hx
    · have hx' := hrho b x hb hx
      have hM' := hold b k hb hM
      refine (h.own b k kb x hk hM' hkb hx').ext hres.ext (hres.frame x (h.lo b x hx').2 fun b0 h0 hl0 hx0 => ?_)
      have := h.inj b b0 k i x hk (by omega) hM' (hm b0 (hT b0 h0)) (by unfold Live; rw [hkb]; rfl) hl0 hx' hx0
      exact hb (this ▸ hT b0 h0)
  · intro b k x hk hM hl hx he
    by_cases hb : b ∈ wr O all tr i
    · have hl' := hlive b k hk hb hM hl
      exact hres.inv.apart x b hx (hset b hb hl') hl' he
    · have he' := hrho b x hb he
      rcases hres.fresh x hx with h1 | h1
      · exact h.apart b k x hk (hold b k hb hM) hl h1 he'
      · have := (h.lo b x he').2; omega
  · intro b c kb kc x hkb hkc hMb hMc hlb hlc hxb hxc
    by_cases hb : b ∈ wr O all tr i
    · by_cases hc : c ∈ wr O all tr i
      · have hlb' := hlive b kb hkb hb hMb hlb
        have hlc' := hlive c kc hkc hc hMc hlc
        exact hres.inv.inj b c x (hset b hb hlb') (hset c hc hlc') hlb' hlc' hxb hxc
      · exact (hmix b c kb kc x hkb hkc hMb hMc hlb hlc hb hc hxb hxc).elim
    · by_cases hc : c ∈ wr O all tr i
      · exact (hmix c b kc kb x hkc hkb hMc hMb hlc hlb hc hb hxc hxb).elim
      · exact h.inj b c kb kc x hkb hkc (hold b kb hb hMb) (hold c kc hc hMc) hlb hlc (hrho b x hb hxb) (hrho c x hc hxc)
  · intro s k hk hM
    by_cases hs : o.dst = some s
    · have hik : i < k := (hM i o hoi hs).1 (.inr rfl)
      have hms : MatchS all D s i := matchS_at hOrd hoi hni hanc hno (.inr hs)
      have hsame := at_same hO hS.st (k - (i + 1)) (i + 1) s (by omega) fun j p hj hj2 hp hps => by
        have hDj : D j := ((hM j p hp hps).2 (by omega)).resolve_right (by omega)
        have := (hms j p hp hps).1 hDj
        omega
      rw [show i + 1 + (k - (i + 1)) = k from by omega] at hsame
      rw [hsame, hE, hs]
      simp only [putE, at_put, if_true, Act.put]
      rw [getD_put (by rw [h.size]; exact hdst s hs), if_pos rfl]
      exact hres.rep
    · have hM' : MatchS all D s k := fun j p hp hps => by
        have hne : j ≠ i := fun e => by subst e; rw [hoi] at hp; exact hs (Option.some.inj hp ▸ hps)
        have := hM j p hp hps
        exact ⟨fun hd => this.1 (.inl hd), fun hlt => (this.2 hlt).resolve_right hne⟩
      have hv := (h.slots s k hk hM').ext hres.ext
      have : (a.put o.dst u).tmps.getD s undef = a.tmps.getD s undef := by
        cases hd : o.dst with
        | none => rfl
        | some d =>
          simp only [Act.put]
          rw [getD_put (by rw [h.size]; exact hdst d hd), if_neg (fun e => hs (by rw [hd, e]))]
      rw [this]; exact hv
  · rcases hres.fresh x hx with h1 | h1
    · exact h.fresh x h1
    · have := h.ext.grow; exact .inr (by omega)
  · rcases hd with hd | rfl
    · obtain ⟨x, hx⟩ := h.made j hj hd b h1 h2; exact ⟨x, hres.ext.rho b x hx⟩
    · exact hres.all b h1 h2
  · exact h.old b x (hres.old b x hb (Nat.lt_of_lt_of_le hlt (len_le hO hS.st (Nat.zero_le i) (by omega)))) hlt
  · rcases hres.newx b x hb with h1 | h1 | ⟨b0, _, h1, hl0⟩
    · exact h.newx b x h1
    · have := h.ext.grow; exact .inr (.inl (by omega))
    · rcases h.newx b0 x h1 with h3 | h3 | h3
      · exact .inr (.inr ⟨b0, h3, live_le hO hS.st (h.doms b0 x h3) i (by omega) hl0⟩)
      · exact .inr (.inl h3)
      · exact .inr (.inr h3)
  · have := h.ext.grow
    rw [hres.frame x (by omega) fun b hb hl hx => ?_]
    · exact h.frame x hlt hno
    · rcases h.newx b x hx with h1 | h1 | ⟨b0, h1, h2⟩
      · exact hno b (live_le hO hS.st (h.doms b x h1) i (by omega) hl) h1
      · omega
      · exact hno b0 h2 h1
end
end Go.VM
/- Regions whose order the model draws: the whole. -/
namespace Go.VM
open Go.RowKit
set_option linter.unusedVariables false
set_option linter.unusedSimpArgs false
set_option linter.unusedSectionVars false

section
variable {P : Program} {O : Calls'} {ops : Array Oper} {N : Nat}
variable {tr : Nat → Env × Heap} {base : Nat} {w0 ws : World} {oks : Nat → Prop} {ρs : Nat → Option Nat} {Q : Exit → Act → World → Prop}

theorem wants_congr {g : Option (Nat × Bool)} {all : List VOper} {E E' : Env} (h : ∀ s, s ∈ (match g with | some (g, _) => (match all[g]? with | some p => p.dst.toList | none => []) | none => []) → E.at s = E'.at s) : wants g all E = wants g all E' := by
  cases g with
  | none => rfl
  | some g =>
    obtain ⟨j, t⟩ := g
    simp only [wants]
    cases hp : all[j]? with
    | none => rfl
    | some p =>
      simp only [hp] at h ⊢
      cases hd : p.dst with
      | none => rfl
      | some d => rw [hd] at h; simp only; rw [h d (by simp)]

/-- what has been carried out, as the model keeps it -/
def Listed (listed : Array Bool) : Nat → Prop := fun j => listed.getD j false = true

theorem any_sound {an : List (List Nat)} (hO : CallOk P O) (han : an = ancs ops.toList []) (hS : Steps O (ops.toList.map (compOper P)) tr) (ht : Trace O (ops.toList.map (compOper P)) an tr 0 []) (hOrd : Ord O (ops.toList.map (compOper P)) tr an)
    (hdst : ∀ (i : Nat) o d, ops[i]? = some o → o.dst = some d → d < N) (hback : ∀ (i : Nat) o e, ops[i]? = some o → e ∈ o.after → Region.binds .any e = true → e.on < i)
    (hQ : ∀ w ok ρ a, Inv base w0 w ok ρ (fun _ => True) (tr ops.size).2 → FRep w ok ρ N (tr ops.size).1 a → Went ws oks ρs (tr 0).2 w ok ρ (tr ops.size).2 → Q .normal a w) :
    ∀ (fuel : Nat) (listed : Array Bool) (a : Act) (w : World) (ok : Nat → Prop) (ρ : Nat → Option Nat), listed.size = ops.size → listed.toList.countP (!·) ≤ fuel →
      (∀ (j : Nat) o e, Listed listed j → ops[j]? = some o → e ∈ o.after → Region.binds .any e = true → Listed listed e.on) →
      DRel O (ops.toList.map (compOper P)) tr N base w0 ws oks ρs (Listed listed) a w ok ρ → wpAny P .any ops Q fuel listed a w := by
  have hlen : (ops.toList.map (compOper P)).length = ops.size := by simp
  -- nothing is ready: all has been carried out
  have hend : ∀ (listed : Array Bool) (a : Act) (w : World) (ok : Nat → Prop) (ρ : Nat → Option Nat), listed.size = ops.size →
      DRel O (ops.toList.map (compOper P)) tr N base w0 ws oks ρs (Listed listed) a w ok ρ → Region.ready .any ops listed = [] → Q .normal a w := by
    intro listed a w ok ρ hsz hR hr
    have hall : ∀ j, j < ops.size → Listed listed j := by
      intro j
      induction j using Nat.strongRecOn with
      | _ j ih =>
        intro hj
        by_cases hL : Listed listed j
        · exact hL
        · exfalso
          have hoj : ops[j]? = some ops[j] := Array.getElem?_eq_getElem hj
          have : j ∈ Region.ready .any ops listed := by
            rw [mem_ready]
            have hjl : j < listed.size := by omega
            refine ⟨?_, ops[j], hoj, fun e he hb => ih e.on (hback j _ e hoj he hb) (by have := hback j _ e hoj he hb; omega)⟩
            unfold Listed at hL
            simp only [Array.getD_eq_getD_getElem?, Array.getElem?_eq_getElem hjl, Option.getD_some, Bool.not_eq_true] at hL ⊢
            exact hL
          rw [hr] at this; cases this
    have hM : ∀ b, Match O (ops.toList.map (compOper P)) tr (Listed listed) b ops.size := fun b j hj _ => ⟨fun _ => by omega, fun h => hall j h⟩
    have hMS : ∀ s, MatchS (ops.toList.map (compOper P)) (Listed listed) s ops.size := fun s j o ho _ => ⟨fun _ => by have := (List.getElem?_eq_some_iff.1 ho).1; omega, fun h => hall j h⟩
    refine hQ w ok ρ a ⟨hR.below, hR.base_le, hR.okLt, hR.lo, fun b x hx hle _ => ?_, fun x b hx _ hl => hR.apart b _ x (by omega) (hM b) hl hx, fun b c x _ _ hb hc h1 h2 => hR.inj b c _ _ x (by omega) (by omega) (hM b) (hM c) hb hc h1 h2, fun b k x _ hk hx => hR.own b _ k x (by omega) (hM b) hk hx⟩ ⟨hR.size, fun s => hR.slots s _ (by omega) (hMS s), hR.defers⟩
      ⟨hR.ext, hR.fresh, len_le hO hS.st (Nat.zero_le _) (by omega), fun b hb hl => live_le hO hS.st hb _ (by omega) hl, hR.old, fun b h1 h2 => ?_, hR.frame, fun b x hb => ?_, hR.newx⟩
    rotate_left
    · obtain ⟨j, hj, h3, h4⟩ := made_at b ops.size h1 h2
      exact hR.made j (by omega) (hall j hj) b h3 h4
    · rcases hR.dom b x hb with h1 | ⟨j, hj, hd, h1, h2⟩
      · exact .inl (hR.old b x hb h1)
      · have := len_le hO hS.st (Nat.zero_le j) (by omega)
        have := len_le hO hS.st (i := j + 1) (k := ops.size) (by omega) (by omega)
        exact .inr (by omega)
    rcases hR.dom b x hx with h1 | ⟨j, hj, hd, h1, h2⟩
    · have := len_le hO hS.st (Nat.zero_le ops.size) (by omega); omega
    · have := len_le hO hS.st (i := j + 1) (k := ops.size) (by omega) (by omega); omega
  intro fuel
  induction fuel with
  | zero =>
    intro listed a w ok ρ hsz hc hcl hR
    have hr : Region.ready .any ops listed = [] := by
      rcases hr : Region.ready .any ops listed with _ | ⟨j, l⟩
      · rfl
      · exfalso
        have hj : j ∈ Region.ready .any ops listed := by rw [hr]; simp
        obtain ⟨h0, o, ho, _⟩ := mem_ready.1 hj
        have hjl : j < listed.size := by rw [hsz]; exact (Array.getElem?_eq_some_iff.1 ho).1
        have hf : listed[j] = false := by simpa [Array.getD_eq_getD_getElem?, hjl] using h0
        have : 0 < listed.toList.countP (!·) := List.countP_pos_iff.2 ⟨false, by rw [← hf]; simp, rfl⟩
        omega
    exact ⟨hr, hend listed a w ok ρ hsz hR hr⟩
  | succ fuel ih =>
    intro listed a w ok ρ hsz hc hcl hR
    refine ⟨hend listed a w ok ρ hsz hR, fun i hi => ?_⟩
    obtain ⟨h0, o, ho, haft⟩ := mem_ready.1 hi
    have hil : i < listed.size := by rw [hsz]; exact (Array.getElem?_eq_some_iff.1 ho).1
    have hf : listed[i] = false := by simpa [Array.getD_eq_getD_getElem?, hil] using h0
    have hni : ¬ Listed listed i := by unfold Listed; simp [Array.getD_eq_getD_getElem?, hil, hf]
    have hoi : (ops.toList.map (compOper P))[i]? = some (compOper P o) := by
      rw [List.getElem?_map, Array.getElem?_toList, ho]; rfl
    have hanc : ∀ j ∈ an.getD i [], Listed listed j := by rw [han]; exact anc_closed hcl i o ho haft
    have hno : ∀ j, Listed listed j → i ∉ an.getD j [] := fun j hj hm => by
      rw [han] at hm
      rcases hoj : ops[j]? with _ | oj
      · have h1 := Array.getElem?_eq_none_iff.1 hoj
        obtain ⟨hl, _⟩ := ancs_get ops.toList []
        rw [List.getD_eq_getElem?_getD, List.getElem?_eq_none (by rw [hl]; simpa using h1)] at hm
        simp at hm
      · exact hni (anc_closed hcl j oj hoj (fun e he hb => hcl j oj e hj hoj he hb) i hm)
    have hdsti : ∀ d, (compOper P o).dst = some d → d < N := fun d hd => hdst i o d ho hd
    have hnext : ∀ (a' : Act) (w' : World) (ok' : Nat → Prop) (ρ' : Nat → Option Nat), DRel O (ops.toList.map (compOper P)) tr N base w0 ws oks ρs (AddD (Listed listed) i) a' w' ok' ρ' → wpAny P .any ops Q fuel (listed.setIfInBounds i true) a' w' := by
      intro a' w' ok' ρ' hR'
      have hset : Listed (listed.setIfInBounds i true) = AddD (Listed listed) i := by
        funext j
        unfold Listed AddD
        simp only [Array.getD_eq_getD_getElem?]
        by_cases hij : i = j
        · subst hij; simp [hil]
        · rw [Array.getElem?_setIfInBounds_ne hij]; simp [Ne.symm hij]
      refine ih _ a' w' ok' ρ' (by simpa using hsz) ?_ ?_ (by rw [hset]; exact hR')
      · have h1 : (listed.setIfInBounds i true).toList = listed.toList.set i true := by simp
        rw [h1, List.countP_set (by simpa using hil)]
        simp only [Array.getElem_toList, hf]
        have : 0 < listed.toList.countP (!·) := List.countP_pos_iff.2 ⟨false, by rw [← hf]; simp, rfl⟩
        rw [if_pos (by rfl), if_neg (by simp)]
        omega
      · intro j o' e hj ho' he hb
        rw [hset] at hj ⊢
        rcases hj with hj | rfl
        · exact .inl (hcl j o' e hj ho' he hb)
        · rw [ho] at ho'; obtain rfl := Option.some.inj ho'
          exact .inl (haft e he hb)
    have hst := hS.st i _ hoi
    obtain ⟨hfr, _, _, _⟩ := step_frame hO hst
    have hI := hR.inv hO hS (i := i) (by rw [hlen]; omega) hni
    -- the frame, as far as i looks at it
    have hF : FRep w ok ρ N ((tr i).1.keep (looks (ops.toList.map (compOper P)) (compOper P o))) a := by
      refine ⟨hR.size, fun s => ?_, hR.defers⟩
      rw [at_keep]
      split
      · rename_i hs
        exact hR.slots s i (by rw [hlen]; omega) (matchS_at hOrd hoi hni hanc hno (.inl hs))
      · exact .undef _
    have hgd : ∀ s, s ∈ looks (ops.toList.map (compOper P)) (compOper P o) → ((tr i).1.keep (looks (ops.toList.map (compOper P)) (compOper P o))).at s = (tr i).1.at s := fun s hs => by rw [at_keep, if_pos hs]
    have hw : wants (compOper P o).guard (ops.toList.map (compOper P)) ((tr i).1.keep (looks (ops.toList.map (compOper P)) (compOper P o))) = wants (compOper P o).guard (ops.toList.map (compOper P)) (tr i).1 :=
      wants_congr fun s hs => hgd s (List.mem_append_right _ hs)
    have hx : ∀ x ∈ (compOper P o).op.xs, X.ev ((tr i).1.keep (looks (ops.toList.map (compOper P)) (compOper P o))) x = X.ev (tr i).1 x := fun x hxm => by
      cases x with
      | t s => exact hgd s (List.mem_append_left _ (List.mem_filterMap.2 ⟨.t s, hxm, rfl⟩))
      | c v => rfl
    obtain ⟨c1, c2, c3⟩ := op_congr (O := O) (op := (compOper P o).op) (tr i).2 hx
    have hreads := ht.reads i _ (Nat.zero_le _) hoi
    have hrw := hst
    unfold stepO at hrw
    split at hrw
    · rename_i hwant
      rw [hwant] at hw
      have hw' := wants_sound (ops := ops) (P := P) (o := o) hF.slots hw
      split at hrw
      · rename_i v H2 hop
        have hE : (tr (i + 1)).1 = putE (compOper P o).dst v (tr i).1 := by rw [← Option.some.inj hrw]
        have hH : (tr (i + 1)).2 = H2 := by rw [← Option.some.inj hrw]
        rw [← c1] at hop
        refine wpOp_run hO ho hw' hop hF.reps hI (fun b hb => ?_) (.inl (by rw [c2]; unfold footO at hreads; rw [hwant] at hreads; exact hreads)) (fun b h1 h2 => ?_) fun u w' ok' ρ' hres => ?_
        · rw [c2] at hb
          have hbr : b ∈ rd O (ops.toList.map (compOper P)) tr i := by rw [rd_eq hoi]; unfold footO; rw [hwant]; exact hb
          refine ⟨?_, match_at hOrd (by rw [hlen]; omega) hni hanc hno (.inl hbr)⟩
          rw [rd_eq hoi] at hbr
          have := List.all_eq_true.1 hreads b hbr
          have := hfr.len
          simp at *; omega
        · refine ⟨by rw [hH]; exact h2, match_at hOrd (by rw [hlen]; omega) hni hanc hno (.inr ?_)⟩
          rw [wr_eq hoi]; unfold footO; rw [hwant]
          refine List.mem_append_right _ ?_
          rw [List.mem_range'_1, hH]; omega
        · rw [c3, ← hH] at hres
          exact hnext _ _ _ _ (hR.step hO hS hOrd hoi hni hanc hno hdsti (fun b hb => by
            rw [wr_eq hoi]; unfold footO; rw [hwant]; exact List.mem_append_left _ hb) hE hres)
      · cases hrw
    · rename_i hwant
      rw [hwant] at hw
      have hw' := wants_sound (ops := ops) (P := P) (o := o) hF.slots hw
      have hE : (tr (i + 1)).1 = putE (compOper P o).dst (.tup []) (tr i).1 := by rw [← Option.some.inj hrw]
      have hH : (tr (i + 1)).2 = (tr i).2 := by rw [← Option.some.inj hrw]
      unfold wpOp
      rw [ho]
      simp only [hw', Bool.false_eq_true, if_false]
      have hres : OpRes base w0 w ok ρ (SetAt O (ops.toList.map (compOper P)) tr (Listed listed) i) (tr i).2 [] (.tup []) (tr (i + 1)).2 undef w ok ρ := by
        rw [hH]; exact OpRes.pure hI (.tup [] #[] rfl fun j v u h => by simp at h)
      exact hnext _ _ _ _ (hR.step hO hS hOrd hoi hni hanc hno hdsti (fun b hb => by simp at hb) hE hres)
    · cases hrw

/-- a region whose order is drawn -/
theorem draw_sound {w : World} {ok : Nat → Prop} {ρ : Nat → Option Nat} {a : Act} {E E' : Env} {H H' : Heap} {id : Nat} (hm : P.follows .mixedOrders = true) (hO : CallOk P O)
    (hdst : ∀ (i : Nat) o d, ops[i]? = some o → o.dst = some d → d < N) (hback : ∀ (i : Nat) o e, ops[i]? = some o → e ∈ o.after → Region.binds .any e = true → e.on < i)
    (hslots : slotsOk (ops.toList.map (compOper P)) (ancs ops.toList []) = true)
    (hrun : runDraw O (ops.toList.map (compOper P)) (ancs ops.toList []) (ops.toList.map (compOper P)) 0 [] E H = some (E', H')) (hI : Inv base w0 w ok ρ (fun _ => True) H) (hF : FRep w ok ρ N E a)
    (hQ : ∀ w' ok' ρ' a', Inv base w0 w' ok' ρ' (fun _ => True) H' → FRep w' ok' ρ' N E' a' → Went w ok ρ H w' ok' ρ' H' → Q .normal a' w') : (Code.region id ops true).wp P Q a w := by
  apply wp_region_any hm
  obtain ⟨tr, h0, hn, ht⟩ := trace_of _ 0 [] E H rfl (Nat.zero_le _) hrun
  have hOrd := ord_of ht hslots
  have hdrew : Ext w ok ρ { w with drawn := w.drawn + 1 } ok ρ := ⟨fun _ h => h, fun _ _ h => h, fun _ _ => rfl, fun x c T fz h => ⟨c, fz, h, rfl⟩, Nat.le_refl _⟩
  have hlen : (ops.toList.map (compOper P)).length = ops.size := by simp
  have hnone : ∀ j, ¬ Listed (Array.replicate ops.size false) j := fun j h => by
    unfold Listed at h
    rw [Array.getD_eq_getD_getElem?, Array.getElem?_replicate] at h
    split at h <;> simp at h
  have hS : Steps O (ops.toList.map (compOper P)) tr := ⟨fun i o ho => ht.step i o (Nat.zero_le _) ho⟩
  have hM : ∀ b k, k ≤ ops.size → Match O (ops.toList.map (compOper P)) tr (Listed (Array.replicate ops.size false)) b k → (tr k).2.blk b = H.blk b := fun b k hk hM => by
    have := (blk_same hO hS.st k 0 b (by omega) fun j _ hj hbj => hnone j ((hM j (by omega) hbj).2 (by omega))).1
    rw [Nat.zero_add] at this
    rw [this, h0]
  have hMS : ∀ s k, k ≤ ops.size → MatchS (ops.toList.map (compOper P)) (Listed (Array.replicate ops.size false)) s k → (tr k).1.at s = E.at s := fun s k hk hM => by
    have := at_same hO hS.st k 0 s (by omega) fun j o _ hj ho hos => hnone j ((hM j o ho hos).2 (by omega))
    rw [Nat.zero_add] at this
    rw [this, h0]
  have hlv : ∀ b k, k ≤ ops.size → Match O (ops.toList.map (compOper P)) tr (Listed (Array.replicate ops.size false)) b k → Live (tr k).2 b → Live H b := fun b k hk h hl => by unfold Live at *; rw [← hM b k hk h]; exact hl
  refine any_sound (ρs := ρ) (oks := ok) (ws := w) (base := base) (w0 := w0) (tr := tr) hO rfl hS ht hOrd hdst hback (fun w' ok' ρ' a' h1 h2 h3 => ?_) ops.size _ a _ ok ρ (by simp) (by
      have := List.countP_le_length (p := (!·)) (l := (Array.replicate ops.size false).toList)
      simpa using this) (fun j o e hj => absurd hj (hnone j)) ?_
  · rw [hlen] at hn
    rw [hn] at h1 h2 h3
    rw [h0] at h3
    exact hQ w' ok' ρ' a' h1 h2 h3
  · refine ⟨hF.size, hF.defers, ⟨hI.below.os, hI.below.tape, hI.below.output, hI.below.size, hI.below.block⟩, hI.base_le, hI.okLt, hI.lo, fun b x hx => ?_, fun b k kb x hk hm hkb hx => ?_, fun b k x hk hm hl hx => hI.apart x b hx trivial (hlv b k (by omega) hm hl), fun b c kb kc x hkb hkc hb hc hlb hlc h1 h2 => hI.inj b c x trivial trivial (hlv b kb (by omega) hb hlb) (hlv c kc (by omega) hc hlc) h1 h2, fun s k hk hm => ?_, hdrew, fun _ h => .inl h, fun j _ hd => absurd hd (hnone j), fun _ _ h _ => h, fun b x hx => ?_, fun _ _ h => .inl h, fun _ _ _ => rfl⟩
    · left
      rw [h0]
      rcases Nat.lt_or_ge b H.length with h | h
      · exact h
      · exact absurd trivial (hI.dom b x hx h)
    · rw [hM b k (by omega) hm] at hkb
      exact (hI.own b kb x trivial hkb hx).ext hdrew rfl
    · rw [hMS s k (by omega) hm]
      exact (hF.slots s).ext hdrew
    · rw [h0]
      rcases Nat.lt_or_ge b H.length with h | h
      · exact h
      · exact absurd trivial (hI.dom b x hx h)
end
end Go.VM
