/- Two structs are compared cell by cell. -/
import Derived.Test.YtomeaojdihfgmaaVmB
import Derived.Orders
import Derived.Scope
namespace Go.VM
open Go.RowKit
set_option linter.unusedVariables false
set_option linter.unusedSimpArgs false
set_option linter.unusedSectionVars false

theorem cellsEq_cons {k : Nat} {ks : List Nat} {x y : List V} {r : Bool} (h : cellsEq (k :: ks) x y = some r) :
    ∃ a x' b y' p q, x = .d (.lit a) :: x' ∧ y = .d (.lit b) :: y' ∧ kindEq k a b = some p ∧ cellsEq ks x' y' = some q ∧ r = (p && q) := by
  match x, y with
  | .d (.lit a) :: x', .d (.lit b) :: y' =>
    simp only [cellsEq] at h
    split at h
    · rename_i p q hp hq
      exact ⟨a, x', b, y', p, q, rfl, rfl, hp, hq, (Option.some.inj h).symm⟩
    · cases h
  | [], _ => simp [cellsEq] at h
  | .d (.lit _) :: _, [] => simp [cellsEq] at h
  | .d (.sl _) :: _, _ => simp [cellsEq] at h
  | .undef :: _, _ => simp [cellsEq] at h
  | .nilS :: _, _ => simp [cellsEq] at h
  | .ref .. :: _, _ => simp [cellsEq] at h
  | .ptr .. :: _, _ => simp [cellsEq] at h
  | .fptr _ :: _, _ => simp [cellsEq] at h
  | .agg _ :: _, _ => simp [cellsEq] at h
  | .tup _ :: _, _ => simp [cellsEq] at h
  | .clo .. :: _, _ => simp [cellsEq] at h
  | .d (.lit _) :: _, .d (.sl _) :: _ => simp [cellsEq] at h
  | .d (.lit _) :: _, .undef :: _ => simp [cellsEq] at h
  | .d (.lit _) :: _, .nilS :: _ => simp [cellsEq] at h
  | .d (.lit _) :: _, .ref .. :: _ => simp [cellsEq] at h
  | .d (.lit _) :: _, .ptr .. :: _ => simp [cellsEq] at h
  | .d (.lit _) :: _, .fptr _ :: _ => simp [cellsEq] at h
  | .d (.lit _) :: _, .agg _ :: _ => simp [cellsEq] at h
  | .d (.lit _) :: _, .tup _ :: _ => simp [cellsEq] at h
  | .d (.lit _) :: _, .clo .. :: _ => simp [cellsEq] at h

theorem cellsEq_len : ∀ {ks : List Nat} {x y : List V} {r : Bool}, cellsEq ks x y = some r → x.length = ks.length ∧ y.length = ks.length
  | [], x, y, r, h => by
    cases x <;> cases y <;> simp_all [cellsEq]
  | k :: ks, x, y, r, h => by
    obtain ⟨a, x', b, y', p, q, rfl, rfl, _, hq, _⟩ := cellsEq_cons h
    obtain ⟨h1, h2⟩ := cellsEq_len hq
    exact ⟨by simp [h1], by simp [h2]⟩

theorem cellsEq_append {k1 k2 : List Nat} : ∀ {x y : List V} {r : Bool}, cellsEq (k1 ++ k2) x y = some r →
    ∃ r1 r2, cellsEq k1 (x.take k1.length) (y.take k1.length) = some r1 ∧ cellsEq k2 (x.drop k1.length) (y.drop k1.length) = some r2 ∧ r = (r1 && r2) := by
  induction k1 with
  | nil => intro x y r h; exact ⟨true, r, by simp [cellsEq], by simpa using h, by simp⟩
  | cons k ks ih =>
    intro x y r h
    rw [List.cons_append] at h
    obtain ⟨a, x', b, y', p, q, rfl, rfl, hp, hq, rfl⟩ := cellsEq_cons h
    obtain ⟨r1, r2, h1, h2, h3⟩ := ih hq
    refine ⟨p && r1, r2, ?_, by simpa using h2, by rw [h3, Bool.and_assoc]⟩
    simp only [List.length_cons, List.take_succ_cons]
    simp only [cellsEq, hp, h1]

section
variable {P : Program} {w : World} {ok : Nat → Prop} {ρ : Nat → Option Nat}

/-- cells of an array of values, from a place on, that stand for cells of the evaluator -/
def RepsFrom (w : World) (ok : Nat → Prop) (ρ : Nat → Option Nat) (us : Array Value) (off : Nat) (x : List V) : Prop := ∀ (j : Nat) v, x[j]? = some v → ∃ u, us[off + j]? = some u ∧ VRep w ok ρ v u

theorem RepsFrom.take {us : Array Value} {off n : Nat} {x : List V} (h : RepsFrom w ok ρ us off x) : RepsFrom w ok ρ us off (x.take n) := fun j v hv => by
  rw [List.getElem?_take] at hv
  split at hv
  · exact h j v hv
  · cases hv
theorem RepsFrom.drop {us : Array Value} {off n : Nat} {x : List V} (h : RepsFrom w ok ρ us off x) : RepsFrom w ok ρ us (off + n) (x.drop n) := fun j v hv => by
  rw [List.getElem?_drop] at hv
  rw [Nat.add_assoc]; exact h _ v hv
theorem RepsFrom.extract {us : Array Value} {off m : Nat} {x : List V} (h : RepsFrom w ok ρ us off x) (hx : x.length ≤ m) : RepsFrom w ok ρ (us.extract off (off + m)) 0 x := fun j v hv => by
  obtain ⟨u, hu, hr⟩ := h j v hv
  have hj := (List.getElem?_eq_some_iff.1 hv).1
  have hj2 := (Array.getElem?_eq_some_iff.1 hu).1
  refine ⟨u, ?_, hr⟩
  rw [Nat.zero_add, Array.getElem?_extract, if_pos (by omega)]
  exact hu

/-- what comparing at a place comes to -/
def EqAt (P : Program) (w : World) (ok : Nat → Prop) (ρ : Nat → Option Nat) (d : Nat) (t : TypeId) (ks : List Nat) : Prop :=
  szOf P t = some ks.length → ∀ (us us' : Array Value) (off : Nat) (x y : List V) (r : Bool), RepsFrom w ok ρ us off x → RepsFrom w ok ρ us' off y → cellsEq ks x y = some r → off + ks.length ≤ us.size → off + ks.length ≤ us'.size →
    ∃ a b, (part t us off).run P w = .ok a w ∧ (part t us' off).run P w = .ok b w ∧ (Op.equalIn d t a b).run P w = .ok r w

theorem eqAt_fields {g : TypeId → Option (List Nat)} {d : Nat} (hg : ∀ t ks, g t = some ks → EqAt P w ok ρ d t ks) : ∀ (fs : List Field) (off : Nat) (ks : List Nat) (us us' : Array Value) (x y : List V) (r : Bool), fieldsK P g off fs = some ks →
    RepsFrom w ok ρ us off x → RepsFrom w ok ρ us' off y → cellsEq ks x y = some r → off + ks.length ≤ us.size → off + ks.length ≤ us'.size → (Op.eqFields d us us' fs).run P w = .ok r w
  | [], off, ks, us, us', x, y, r, hk, hx, hy, he, h1, h2 => by
    simp [fieldsK] at hk; subst hk
    obtain ⟨l1, l2⟩ := cellsEq_len he
    have : x = [] := List.eq_nil_of_length_eq_zero (by simpa using l1)
    have : y = [] := List.eq_nil_of_length_eq_zero (by simpa using l2)
    subst_vars
    simp [cellsEq] at he; subst he
    simp [Op.eqFields]
  | f :: fs, off, ks, us, us', x, y, r, hk, hx, hy, he, h1, h2 => by
    simp only [fieldsK] at hk
    split at hk
    · rename_i k hk1
      split at hk
      · rename_i z hz
        split at hk
        · rename_i hcond
          obtain ⟨c1, c2, c3⟩ := hcond
          obtain rfl := Option.some.inj hk
          obtain ⟨r1, r2, e1, e2, e3⟩ := cellsEq_append he
          simp only [List.length_append] at h1 h2
          obtain ⟨a, b, p1, p2, p3⟩ := hg f.type k hk1 c3 us us' off _ _ r1 hx.take hy.take e1 (by omega) (by omega)
          have ih := eqAt_fields hg fs (off + k.length) z us us' _ _ r2 hz hx.drop hy.drop e2 (by omega) (by omega)
          unfold Op.eqFields
          rw [if_pos c2, c1]
          simp only [Sem.run_bind, p1, p2, p3, Result.andThen_ok]
          cases r1
          · simp [e3]
          · simp [ih, e3]
        · cases hk
      · cases hk
    · cases hk

theorem run_eq_range {d m s : Nat} {e : TypeId} {k : List Nat} (he : EqAt P w ok ρ d e k) (hs : s = k.length) (hse : szOf P e = some k.length) (us us' : Array Value) : ∀ (n i : Nat) (x y : List V) (r : Bool), cellsEq (List.replicate n k).flatten x y = some r →
    RepsFrom w ok ρ us (i * s) x → RepsFrom w ok ρ us' (i * s) y → (i + n) * s ≤ us.size → (i + n) * s ≤ us'.size →
    ((forIn (List.range' i n 1) ((none, ()) : Option Bool × Unit) fun j _ => (do
        let a ← part e us (j * s)
        let b ← part e us' (j * s)
        let q ← Op.equalIn d e a b
        if (!q) = true then pure (ForInStep.done (some false, ())) else pure (ForInStep.yield (none, ()))) : Sem (Option Bool × Unit))).run P w = .ok (if r then none else some false, ()) w
  | 0, i, x, y, r, h, _, _, _, _ => by
    obtain ⟨l1, l2⟩ := cellsEq_len h
    have : x = [] := List.eq_nil_of_length_eq_zero (by simpa using l1)
    have : y = [] := List.eq_nil_of_length_eq_zero (by simpa using l2)
    subst_vars
    simp [cellsEq] at h; subst h
    simp
  | n + 1, i, x, y, r, h, hx, hy, h1, h2 => by
    rw [List.replicate_succ, List.flatten_cons] at h
    obtain ⟨r1, r2, e1, e2, e3⟩ := cellsEq_append h
    have hb : (i + (n + 1)) * s = i * s + s + n * s := by rw [Nat.add_mul, Nat.add_mul]; omega
    obtain ⟨a, b, p1, p2, p3⟩ := he hse us us' (i * s) _ _ r1 hx.take hy.take e1 (by omega) (by omega)
    have hnext : (i + 1) * s = i * s + k.length := by rw [Nat.add_mul]; omega
    have ih := run_eq_range (d := d) (m := m) he hs hse us us' n (i + 1) _ _ r2 e2 (by rw [hnext]; exact hx.drop) (by rw [hnext]; exact hy.drop) (by rw [show i + 1 + n = i + (n + 1) from by omega]; exact h1) (by rw [show i + 1 + n = i + (n + 1) from by omega]; exact h2)
    rw [List.range'_succ, List.forIn_cons]
    simp only [Sem.run_bind, p1, p2, p3, Result.andThen_ok]
    cases r1
    · simp [e3]
    · simp only [Bool.not_true, Bool.false_eq_true, if_false, Sem.run_pure, Result.andThen_ok]
      rw [ih, e3]
      simp

theorem eqAt_flat : ∀ (n : Nat) (t : TypeId) (ks : List Nat) (d : Nat), flatT P n t = some ks → n ≤ d → EqAt P w ok ρ d t ks
  | 0, t, ks, d, h, _ => by simp [flatT] at h
  | n + 1, t, ks, d, h, hd => by
    obtain ⟨d, rfl⟩ : ∃ d', d = d' + 1 := ⟨d - 1, by omega⟩
    intro hszt us us' off x y r hx hy he h1 h2
    have scalar : ∀ (k : Nat), ks = [k] → aggOf P t = some false → (∀ a b p, kindEq k a b = some p → (Op.equalIn (d + 1) t a b).run P w = .ok p w) →
        ∃ a b, (part t us off).run P w = .ok a w ∧ (part t us' off).run P w = .ok b w ∧ (Op.equalIn (d + 1) t a b).run P w = .ok r w := by
      intro k hk hagg hrun
      subst hk
      obtain ⟨a, x', b, y', p, q, rfl, rfl, hp, hq, rfl⟩ := cellsEq_cons he
      obtain ⟨l1, l2⟩ := cellsEq_len hq
      have : x' = [] := List.eq_nil_of_length_eq_zero (by simpa using l1)
      have : y' = [] := List.eq_nil_of_length_eq_zero (by simpa using l2)
      subst_vars
      simp [cellsEq] at hq; subst hq
      obtain ⟨u, hu, hru⟩ := hx 0 (.d (.lit a)) (by simp)
      obtain ⟨u', hu', hru'⟩ := hy 0 (.d (.lit b)) (by simp)
      have e1 := hru.lit_inv
      have e2 := hru'.lit_inv
      subst e1; subst e2
      refine ⟨u, u', ?_, ?_, by rw [Bool.and_true]; exact hrun _ _ _ hp⟩
      · simp only [Nat.add_zero] at hu
        simp [part, aggOf_run hagg, hu]
      · simp only [Nat.add_zero] at hu'
        simp [part, aggOf_run hagg, hu']
    simp only [flatT] at h
    split at h
    · rename_i hu
      refine scalar 0 (Option.some.inj h).symm (by unfold aggOf; rw [hu]) fun a b p hp => ?_
      unfold kindEq at hp
      split at hp <;> simp_all
      subst hp
      exact run_equalIn_bool' w d t _ _ hu
    · rename_i kk hu
      refine scalar 1 (Option.some.inj h).symm (by unfold aggOf; rw [hu]) fun a b p hp => ?_
      unfold kindEq at hp
      split at hp <;> simp_all
      obtain ⟨rfl, rfl⟩ := hp
      exact run_equalIn_int w d t _ _ _ _ hu
    · rename_i hu
      refine scalar 2 (Option.some.inj h).symm (by unfold aggOf; rw [hu]) fun a b p hp => ?_
      unfold kindEq at hp
      split at hp <;> simp_all
      subst hp
      rw [beq_toListBytes]
      exact run_equalIn_string w d t _ _ hu
    · rename_i m e hu
      split at h
      · rename_i k hk
        split at h
        · rename_i hs
          obtain rfl := Option.some.inj h
          have hagg : aggOf P t = some true := by unfold aggOf; rw [hu]
          obtain ⟨l1, l2⟩ := cellsEq_len he
          refine ⟨.agg (us.extract off (off + (List.replicate m k).flatten.length)), .agg (us'.extract off (off + (List.replicate m k).flatten.length)), by simp [part, aggOf_run hagg, run_sizeOf_sz hszt], by simp [part, aggOf_run hagg, run_sizeOf_sz hszt], ?_⟩
          have hsz : (List.replicate m k).flatten.length = m * k.length := by simp
          have hr := run_eq_range (P := P) (d := d) (m := m) (s := k.length) (eqAt_flat n e k d hk (by omega)) rfl hs (us.extract off (off + (List.replicate m k).flatten.length)) (us'.extract off (off + (List.replicate m k).flatten.length)) m 0 x y r he
            (by rw [Nat.zero_mul]; exact hx.extract (by omega)) (by rw [Nat.zero_mul]; exact hy.extract (by omega)) (by rw [Nat.zero_add, Array.size_extract]; omega) (by rw [Nat.zero_add, Array.size_extract]; omega)
          simp only [Op.equalIn, Sem.run_bind, run_underlying' hu, Result.andThen_ok, run_sizeOf_sz hs]
          rw [Std.Legacy.Range.forIn_eq_forIn_range']
          simp only [Std.Legacy.Range.size, Nat.sub_zero, Nat.add_sub_cancel, Nat.div_one]
          rw [hr]
          cases r <;> simp
        · cases h
      · cases h
    · rename_i fs hu
      split at h
      · cases h
      · rename_i hst
        have hagg : aggOf P t = some true := by unfold aggOf; rw [hu]
        obtain ⟨l1, l2⟩ := cellsEq_len he
        have hfs : P.fieldsOf t = fs := by simp [Program.fieldsOf, hu]
        refine ⟨.agg (us.extract off (off + ks.length)), .agg (us'.extract off (off + ks.length)), by simp [part, aggOf_run hagg, run_sizeOf_sz hszt], by simp [part, aggOf_run hagg, run_sizeOf_sz hszt], ?_⟩
        rw [run_equalIn_struct w d t _ _ (by rw [hfs]; exact hu) (by simpa using hst), hfs]
        exact eqAt_fields (fun t ks h => eqAt_flat n t ks d h (by omega)) fs.toList 0 ks _ _ x y r h (hx.extract (by omega)) (hy.extract (by omega)) he (by rw [Nat.zero_add, Array.size_extract]; omega) (by rw [Nat.zero_add, Array.size_extract]; omega)
    · cases h

variable {base : Nat} {w0 : World} {S : Nat → Prop} {H H' : Heap} {E : Env} {ev : Operand → Value} {v : V}

theorem flatT_struct {n : Nat} {t : TypeId} {fs : Array Field} (h : P.underlying t = some (.struct fs)) : flatT P (n + 1) t = if P.stoodInHeld t then none else fieldsK P (flatT P n) 0 fs.toList := by
  simp only [flatT, h]

theorem snd_eqa {op : BinOp} {t u : TypeId} {x y : Operand} {vo : VOp} (neq : Bool) (ks : List Nat) (x' y' : X) (fs : Array Field) (ht : P.underlying t = some (.struct fs)) (hk : flatT P 20 t = some ks) (hg : P.eqGuardType P.depth t = false) (hop : op = if neq then .neq else .eql)
    (hvo : vo = .eqa neq ks x' y') (hx : compX x = some x') (hy : compX y = some y') (hE : Reps w ok ρ E ev) (hI : Inv base w0 w ok ρ S H)
    (he : evalOp vo (X.ev E) H = some (v, H')) : OpOk P base w0 w ok ρ S H (wtouchOp vo (X.ev E)) ev (.binOp op t x y u) v H' := by
  subst hvo
  simp only [evalOp] at he
  have hrx := hE x x' hx
  have hry := hE y y' hy
  split at he
  · rename_i a b ha hb
    obtain ⟨r, hr, e⟩ := Option.map_eq_some_iff.1 he
    simp only [Prod.mk.injEq] at e
    obtain ⟨rfl, rfl⟩ := e
    rw [ha] at hrx
    rw [hb] at hry
    generalize hux : ev x = ux at hrx
    generalize huy : ev y = uy at hry
    cases hrx with
    | agg _ us hl h =>
      cases hry with
      | agg _ us' hl' h' =>
        obtain ⟨l1, l2⟩ := cellsEq_len hr
        have hrepx : RepsFrom w ok ρ us 0 a := fun j v hv => by
          have hj := (List.getElem?_eq_some_iff.1 hv).1
          have hu : us[j]? = some (us[j]'(by omega)) := Array.getElem?_eq_getElem (by omega)
          exact ⟨_, by rw [Nat.zero_add]; exact hu, h j v _ hv hu⟩
        have hrepy : RepsFrom w ok ρ us' 0 b := fun j v hv => by
          have hj := (List.getElem?_eq_some_iff.1 hv).1
          have hu : us'[j]? = some (us'[j]'(by omega)) := Array.getElem?_eq_getElem (by omega)
          exact ⟨_, by rw [Nat.zero_add]; exact hu, h' j v _ hv hu⟩
        have hrun : (Op.equalIn 10000 t (.agg us) (.agg us')).run P w = .ok r w := by
          rw [show (20 : Nat) = 19 + 1 from rfl, flatT_struct ht] at hk
          split at hk
          · cases hk
          · rename_i hst
            have hfs : P.fieldsOf t = fs := by simp [Program.fieldsOf, ht]
            rw [run_equalIn_struct w 9999 t _ _ (by rw [hfs]; exact ht) (by simpa using hst), hfs]
            exact eqAt_fields (fun t ks h => eqAt_flat 19 t ks 9999 h (by omega)) fs.toList 0 ks _ _ a b r hk hrepx hrepy hr (by omega) (by omega)
        refine .same (u := .bool (if neq then !r else r)) ?_ hI (.lit rfl)
        refine RunsTo.value (s := do eqGuard op t x y (ev x) (ev y); binOp op t (ev x) (ev y)) (fun oper h => by unfold execOp; rw [h]) ?_
        rw [hux, huy]
        cases neq
        · obtain rfl : op = .eql := hop
          simp only [Sem.run_bind, run_eqGuard_agg w _ t x y us us' hg, Result.andThen_ok, run_eql_struct, hrun, Bool.false_eq_true, if_false]
        · obtain rfl : op = .neq := hop
          simp only [Sem.run_bind, run_eqGuard_agg w _ t x y us us' hg, Result.andThen_ok, run_neq_struct, hrun, if_true]
  · cases he
end
end Go.VM
/- Every operation that is no call: what the evaluator tells, the model does. -/
namespace Go.VM
open Go.RowKit
set_option linter.unusedVariables false
set_option linter.unusedSimpArgs false
set_option linter.unusedSectionVars false

section
variable {P : Program} {base : Nat} {w0 w : World} {ok : Nat → Prop} {ρ : Nat → Option Nat} {S : Nat → Prop} {H H' : Heap} {E : Env} {ev : Operand → Value} {v : V}

theorem Source.takes {sz n : Nat} {xs : List (List V)} {ad : Addr} {news : List Value} (h : Source w ok ρ sz xs ad news) (hn : n ≤ xs.length) : Source w ok ρ sz (xs.take n) ad (news.take (n * sz)) := by
  have hl := h.size
  have hle : n * sz ≤ xs.length * sz := Nat.mul_le_mul_right _ hn
  refine ⟨fun e he => h.len e (List.mem_of_mem_take he), by simp; rw [Nat.min_eq_left hn]; omega, fun j u hu => ?_, fun i j c hc => ?_, fun u hu => h.one u (List.mem_of_mem_take hu)⟩
  · rw [List.getElem?_take] at hu
    split at hu
    · exact h.read j u hu
    · cases hu
  · obtain ⟨hi, hc'⟩ := cellAt_take hc
    obtain ⟨_, hj⟩ := cellAt_lt h.len hc'
    obtain ⟨u, hu, hr⟩ := h.rep i j c hc'
    exact ⟨u, by rw [List.getElem?_take, if_pos (idx_lt hi hj)]; exact hu, hr⟩

theorem snd_cpy {args : Array Operand} {ts : Array TypeId} {vo : VOp} (hc : compOp P (.call ⟨.builtin .copy, args, ts⟩) = some vo) (hE : Reps w ok ρ E ev) (hI : Inv base w0 w ok ρ S H)
    (he : evalOp vo (X.ev E) H = some (v, H')) (hS : ∀ b ∈ touchOp vo (X.ev E), S b) : OpOk P base w0 w ok ρ S H (wtouchOp vo (X.ev E)) ev (.call ⟨.builtin .copy, args, ts⟩) v H' := by
  simp only [compOp] at hc
  split at hc
  · rename_i x y t t' hargs hts
    obtain rfl : args = #[x, y] := Array.ext' (by simpa using hargs)
    obtain rfl : ts = #[t, t'] := Array.ext' (by simpa using hts)
    split at hc
    · rename_i e e' x' y' hu hu' hx hy
      split at hc
      · rename_i hee
        subst hee
        obtain ⟨s, hs, rfl⟩ := Option.map_eq_some_iff.1 hc
        simp only [evalOp] at he
        split at he
        · rename_i xs hxs
          split at he
          · rename_i hsz
            have hrx := hE x x' hx
            have hry := hE y y' hy
            simp only [touchOp, wtouchOp] at hS ⊢
            obtain ⟨a, capy, huy, hxl, hsrc⟩ := elems_reads hI (fun b hb => hS b (List.mem_append_right _ hb)) hry hxs hsz
            generalize X.ev E x' = vx at he hrx hS ⊢
            have hgo : ∀ (u : Value) (w' : World), (∀ ty, (Builtin.copy_ #[t, t'] ty #[ev x, ev y]).run P w = .ok u w') → RunsTo P ev (.call ⟨.builtin .copy, #[x, y], #[t, t']⟩) w u w' := fun u w' hr =>
              RunsTo.builtin (s := fun ty => Builtin.copy_ #[t, t'] ty #[ev x, ev y]) (fun ty cs => by simp only [List.map_toArray, List.map_cons, List.map_nil]; rfl) hr
            -- nothing to copy
            have hnone : ∀ (b : Option Addr) (dl dc : Nat), ev x = .slice b dl dc → Nat.min xs.length dl = 0 → ∀ ty, (Builtin.copy_ #[t, t'] ty #[ev x, ev y]).run P w = .ok (goInt 0) w := fun b dl dc hux h0 ty => by
              rw [hux, huy]
              cases b <;> cases a <;> simp [Builtin.copy_, run_underlying' hu, Builtin.lenOf, h0, run_sizeOf_sz hs, Builtin.firstCells, loadCells, loadCellsFrom, storeCells]
            generalize hux : ev x = ux at hrx
            cases hrx with
            | nilS ax =>
              simp only [cpyV, Option.some.injEq, Prod.mk.injEq] at he
              obtain ⟨rfl, rfl⟩ := he
              exact .same (u := .int .i64 0) (hgo _ _ (hnone ax 0 0 hux (Nat.min_zero _))) hI (.lit rfl)
            | ref b bsz off len cap g cap' hrr hlc hcc hmx hs0 hss =>
              simp only [cpyV] at he
              split at he
              · rename_i k hk
                split at he
                · rename_i hcond
                  obtain ⟨c1, c2, c3⟩ := hcond
                  subst c2
                  simp only [Option.some.injEq, Prod.mk.injEq] at he
                  obtain ⟨rfl, rfl⟩ := he
                  have hSb : S b := hS b (by simp [touchV])
                  have hown := hI.own b k g hSb hk hrr
                  obtain ⟨cur, hcur, hcs, hcells⟩ := hown.cells
                  by_cases h0 : min xs.length len = 0
                  · have hH : H.set b (some { k with es := k.es.take off ++ xs.take (min xs.length len) ++ k.es.drop (off + min xs.length len) }) = H := by
                      rw [h0]
                      simp only [List.take_zero, List.append_nil, Nat.add_zero, List.take_append_drop]
                      have hb : H[b]? = some (some k) := by
                        unfold Heap.blk at hk
                        split at hk
                        · obtain rfl := Option.some.inj hk; assumption
                        · cases hk
                      apply List.ext_getElem?
                      intro n
                      rw [List.getElem?_set]
                      split
                      · rename_i hbn; subst hbn; rw [if_pos (List.getElem?_eq_some_iff.1 hb).1, hb]
                      · rfl
                    rw [hH, h0]
                    exact .same (u := .int .i64 0) (hgo _ _ (hnone _ len cap' hux h0)) hI (.lit rfl)
                  · have hx0 : xs.length ≠ 0 := by omega
                    obtain ⟨ad, news, rfl, hsr⟩ := hsrc hx0
                    have hnle : min xs.length len ≤ xs.length := Nat.min_le_left _ _
                    have hst := hsr.takes hnle
                    have hln : (xs.take (min xs.length len)).length = min xs.length len := by rw [List.length_take, Nat.min_eq_left hnle]
                    have hnl : (news.take (min xs.length len * bsz)).length = min xs.length len * bsz := by rw [hst.size, hln]
                    have hb2 : (off + min xs.length len) * bsz ≤ cur.size := by
                      refine Nat.le_trans (Nat.mul_le_mul_right _ c3) ?_
                      rw [← c1]; exact hcs
                    have hb3 := hb2
                    rw [Nat.add_mul] at hb3
                    have hrun : ∀ ty, (Builtin.copy_ #[t, t'] ty #[ev x, ev y]).run P w = .ok (goInt (min xs.length len : Nat)) (w.setRow g (cur.toList.take (off * bsz) ++ news.take (min xs.length len * bsz) ++ cur.toList.drop (off * bsz + (news.take (min xs.length len * bsz)).length)).toArray) := fun ty => by
                      have hf := run_firstCells_some (P := P) w bsz (min xs.length len) ad xs.length capy (news.take (min xs.length len * bsz)) hnl hst.read
                      have hstore := run_storeCells_at P g (off * bsz) k.ty (news.take (min xs.length len * bsz)) 0 cur w hcur (by rw [hnl]; simpa using hb3) hst.one
                      simp only [Nat.add_zero] at hstore
                      rw [hux, huy]
                      have hmin : Nat.min xs.length len = min xs.length len := rfl
                      simp [Builtin.copy_, run_underlying' hu, Builtin.lenOf, hmin, run_sizeOf_sz hs, hf, hstore]
                    refine ⟨_, _, ok, ρ, hgo _ _ hrun, ?_⟩
                    rw [← c1] at hst hb2 ⊢
                    have := OpRes.splice (T := touchV (.ref b k.sz off len cap)) hI hSb hk hrr (by simp [touchV]) hown cur hcur off hst (by rw [c1, hnl]; exact hb3) (by omega) (by rw [hln]; exact hb2) (v := V.int .i64 (min xs.length len : Nat)) (u := goInt (min xs.length len : Nat)) (.lit rfl)
                    rw [hln] at this
                    exact this
                · cases he
              · cases he
            | _ => simp [cpyV] at he
          · cases he
        · cases he
      · cases hc
    · cases hc
  · cases hc

/-- **every operation but a call** -/
theorem evalOp_sound {o : Op} {vo : VOp} (hc : compOp P o = some vo) (hE : Reps w ok ρ E ev) (hI : Inv base w0 w ok ρ S H)
    (he : evalOp vo (X.ev E) H = some (v, H')) (hS : ∀ b ∈ touchOp vo (X.ev E), S b) (hN : ∀ b, H.length ≤ b → b < H'.length → S b) : OpOk P base w0 w ok ρ S H (wtouchOp vo (X.ev E)) ev o v H' := by
  cases o with
  | move x => exact snd_mv _ (.inl rfl) hc hE hI he
  | assign x => exact snd_mv _ (.inr rfl) hc hE hI he
  | pick c a b => exact snd_pick hc hE hI he
  | alloc t => exact snd_alloc hc hI he hN
  | box t x => exact snd_box hc hE hI he hN
  | build t parts => exact snd_build hc hE hI he
  | buildSlice t len parts => exact snd_bslice hc hE hI he hN
  | load t a => exact snd_load hc hE hI he hS
  | store t a x => exact snd_store hc hE hI he hS
  | nilCheck x => exact snd_nchk hc hE hI he
  | binOp op t x y u =>
    simp only [compOp] at hc
    split at hc
    · rename_i x' y' k hx hy hu
      exact snd_bin x' y' (Option.some.inj hc).symm hx hy hE hI he
    · rename_i x' y' hx hy hu
      split at hc
      · exact snd_eqb false x' y' hu rfl (Option.some.inj hc).symm hx hy hE hI he
      · exact snd_eqb true x' y' hu rfl (Option.some.inj hc).symm hx hy hE hI he
      · cases hc
    · rename_i x' y' hx hy hu
      exact snd_bin x' y' (Option.some.inj hc).symm hx hy hE hI he
    · rename_i x' y' fs hx hy hu
      split at hc
      · rename_i ks hk
        split at hc
        · cases hc
        · rename_i hgu
          exact snd_eqa false ks x' y' fs hu hk (Bool.eq_false_iff.2 hgu) rfl (Option.some.inj hc).symm hx hy hE hI he
      · rename_i ks hk
        split at hc
        · cases hc
        · rename_i hgu
          exact snd_eqa true ks x' y' fs hu hk (Bool.eq_false_iff.2 hgu) rfl (Option.some.inj hc).symm hx hy hE hI he
      · cases hc
    · cases hc
  | unOp op t x => exact snd_un hc hE hI he
  | convert s t x => exact snd_conv hc hE hI he
  | makeFunc fn first caps =>
    cases fn with
    | func f => exact snd_mkf hc hE hI he
    | _ => simp [compOp] at hc
  | makeSlice t l c => exact snd_mks hc hE hI he hN
  | slice t x lo hi mx => exact snd_slc hc hE hI he
  | fieldAddr t x f => exact snd_fa hc hE hI he
  | field t x f => exact snd_fld hc hE hI he
  | indexAddr t x i => exact snd_indexAddr hc hE hI he
  | index t x i => exact snd_index hc hE hI he
  | extract x i => exact snd_ext hc hE hI he
  | call c =>
    obtain ⟨callee, args, ts⟩ := c
    cases callee with
    | value f =>
      exfalso
      simp only [compOp] at hc
      cases f <;> simp only at hc <;> (repeat' split at hc) <;> first
        | (cases hc; done)
        | (obtain ⟨_, _, rfl⟩ := Option.map_eq_some_iff.1 hc; simp [evalOp] at he; done)
        | (obtain rfl := Option.some.inj hc; simp [evalOp] at he; done)
    | invoke r m => simp [compOp] at hc
    | builtin b =>
      cases b with
      | len => exact snd_len rfl hc hE hI he
      | append => exact snd_app hc hE hI he hS hN
      | copy => exact snd_cpy hc hE hI he hS
      | max => exact snd_max hc hE hI he
      | min => exact snd_min hc hE hI he
      | _ => simp [compOp] at hc
  | _ => simp [compOp] at hc
end
end Go.VM
/- Code: what the evaluator's run tells, the model's run does (regions in the order of the text; see VmDraw for the others). -/
namespace Go.VM
open Go.RowKit
set_option linter.unusedVariables false
set_option linter.unusedSimpArgs false
set_option linter.unusedSectionVars false

def Enters (P : Program) (f : Nat) : Prop := ∀ args w, (callFunc f args).run P w = .ok (.enter f args) w

def CallOk (P : Program) (O : Calls') : Prop :=
  ∀ (f : Nat) (args : List V) (H : Heap) (r : V) (H' : Heap), O.run f args H = some (r, H') → Enters P f ∧ HFrame H (O.writes f args H) H' ∧
    ∀ (base : Nat) (w0 w : World) (ok : Nat → Prop) (ρ : Nat → Option Nat) (S : Nat → Prop) (vals : Array Value), Inv base w0 w ok ρ S H → (∀ b ∈ O.reads f args H, S b) → ((O.reads f args H).all (· < H.length) = true ∨ ∀ b, S b) → (∀ b, H.length ≤ b → b < H'.length → S b) →
      args.length = vals.size → (∀ (j : Nat) x u, args[j]? = some x → vals[j]? = some u → VRep w ok ρ x u) →
      Calls P f vals w fun e w' => ∃ u ok' ρ', e = .returned u ∧ OpRes base w0 w ok ρ S H (O.writes f args H) r H' u w' ok' ρ'

section
variable {P : Program} {O : Calls'} {base : Nat} {w0 w : World} {ok : Nat → Prop} {ρ : Nat → Option Nat} {S : Nat → Prop} {H H' : Heap} {E : Env} {v : V} {ops : Array Oper} {Q : Exit → Act → World → Prop} {K : Act → World → Prop} {a : Act} {i : Nat} {o : Oper}

theorem compOp_value {c : Call} {vo : VOp} (hc : compOp P (.call c) = some vo) {x : Operand} (hx : c.callee = .value x) : ∃ ys, compOps c.args.toList = some ys ∧ ((∃ f, x = .func f ∧ vo = .call f ys) ∨ ∃ y, compX x = some y ∧ vo = .callv y ys) := by
  obtain ⟨callee, args, ts⟩ := c
  subst hx
  simp only [compOp] at hc
  cases x with
  | func f =>
    obtain ⟨ys, h1, h2⟩ := Option.map_eq_some_iff.1 hc
    exact ⟨ys, h1, .inl ⟨f, rfl, h2.symm⟩⟩
  | _ =>
    simp only at hc
    split at hc
    · rename_i y ys h1 h2
      exact ⟨ys, h2, .inr ⟨y, h1, (Option.some.inj hc).symm⟩⟩
    · cases hc

theorem compOp_call {op : Op} {vo : VOp} (hc : compOp P op = some vo) (h : (∃ f xs, vo = .call f xs) ∨ ∃ f xs, vo = .callv f xs) : ∃ c x, op = .call c ∧ c.callee = .value x := by
  cases op with
  | call c =>
    obtain ⟨callee, args, ts⟩ := c
    cases callee with
    | value x => exact ⟨_, x, rfl, rfl⟩
    | invoke r m => simp [compOp] at hc
    | builtin b =>
      exfalso
      cases b <;> simp only [compOp] at hc <;> (repeat' split at hc) <;> first
        | (cases hc; done)
        | (obtain ⟨_, _, rfl⟩ := Option.map_eq_some_iff.1 hc; rcases h with ⟨_, _, h⟩ | ⟨_, _, h⟩ <;> cases h; done)
        | (obtain rfl := Option.some.inj hc; rcases h with ⟨_, _, h⟩ | ⟨_, _, h⟩ <;> cases h; done)
  | makeFunc fn first caps =>
    exfalso
    cases fn <;> simp only [compOp] at hc <;> (repeat' split at hc) <;> first
      | (cases hc; done)
      | (obtain ⟨_, _, rfl⟩ := Option.map_eq_some_iff.1 hc; rcases h with ⟨_, _, h⟩ | ⟨_, _, h⟩ <;> cases h; done)
  | _ =>
    exfalso
    simp only [compOp] at hc
    (repeat' split at hc) <;> first
      | (cases hc; done)
      | (obtain ⟨_, _, rfl⟩ := Option.map_eq_some_iff.1 hc; rcases h with ⟨_, _, h⟩ | ⟨_, _, h⟩ <;> cases h; done)
      | (obtain rfl := Option.some.inj hc; rcases h with ⟨_, _, h⟩ | ⟨_, _, h⟩ <;> cases h; done)

/-- an operation that comes up, carried out -/
theorem wpOp_run (hO : CallOk P O) (hoi : ops[i]? = some o) (hw : Region.wanted o (yielded ops a.tmps) = true) (hrun : runOp O.run (compOper P o).op (X.ev E) H = some (v, H')) (hE : Reps w ok ρ E a.eval)
    (hI : Inv base w0 w ok ρ S H) (hS : ∀ b ∈ readsOp O (compOper P o).op (X.ev E) H, S b) (hL : (readsOp O (compOper P o).op (X.ev E) H).all (· < H.length) = true ∨ ∀ b, S b) (hN : ∀ b, H.length ≤ b → b < H'.length → S b)
    (hK : ∀ u w' ok' ρ', OpRes base w0 w ok ρ S H (writesOp O (compOper P o).op (X.ev E) H) v H' u w' ok' ρ' → K (a.put o.dst u) w') : wpOp P ops Q i K a w := by
  unfold wpOp
  rw [hoi]
  simp only [hw, if_true]
  left
  simp only [compOper] at hrun hS hL hK
  cases hvo : compOp P o.op with
  | none => rw [hvo] at hrun; simp [runOp, evalOp] at hrun
  | some vo =>
    rw [hvo] at hrun hS hL hK
    simp only [Option.getD_some] at hrun hS hL hK
    have hcalls : ∀ (f : Nat) (xs : List X) (extra : List V) (extraU : Array Value) (c : Call) (x : Operand), o.op = .call c → c.callee = .value x → compOps c.args.toList = some xs →
        a.eval x = .func (.func f) #[] extraU → extra.length = extraU.size → (∀ (j : Nat) y u, extra[j]? = some y → extraU[j]? = some u → VRep w ok ρ y u) →
        O.run f (xs.map (X.ev E) ++ extra) H = some (v, H') → (∀ b ∈ O.reads f (xs.map (X.ev E) ++ extra) H, S b) → ((O.reads f (xs.map (X.ev E) ++ extra) H).all (· < H.length) = true ∨ ∀ b, S b) →
        (∀ u w' ok' ρ', OpRes base w0 w ok ρ S H (O.writes f (xs.map (X.ev E) ++ extra) H) v H' u w' ok' ρ' → K (a.put o.dst u) w') → o.wp P a w K Q := by
      intro f xs extra extraU c x hop hcal hxs hev hel her hr hrd hrl hk
      obtain ⟨hen, _, hcall⟩ := hO f _ H v H' hr
      obtain ⟨l1, l2⟩ := reps_list hxs hE
      have hlen : (xs.map (X.ev E) ++ extra).length = (c.args.map a.eval ++ extraU).size := by simp [hel]; rw [← l1]; simp
      have hrep : ∀ (j : Nat) y u, (xs.map (X.ev E) ++ extra)[j]? = some y → (c.args.map a.eval ++ extraU)[j]? = some u → VRep w ok ρ y u := fun j y u hy hu => by
        have hl : xs.length = c.args.size := by rw [← l1]; simp
        by_cases hj : j < xs.length
        · rw [List.getElem?_append_left (by simpa using hj), List.getElem?_map, Option.map_eq_some_iff] at hy
          rw [Array.getElem?_append_left (by simp; omega), Array.getElem?_map, Option.map_eq_some_iff] at hu
          obtain ⟨y0, hy0, rfl⟩ := hy
          obtain ⟨u0, hu0, rfl⟩ := hu
          exact l2 j y0 u0 hy0 (by simpa using hu0)
        · rw [List.getElem?_append_right (by simp; omega)] at hy
          rw [Array.getElem?_append_right (by simp; omega)] at hu
          simp only [List.length_map, Array.size_map] at hy hu
          rw [← hl] at hu
          exact her _ y u hy hu
      unfold Oper.wp
      have hexec : (execOp a.eval o).run P w = .ok (.enter f (c.args.map a.eval ++ extraU)) w := by
        unfold execOp
        rw [hop]
        simp only [resolve, hcal, Deferred.ofValue, hev, Sem.run_bind, Sem.run_pure, Result.andThen_ok, invoke]
        simpa using hen (c.args.map a.eval ++ extraU) w
      rw [hexec, Oper.upon_enter]
      refine (hcall base w0 w ok ρ S _ hI hrd hrl hN hlen hrep).mono ?_
      rintro e w' ⟨u, ok', ρ', rfl, hres⟩
      exact hk u w' ok' ρ' hres
    by_cases hcl : (∃ f xs, vo = .call f xs) ∨ ∃ f xs, vo = .callv f xs
    · obtain ⟨c, x, hop, hcal⟩ := compOp_call hvo hcl
      rw [hop] at hvo
      obtain ⟨ys, hys, h | h⟩ := compOp_value hvo hcal
      · obtain ⟨f, rfl, rfl⟩ := h
        simp only [runOp, readsOp, writesOp] at hrun hS hL hK
        exact hcalls f ys [] #[] c _ hop hcal hys rfl rfl (fun j y u h => by simp at h) (by simpa using hrun) (by simpa using hS) (by simpa using hL) (by simpa using hK)
      · obtain ⟨y, hy, rfl⟩ := h
        have hfr := hE x y hy
        simp only [runOp, readsOp, writesOp] at hrun hS hL hK
        split at hrun
        · rename_i g caps hg
          rw [hg] at hfr hS hL hK
          generalize hux : a.eval x = ux at hfr
          cases hfr with
          | clo _ _ us hl hh => exact hcalls g ys caps us c x hop hcal hys hux hl hh hrun hS hL hK
        · cases hrun
    · have hev : evalOp vo (X.ev E) H = some (v, H') ∧ readsOp O vo (X.ev E) H = touchOp vo (X.ev E) ∧ writesOp O vo (X.ev E) H = wtouchOp vo (X.ev E) := by
        cases vo <;> first
          | exact ⟨hrun, rfl, rfl⟩
          | (exact absurd (.inl ⟨_, _, rfl⟩) hcl)
          | (exact absurd (.inr ⟨_, _, rfl⟩) hcl)
      rw [hev.2.1] at hS
      rw [hev.2.2] at hK
      obtain ⟨u, w', ok', ρ', hto, hres⟩ := evalOp_sound hvo hE hI hev.1 hS hN
      unfold Oper.wp
      rcases hto o rfl with h | ⟨h, rfl⟩
      · rw [h, Oper.upon_value]; exact hK u w' ok' ρ' hres
      · rw [h, Oper.upon_skip]; exact hK undef w' ok' ρ' hres
end
end Go.VM
/- Frames, and regions that are carried out in the order of the text. -/
namespace Go.VM
open Go.RowKit
set_option linter.unusedVariables false
set_option linter.unusedSimpArgs false
set_option linter.unusedSectionVars false

/-- a frame of the evaluator and one of the model -/
structure FRep (w : World) (ok : Nat → Prop) (ρ : Nat → Option Nat) (N : Nat) (E : Env) (a : Act) : Prop where
  size : a.tmps.size = N
  slots : ∀ k, VRep w ok ρ (E.at k) (a.tmps.getD k undef)
  defers : a.defers = []

/-- what a run does to the own blocks and to the model's world -/
structure Went (w : World) (ok : Nat → Prop) (ρ : Nat → Option Nat) (H : Heap) (w' : World) (ok' : Nat → Prop) (ρ' : Nat → Option Nat) (H' : Heap) : Prop where
  ext : Ext w ok ρ w' ok' ρ'
  fresh : ∀ x, ok' x → ok x ∨ w.heap.size ≤ x
  len : H.length ≤ H'.length
  live : ∀ b, b < H.length → Live H' b → Live H b
  old : ∀ b x, ρ' b = some x → b < H.length → ρ b = some x
  all : ∀ b, H.length ≤ b → b < H'.length → ∃ x, ρ' b = some x
  frame : ∀ (x : Nat), x < w.heap.size → (∀ b, Live H b → ρ b ≠ some x) → w'.heap[x]? = w.heap[x]?
  newb : ∀ b x, ρ' b = some x → ρ b = some x ∨ (H.length ≤ b ∧ b < H'.length)
  newx : ∀ b x, ρ' b = some x → ρ b = some x ∨ w.heap.size ≤ x ∨ ∃ b0, ρ b0 = some x ∧ Live H b0

theorem Went.refl (w : World) (ok : Nat → Prop) (ρ : Nat → Option Nat) (H : Heap) : Went w ok ρ H w ok ρ H :=
  ⟨Ext.refl _ _ _, fun _ h => .inl h, Nat.le_refl _, fun _ _ h => h, fun _ _ h _ => h, fun b h1 h2 => by omega, fun _ _ _ => rfl, fun _ _ h => .inl h, fun _ _ h => .inl h⟩

theorem Went.trans {w w1 w2 : World} {ok ok1 ok2 : Nat → Prop} {ρ ρ1 ρ2 : Nat → Option Nat} {H H1 H2 : Heap} (hd : ∀ b x, ρ b = some x → b < H.length) (h : Went w ok ρ H w1 ok1 ρ1 H1) (g : Went w1 ok1 ρ1 H1 w2 ok2 ρ2 H2) : Went w ok ρ H w2 ok2 ρ2 H2 := by
  have hx : ∀ b x, ρ1 b = some x → Live H1 b → w.heap.size ≤ x ∨ ∃ b0, ρ b0 = some x ∧ Live H b0 := fun b x hb hl => by
    rcases h.newx b x hb with h1 | h1 | h1
    · exact .inr ⟨b, h1, h.live b (hd b x h1) hl⟩
    · exact .inl h1
    · exact .inr h1
  refine ⟨h.ext.trans g.ext, fun x hx => ?_, Nat.le_trans h.len g.len, fun b hb hl => h.live b hb (g.live b (Nat.lt_of_lt_of_le hb h.len) hl), fun b x hb hlt => h.old b x (g.old b x hb (Nat.lt_of_lt_of_le hlt h.len)) hlt, fun b h1 h2 => ?_, fun x hlt hno => ?_, fun b x hb => ?_, fun b x hb => ?_⟩
  · rcases g.fresh x hx with h1 | h1
    · exact h.fresh x h1
    · have := h.ext.grow; exact .inr (by omega)
  · rcases Nat.lt_or_ge b H1.length with h3 | h3
    · obtain ⟨x, hx⟩ := h.all b h1 h3; exact ⟨x, g.ext.rho b x hx⟩
    · exact g.all b h3 h2
  · have := h.ext.grow
    rw [g.frame x (by omega) fun b hl hb => ?_]
    · exact h.frame x hlt hno
    · rcases hx b x hb hl with h1 | ⟨b0, h1, h2⟩
      · omega
      · exact hno b0 h2 h1
  · rcases g.newb b x hb with h1 | h1
    · rcases h.newb b x h1 with h2 | h2
      · exact .inl h2
      · have := g.len; exact .inr (by omega)
    · have := h.len; exact .inr (by omega)
  · rcases g.newx b x hb with h1 | h1 | ⟨b0, h1, h2⟩
    · exact h.newx b x h1
    · have := h.ext.grow; exact .inr (.inl (by omega))
    · exact .inr (hx b0 x h1 h2)

theorem at_put {d k : Nat} {v : V} {E : Env} : Env.at ((d, v) :: E) k = if d = k then v else E.at k := rfl
theorem at_keep {E : Env} {ks : List Nat} {k : Nat} : (E.keep ks).at k = if k ∈ ks then E.at k else .undef := by
  unfold Env.keep
  induction ks with
  | nil => rfl
  | cons j ks ih =>
    simp only [List.map_cons, Env.at, ih, List.mem_cons]
    by_cases h : j = k
    · subst h; simp
    · rw [if_neg h]
      by_cases h2 : k ∈ ks
      · rw [if_pos h2, if_pos (.inr h2)]
      · rw [if_neg h2, if_neg (fun h3 => h3.elim (fun e => h e.symm) h2)]

section
variable {P : Program} {O : Calls'} {base N : Nat} {w0 w : World} {ok : Nat → Prop} {ρ : Nat → Option Nat} {S : Nat → Prop} {H H' : Heap} {E E' : Env} {v : V} {ops : Array Oper} {Q : Exit → Act → World → Prop} {a : Act} {o : Oper}

theorem FRep.reps (h : FRep w ok ρ N E a) : Reps w ok ρ E a.eval := by
  intro x y hy
  cases x with
  | tmp t => simp [compX] at hy; subst hy; exact h.slots t
  | const v =>
    obtain ⟨c, hc, rfl⟩ := Option.map_eq_some_iff.1 hy
    exact constV_rep hc
  | func f =>
    simp [compX] at hy; subst hy
    exact .clo f [] #[] rfl (fun j v u hv => by simp at hv)
  | global g => simp [compX] at hy

theorem FRep.ext {w' : World} {ok' : Nat → Prop} {ρ' : Nat → Option Nat} (h : FRep w ok ρ N E a) (he : Ext w ok ρ w' ok' ρ') : FRep w' ok' ρ' N E a :=
  ⟨h.size, fun k => (h.slots k).ext he, h.defers⟩

theorem getD_put {d k : Nat} {u : Value} {t : Array Value} (hd : d < t.size) : (t.setIfInBounds d u).getD k undef = if d = k then u else t.getD k undef := by
  rw [Array.getD_eq_getD_getElem?, Array.getD_eq_getD_getElem?]
  by_cases h : d = k
  · subst h; simp [hd]
  · rw [if_neg h, Array.getElem?_setIfInBounds_ne h]

theorem FRep.put (h : FRep w ok ρ N E a) {dst : Option Nat} (hd : ∀ d, dst = some d → d < N) {v : V} {u : Value} (hv : VRep w ok ρ v u) : FRep w ok ρ N (putE dst v E) (a.put dst u) := by
  cases dst with
  | none => exact h
  | some d =>
    have hd' := hd d rfl
    refine ⟨by simp [Act.put, h.size], fun k => ?_, h.defers⟩
    simp only [putE, at_put, Act.put]
    rw [getD_put (by rw [h.size]; exact hd')]
    split
    · exact hv
    · exact h.slots k

theorem FRep.keep (h : FRep w ok ρ N E a) (ks : List Nat) : FRep w ok ρ N (E.keep ks) a :=
  ⟨h.size, fun k => by
    rw [at_keep]
    split
    · exact h.slots k
    · exact .undef _, h.defers⟩

theorem wants_sound (hf : ∀ k, VRep w ok ρ (E.at k) (a.tmps.getD k undef)) {t : Bool} (h : wants o.guard (ops.toList.map (compOper P)) E = some t) : Region.wanted o (yielded ops a.tmps) = t := by
  unfold wants at h
  unfold Region.wanted
  split at h
  · rename_i hg; rw [hg]; exact Option.some.inj h
  · rename_i j b hg
    rw [hg]
    simp only
    split at h
    · rename_i o' ho'
      rw [List.getElem?_map, Option.map_eq_some_iff] at ho'
      obtain ⟨p, hp, rfl⟩ := ho'
      rw [Array.getElem?_toList] at hp
      split at h
      · rename_i d hd
        have hdst : p.dst = some d := hd
        have hs := hf d
        have hy : yielded ops a.tmps j = match a.tmps[d]? with | some (.bool b) => some b | _ => none := by
          unfold yielded
          simp only [hp, Option.bind_some, hdst]
          rfl
        rw [hy]
        split at h
        · rename_i c hc
          rw [hc] at hs
          have hu := hs.lit_inv
          have : a.tmps[d]? = some (.bool c) := by
            rw [Array.getD_eq_getD_getElem?] at hu
            cases hx : a.tmps[d]? with
            | none => rw [hx] at hu; simp [undef] at hu
            | some y => rw [hx] at hu; simp at hu; rw [hu]
          rw [this]
          rw [← Option.some.inj h]
          cases c <;> cases b <;> rfl
        · rename_i hc
          rw [hc] at hs
          obtain rfl := Option.some.inj h
          generalize hg2 : a.tmps.getD d undef = u at hs
          cases hs with
          | tup _ us hl hh =>
            rw [Array.getD_eq_getD_getElem?] at hg2
            cases hx : a.tmps[d]? with
            | none => rfl
            | some y => rw [hx] at hg2; simp at hg2; subst hg2; rfl
        · cases h
      · cases h
    · cases h

end
end Go.VM
/- An operation looks at its operands alone, and turns the own blocks that it writes, alone. -/
namespace Go.VM
open Go.RowKit
set_option linter.unusedVariables false
set_option linter.unusedSimpArgs false
set_option linter.unusedSectionVars false

def VOp.xs : VOp → List X
  | .mv x | .box _ _ x | .load _ _ x | .fa _ x | .fld _ _ _ x | .un _ x | .conv _ x | .ext x _ | .len x | .lens x | .nchk x => [x]
  | .pick c a b => [c, a, b]
  | .build _ ps => ps.map (·.2.2)
  | .bslice _ _ _ _ ps => ps.map (·.2)
  | .store _ a x | .ia _ a x | .iarr _ _ a x | .ixa _ _ _ a x | .ixs a x | .bin _ a x | .eqa _ _ a x | .eqb _ a x | .app _ _ _ a x | .cpy _ a x | .mks _ _ _ _ a x => [a, x]
  | .slc _ x lo hi m => x :: (lo.toList ++ hi.toList ++ m.toList)
  | .sls x lo hi => x :: (lo.toList ++ hi.toList)
  | .mx xs | .mn xs | .mkf _ xs | .call _ xs => xs
  | .callv f xs => f :: xs
  | .alloc _ _ | .lena _ | .bad => []

theorem opt_congr {ev ev' : X → V} {o : Option X} (h : ∀ x ∈ o.toList, ev x = ev' x) : o.map ev = o.map ev' := by
  cases o with
  | none => rfl
  | some x => simp [h x (by simp)]

theorem foldlM_congr {f g : V → X → Option V} : ∀ {l : List X} {a : V}, (∀ a x, x ∈ l → f a x = g a x) → l.foldlM f a = l.foldlM g a
  | [], a, _ => rfl
  | x :: l, a, h => by
    simp only [List.foldlM_cons, h a x (by simp)]
    congr 1
    funext b
    exact foldlM_congr fun a y hy => h a y (by simp [hy])

theorem evalOp_congr {op : VOp} {ev ev' : X → V} (H : Heap) (h : ∀ x ∈ op.xs, ev x = ev' x) : evalOp op ev H = evalOp op ev' H := by
  cases op with
  | build z ps =>
    simp only [evalOp]
    rw [show (ps.map fun p => (p.1, p.2.1, ev p.2.2)) = ps.map fun p => (p.1, p.2.1, ev' p.2.2) from List.map_congr_left fun p hp => by rw [h p.2.2 (by simp only [VOp.xs]; exact List.mem_map_of_mem hp)]]
  | bslice ty sz z len ps =>
    simp only [evalOp]
    rw [show (ps.map fun p => (p.1, ev p.2)) = ps.map fun p => (p.1, ev' p.2) from List.map_congr_left fun p hp => by rw [h p.2 (by simp only [VOp.xs]; exact List.mem_map_of_mem hp)]]
  | slc esz x lo hi mx =>
    simp only [evalOp]
    rw [h x (by simp [VOp.xs]), opt_congr (o := lo) fun y hy => h y (by simp only [VOp.xs, List.mem_cons, List.mem_append]; exact .inr (.inl (.inl hy))), opt_congr (o := hi) fun y hy => h y (by simp only [VOp.xs, List.mem_cons, List.mem_append]; exact .inr (.inl (.inr hy))),
      opt_congr (o := mx) fun y hy => h y (by simp only [VOp.xs, List.mem_cons, List.mem_append]; exact .inr (.inr hy))]
  | sls x lo hi =>
    simp only [evalOp]
    rw [h x (by simp [VOp.xs]), opt_congr (o := lo) fun y hy => h y (by simp only [VOp.xs, List.mem_cons, List.mem_append]; exact .inr (.inl hy)), opt_congr (o := hi) fun y hy => h y (by simp only [VOp.xs, List.mem_cons, List.mem_append]; exact .inr (.inr hy))]
  | mx xs =>
    simp only [evalOp]
    cases xs with
    | nil => rfl
    | cons x r =>
      simp only
      rw [h x (by simp [VOp.xs]), foldlM_congr (g := fun a y => maxV a (ev' y)) fun a y hy => by rw [h y (by simp [VOp.xs, hy])]]
  | mn xs =>
    simp only [evalOp]
    cases xs with
    | nil => rfl
    | cons x r =>
      simp only
      rw [h x (by simp [VOp.xs]), foldlM_congr (g := fun a y => minV a (ev' y)) fun a y hy => by rw [h y (by simp [VOp.xs, hy])]]
  | mkf f caps =>
    simp only [evalOp]
    rw [show caps.map ev = caps.map ev' from List.map_congr_left fun y hy => h y hy]
  | call f xs => rfl
  | callv f xs => rfl
  | bad => rfl
  | alloc _ _ => rfl
  | lena _ => rfl
  | _ =>
    simp only [VOp.xs, List.mem_cons, List.not_mem_nil, or_false, forall_eq_or_imp, forall_eq] at h
    simp only [evalOp, h]

theorem op_congr {O : Calls'} {op : VOp} {ev ev' : X → V} (H : Heap) (h : ∀ x ∈ op.xs, ev x = ev' x) : runOp O.run op ev H = runOp O.run op ev' H ∧ readsOp O op ev H = readsOp O op ev' H ∧ writesOp O op ev H = writesOp O op ev' H := by
  have he := evalOp_congr H h
  cases op with
  | call f xs =>
    have : xs.map ev = xs.map ev' := List.map_congr_left fun y hy => h y hy
    simp only [runOp, readsOp, writesOp, this, and_self]
  | callv f xs =>
    have h1 : ev f = ev' f := h f (by simp [VOp.xs])
    have : xs.map ev = xs.map ev' := List.map_congr_left fun y hy => h y (by simp [VOp.xs, hy])
    simp only [runOp, readsOp, writesOp, this, h1, and_self]
  | _ =>
    refine ⟨he, ?_, ?_⟩ <;> first
      | rfl
      | (simp only [VOp.xs, List.mem_cons, List.not_mem_nil, or_false, forall_eq_or_imp, forall_eq] at h
         simp only [readsOp, writesOp, touchOp, wtouchOp, h])

theorem HFrame.refl (H : Heap) (T : List Nat) : HFrame H T H := ⟨Nat.le_refl _, fun _ _ _ => rfl, fun _ _ h => h⟩
theorem HFrame.new (H : Heap) (T : List Nat) (k : Option Blk) : HFrame H T (H ++ [k]) :=
  ⟨by simp, fun b hb _ => Heap.blk_append_lt hb, fun b hb h => by unfold Live at *; rw [Heap.blk_append_lt hb] at h; exact h⟩
theorem HFrame.set {H : Heap} {T : List Nat} {b : Nat} {k k' : Blk} (hk : H.blk b = some k) (hb : b ∈ T) : HFrame H T (H.set b (some k')) :=
  ⟨by simp, fun c hc hT => by rw [Heap.blk_set (Heap.blk_lt hk), if_neg (fun e => hT (by rw [e]; exact hb))], fun c hc h => by
    unfold Live at *
    rw [Heap.blk_set (Heap.blk_lt hk)] at h
    split at h
    · rename_i e; rw [e, hk]; rfl
    · exact h⟩
theorem HFrame.kill {H : Heap} {T : List Nat} {b : Nat} {k : Blk} (hk : H.blk b = some k) (hb : b ∈ T) : HFrame H T (H.set b none) :=
  ⟨by simp, fun c hc hT => by rw [Heap.blk_set (Heap.blk_lt hk), if_neg (fun e => hT (by rw [e]; exact hb))], fun c hc h => by
    unfold Live at *
    rw [Heap.blk_set (Heap.blk_lt hk)] at h
    split at h
    · simp at h
    · exact h⟩
theorem HFrame.trans {H H1 H2 : Heap} {T : List Nat} (h : HFrame H T H1) (g : HFrame H1 T H2) : HFrame H T H2 :=
  ⟨Nat.le_trans h.len g.len, fun b hb hT => (g.out b (Nat.lt_of_lt_of_le hb h.len) hT).trans (h.out b hb hT), fun b hb hl => h.live b hb (g.live b (Nat.lt_of_lt_of_le hb h.len) hl)⟩

theorem evalOp_frame {op : VOp} {ev : X → V} {H H' : Heap} {v : V} (he : evalOp op ev H = some (v, H')) : HFrame H (wtouchOp op ev) H' := by
  have hmap : ∀ {x : Option V} , x.map (fun v => (v, H)) = some (v, H') → H' = H := fun {x} h => by
    obtain ⟨y, _, e⟩ := Option.map_eq_some_iff.1 h
    simp only [Prod.mk.injEq] at e
    exact e.2.symm
  cases op with
  | store sz a x =>
    simp only [evalOp] at he
    obtain ⟨H2, hst, e⟩ := Option.map_eq_some_iff.1 he
    simp only [Prod.mk.injEq] at e
    obtain ⟨_, rfl⟩ := e
    simp only [wtouchOp]
    unfold storeV at hst
    split at hst
    · rename_i b bsz i o hb
      split at hst
      · rename_i k hk
        split at hst
        · split at hst
          · split at hst
            · obtain rfl := Option.some.inj hst
              exact HFrame.set hk (by rw [hb]; simp [touchV])
            · cases hst
          · cases hst
        · cases hst
      · cases hst
    · cases hst
  | app ty sz bytes x y =>
    simp only [evalOp] at he
    split at he
    · split at he
      · simp only [wtouchOp]
        generalize ev x = vx at he
        cases vx with
        | nilS =>
          simp only [appV] at he
          split at he
          · simp only [Option.some.injEq, Prod.mk.injEq] at he; rw [← he.2]; exact HFrame.refl _ _
          · split at he
            · simp only [Option.some.injEq, Prod.mk.injEq] at he; rw [← he.2]; exact HFrame.new _ _ _
            · cases he
        | d xx =>
          cases xx with
          | lit _ => simp [appV] at he
          | sl es =>
            simp only [appV] at he
            split at he
            · simp only [Option.some.injEq, Prod.mk.injEq] at he; rw [← he.2]; exact HFrame.refl _ _
            · cases he
        | ref b bsz off len cap =>
          simp only [appV] at he
          split at he
          · rename_i k hk
            split at he
            · split at he
              · simp only [Option.some.injEq, Prod.mk.injEq] at he; rw [← he.2]; exact HFrame.refl _ _
              · split at he
                · split at he
                  · simp only [Option.some.injEq, Prod.mk.injEq] at he; rw [← he.2]; exact HFrame.set hk (by simp [touchV])
                  · cases he
                · split at he
                  · simp only [Option.some.injEq, Prod.mk.injEq] at he; rw [← he.2]
                    exact (HFrame.kill hk (by simp [touchV])).trans (HFrame.new _ _ _)
                  · cases he
            · cases he
          · cases he
        | _ => simp [appV] at he
      · cases he
    · cases he
  | cpy sz x y =>
    simp only [evalOp] at he
    split at he
    · split at he
      · simp only [wtouchOp]
        generalize ev x = vx at he
        cases vx with
        | nilS => simp only [cpyV, Option.some.injEq, Prod.mk.injEq] at he; rw [← he.2]; exact HFrame.refl _ _
        | ref b bsz off len cap =>
          simp only [cpyV] at he
          split at he
          · rename_i k hk
            split at he
            · simp only [Option.some.injEq, Prod.mk.injEq] at he; rw [← he.2]; exact HFrame.set hk (by simp [touchV])
            · cases he
          · cases he
        | _ => simp [cpyV] at he
      · cases he
    · cases he
  | alloc ty z =>
    simp only [evalOp] at he
    split at he
    · simp only [Option.some.injEq, Prod.mk.injEq] at he; rw [← he.2]; exact HFrame.new _ _ _
    · cases he
  | box ty sz x =>
    simp only [evalOp] at he
    split at he
    · simp only [Option.some.injEq, Prod.mk.injEq] at he; rw [← he.2]; exact HFrame.new _ _ _
    · cases he
  | bslice ty sz z len ps =>
    simp only [evalOp] at he
    split at he
    · obtain ⟨es, _, e⟩ := Option.map_eq_some_iff.1 he
      simp only [Prod.mk.injEq] at e; rw [← e.2]; exact HFrame.new _ _ _
    · cases he
  | mks ty sz bytes z l c =>
    simp only [evalOp] at he
    split at he
    · split at he
      · simp only [Option.some.injEq, Prod.mk.injEq] at he; rw [← he.2]; exact HFrame.new _ _ _
      · cases he
    · cases he
  | call f xs => simp [evalOp] at he
  | callv f xs => simp [evalOp] at he
  | bad => simp [evalOp] at he
  | _ =>
    have : H' = H := by
      simp only [evalOp] at he
      (repeat' split at he) <;> first
        | (simp only [Option.some.injEq, Prod.mk.injEq] at he; exact he.2.symm)
        | exact hmap he
        | (obtain ⟨y, _, e⟩ := Option.map_eq_some_iff.1 he; simp only [Prod.mk.injEq] at e; exact e.2.symm)
        | (cases he; done)
    rw [this]
    exact HFrame.refl _ _
end Go.VM
