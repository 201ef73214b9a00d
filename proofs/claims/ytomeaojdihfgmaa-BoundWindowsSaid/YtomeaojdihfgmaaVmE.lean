/- Code: what the evaluator's run tells, the model's run does. -/
import Derived.Test.YtomeaojdihfgmaaVmD
import Derived.LoopN
import Derived.Scope
namespace Go.VM
open Go.RowKit
set_option linter.unusedVariables false
set_option linter.unusedSimpArgs false
set_option linter.unusedSectionVars false

def okCode (P : Program) (N : Nat) : Code → Bool
  | .region _ ops draw => regionOk P N ops draw
  | .seq a b => okCode P N a && okCode P N b
  | .cond _ a b => okCode P N a && okCode P N b
  | .block _ a => okCode P N a
  | .loop a => okCode P N a
  | .scope a => okCode P N a
  | _ => true

def Ex.out : Ex → Exit
  | .normal => .normal
  | .exit id => .exit id
  | .ret => .ret

section
variable {P : Program} {O : Calls'} {base N : Nat} {w0 : World}

/-- what holds where a piece of code has been left -/
def Left (O : Calls') (base N : Nat) (w0 : World) (w : World) (ok : Nat → Prop) (ρ : Nat → Option Nat) (H : Heap) (E' : Env) (H' : Heap) (K : Act → World → Prop) : Prop :=
  ∀ w' ok' ρ' a', Inv base w0 w' ok' ρ' (fun _ => True) H' → FRep w' ok' ρ' N E' a' → Went w ok ρ H w' ok' ρ' H' → K a' w'

theorem region_sound {ops : Array Oper} {draw : Bool} {id : Nat} {ks : List Nat} {n : Nat} {E E' : Env} {H H' : Heap} {ex : Ex} {w : World} {ok : Nat → Prop} {ρ : Nat → Option Nat} {a : Act} {Q : Exit → Act → World → Prop}
    (hm : P.follows .mixedOrders = true) (hO : CallOk P O) (hok : regionOk P N ops draw = true) (hrun : run O n (comp P ks (.region id ops draw)) E H = some (ex, E', H'))
    (hI : Inv base w0 w ok ρ (fun _ => True) H) (hF : FRep w ok ρ N E a) (hQ : Left O base N w0 w ok ρ H E' H' (Q ex.out)) : (Code.region id ops draw).wp P Q a w := by
  simp only [regionOk, Bool.and_eq_true, Bool.or_eq_true, Bool.not_eq_true', List.all_eq_true] at hok
  obtain ⟨hok1, hok2⟩ := hok
  have hdst : ∀ (i : Nat) o d, ops[i]? = some o → o.dst = some d → d < N := fun i o d ho hd => by
    have := hok1 o (by simpa using Array.mem_of_getElem? ho)
    rw [hd] at this
    simpa using this
  simp only [comp, run] at hrun
  split at hrun
  · rename_i E1 H1 hr
    simp only [Option.some.injEq, Prod.mk.injEq] at hrun
    obtain ⟨rfl, rfl, rfl⟩ := hrun
    cases draw with
    | true =>
      simp only [if_true] at hr
      rcases hok2 with h | ⟨h1, h2⟩
      · cases h
      refine draw_sound hm hO hdst (fun i o e ho he hb => ?_) h2 hr hI hF fun w' ok' ρ' a' hI' hF' hG => hQ w' ok' ρ' a' hI' (hF'.keep ks) hG
      have h3 := h1 (o, i) (by
        rw [List.mem_zipIdx_iff_getElem?]
        simpa using ho)
      have h4 := h3 e (by simpa using he)
      simp only [hb, Bool.true_eq_false, false_or, decide_eq_true_eq] at h4
      exact h4
    | false =>
      simp only [Bool.false_eq_true, if_false] at hr
      apply wp_region
      rw [List.range_eq_range']
      exact seq_ops hO hdst ops.size 0 E H w ok ρ a (by omega) hr hI hF fun w' ok' ρ' a' hI' hF' hG => hQ w' ok' ρ' a' hI' (hF'.keep ks) hG
  · cases hrun

theorem run_sound (hm : P.follows .mixedOrders = true) (hO : CallOk P O) {ks : List Nat} {n : Nat} : ∀ (c : Code) (E : Env) (H : Heap) (ex : Ex) (E' : Env) (H' : Heap) (w : World) (ok : Nat → Prop) (ρ : Nat → Option Nat) (a : Act) (Q : Exit → Act → World → Prop), okCode P N c = true →
    run O n (comp P ks c) E H = some (ex, E', H') → Inv base w0 w ok ρ (fun _ => True) H → FRep w ok ρ N E a → Left O base N w0 w ok ρ H E' H' (Q ex.out) → c.wp P Q a w := by
  intro c
  induction c with
  | skip =>
    intro E H ex E' H' w ok ρ a Q _ hr hI hF hQ
    simp only [comp, run, Option.some.injEq, Prod.mk.injEq] at hr
    obtain ⟨rfl, rfl, rfl⟩ := hr
    exact wp_skip (hQ w ok ρ a hI hF (Went.refl _ _ _ _))
  | label l =>
    intro E H ex E' H' w ok ρ a Q _ hr hI hF hQ
    simp only [comp, run, Option.some.injEq, Prod.mk.injEq] at hr
    obtain ⟨rfl, rfl, rfl⟩ := hr
    exact wp_label (hQ w ok ρ a hI hF (Went.refl _ _ _ _))
  | region id ops draw =>
    intro E H ex E' H' w ok ρ a Q hok hr hI hF hQ
    exact region_sound hm hO hok hr hI hF hQ
  | seq x y ihx ihy =>
    intro E H ex E' H' w ok ρ a Q hok hr hI hF hQ
    simp only [okCode, Bool.and_eq_true] at hok
    simp only [comp, run] at hr
    apply wp_seq
    split at hr
    · rename_i E1 H1 h1
      refine ihx _ _ _ _ _ _ _ _ _ _ hok.1 h1 hI hF fun w1 ok1 ρ1 a1 hI1 hF1 hG1 => ?_
      exact ihy _ _ _ _ _ _ _ _ _ _ hok.2 hr hI1 hF1 fun w2 ok2 ρ2 a2 hI2 hF2 hG2 => hQ w2 ok2 ρ2 a2 hI2 hF2 (hG1.trans hI.dom_lt hG2)
    · rename_i hne
      refine ihx _ _ _ _ _ _ _ _ _ _ hok.1 hr hI hF fun w1 ok1 ρ1 a1 hI1 hF1 hG1 => ?_
      have := hQ w1 ok1 ρ1 a1 hI1 hF1 hG1
      cases ex with
      | normal => exact absurd hr (hne E' H')
      | exit id => exact this
      | ret => exact this
  | cond c x y ihx ihy =>
    intro E H ex E' H' w ok ρ a Q hok hr hI hF hQ
    simp only [okCode, Bool.and_eq_true] at hok
    simp only [comp] at hr
    split at hr
    · rename_i cx hcx
      have hc := hF.reps c cx hcx
      simp only [run] at hr
      split at hr
      · rename_i hv
        rw [hv] at hc
        exact wp_cond_true hc.lit_inv (ihx _ _ _ _ _ _ _ _ _ _ hok.1 hr hI hF hQ)
      · rename_i hv
        rw [hv] at hc
        exact wp_cond_false hc.lit_inv (ihy _ _ _ _ _ _ _ _ _ _ hok.2 hr hI hF hQ)
      · cases hr
    · simp [run] at hr
  | block id x ih =>
    intro E H ex E' H' w ok ρ a Q hok hr hI hF hQ
    simp only [okCode] at hok
    simp only [comp, run] at hr
    apply wp_block
    split at hr
    · rename_i i E1 H1 h1
      simp only [Option.some.injEq, Prod.mk.injEq] at hr
      obtain ⟨rfl, rfl, rfl⟩ := hr
      refine ih _ _ _ _ _ _ _ _ _ _ hok h1 hI hF fun w1 ok1 ρ1 a1 hI1 hF1 hG1 => ?_
      have := hQ w1 ok1 ρ1 a1 hI1 hF1 hG1
      simp only [Ex.out, Exit.inBlock]
      split at this
      · rename_i e; rw [if_pos e]; exact this
      · rename_i e; rw [if_neg e]; exact this
    · rename_i hne
      refine ih _ _ _ _ _ _ _ _ _ _ hok hr hI hF fun w1 ok1 ρ1 a1 hI1 hF1 hG1 => ?_
      have := hQ w1 ok1 ρ1 a1 hI1 hF1 hG1
      cases ex with
      | normal => exact this
      | exit id => exact absurd hr (hne id E' H')
      | ret => exact this
  | loop x ih =>
    intro E H ex E' H' w ok ρ a Q hok hr hI hF hQ
    simp only [okCode] at hok
    simp only [comp, run] at hr
    apply wp_loop_rounds n
    generalize hb : run O n (comp P ks x) = body at hr
    have key : ∀ (m : Nat) (E : Env) (H : Heap) (w : World) (ok : Nat → Prop) (ρ : Nat → Option Nat) (a : Act), runLoop body m E H = some (ex, E', H') → Inv base w0 w ok ρ (fun _ => True) H → FRep w ok ρ N E a →
        Left O base N w0 w ok ρ H E' H' (Q ex.out) → Code.rounds P x Q m a w := by
      intro m
      induction m with
      | zero => intro E H w ok ρ a h; simp [runLoop] at h
      | succ m ihm =>
        intro E H w ok ρ a h hI hF hQ
        simp only [runLoop] at h
        rw [rounds_succ]
        split at h
        · rename_i E1 H1 h1
          rw [← hb] at h1
          refine ih _ _ _ _ _ _ _ _ _ _ hok h1 hI hF fun w1 ok1 ρ1 a1 hI1 hF1 hG1 => ?_
          exact ihm E1 H1 w1 ok1 ρ1 a1 h hI1 hF1 fun w2 ok2 ρ2 a2 hI2 hF2 hG2 => hQ w2 ok2 ρ2 a2 hI2 hF2 (hG1.trans hI.dom_lt hG2)
        · rename_i hne
          rw [← hb] at h hne
          refine ih _ _ _ _ _ _ _ _ _ _ hok h hI hF fun w1 ok1 ρ1 a1 hI1 hF1 hG1 => ?_
          have := hQ w1 ok1 ρ1 a1 hI1 hF1 hG1
          cases ex with
          | normal => exact absurd h (hne E' H')
          | exit id => exact this
          | ret => exact this
    exact key n E H w ok ρ a hr hI hF hQ
  | scope x ih =>
    intro E H ex E' H' w ok ρ a Q hok hr hI hF hQ
    simp only [okCode] at hok
    simp only [comp] at hr
    apply wp_scope_straight
    refine ih _ _ _ _ _ _ _ _ _ _ hok hr hI hF fun w1 ok1 ρ1 a1 hI1 hF1 hG1 => ?_
    have := hQ w1 ok1 ρ1 a1 hI1 hF1 hG1
    cases ex <;> exact this
  | exit id =>
    intro E H ex E' H' w ok ρ a Q _ hr hI hF hQ
    simp only [comp, run, Option.some.injEq, Prod.mk.injEq] at hr
    obtain ⟨rfl, rfl, rfl⟩ := hr
    exact wp_exit (hQ w ok ρ a hI hF (Went.refl _ _ _ _))
  | ret =>
    intro E H ex E' H' w ok ρ a Q _ hr hI hF hQ
    simp only [comp, run, Option.some.injEq, Prod.mk.injEq] at hr
    obtain ⟨rfl, rfl, rfl⟩ := hr
    exact wp_ret (hQ w ok ρ a hI hF (Went.refl _ _ _ _))
  | _ =>
    intro E H ex E' H' w ok ρ a Q _ hr
    simp [comp, run] at hr
end
end Go.VM
/- Functions: the evaluator's calls are the model's. -/
namespace Go.VM
open Go.RowKit
set_option linter.unusedVariables false
set_option linter.unusedSimpArgs false
set_option linter.unusedSectionVars false

/-- a function as the evaluator takes it: its code, and the slots of its results -/
structure VFn where
  nt : Nat
  code : VCode
  res : List (Nat × Option (Nat × Bool))
  deriving Inhabited

def startE : Nat → List V → Env
  | _, [] => []
  | k, v :: r => (k, v) :: startE (k + 1) r

def resOne (E : Env) (H : Heap) : Nat × Option (Nat × Bool) → Option V
  | (t, none) => some (E.at t)
  | (t, some (s, g)) => loadV H s g (E.at t)
def resV (res : List (Nat × Option (Nat × Bool))) (E : Env) (H : Heap) : Option V :=
  match mapO (resOne E H) res with
  | some [v] => some v
  | some vs => some (.tup vs)
  | none => none

/-- a function's run in the caller's own blocks -/
def runFn (O : Calls') (n : Nat) (vf : VFn) (args : List V) (H : Heap) : Option (V × Heap) :=
  if args.length ≤ vf.nt then
    match run O n vf.code (startE 0 args) H with
    | some (.normal, E, H') => (resV vf.res E H').map fun v => (v, H')
    | some (.ret, E, H') => (resV vf.res E H').map fun v => (v, H')
    | _ => none
  else none

def resSlot (P : Program) : ResultVar → Option (Nat × Option (Nat × Bool))
  | .tmp t => some (t, none)
  | .cell a ty => match szOf P ty, aggOf P ty with | some s, some g => some (a, some (s, g)) | _, _ => none
def resSlots (P : Program) (rs : List ResultVar) : Option (List (Nat × Option (Nat × Bool))) := mapO (resSlot P) rs

/-- what is asked of a table of functions -/
structure FnOk (P : Program) (f : Nat) (vf : VFn) : Prop where
  ok : ∃ (fn : Func) (c : Code) (ks : List Nat), P.funcs[f]? = some fn ∧ (fn.name == "runtime.NumGoroutine") = false ∧ fn.body = some c ∧ okCode P fn.ntmps c = true ∧ vf.code = comp P ks c ∧ resSlots P fn.results.toList = some vf.res ∧ vf.nt = fn.ntmps

theorem startE_at : ∀ (args : List V) (k j : Nat), (startE k args).at j = if k ≤ j then args.getD (j - k) .undef else .undef
  | [], k, j => by simp [startE, Env.at]
  | v :: r, k, j => by
    simp only [startE, Env.at]
    rw [startE_at r (k + 1) j]
    by_cases h : k = j
    · subst h; simp
    · rw [if_neg h]
      by_cases h2 : k ≤ j
      · rw [if_pos (by omega), if_pos h2, show j - k = (j - (k + 1)) + 1 from by omega]; simp
      · rw [if_neg (by omega), if_neg h2]

theorem enters_of {P : Program} {f : Nat} {vf : VFn} (h : FnOk P f vf) : Enters P f := by
  obtain ⟨fn, c, ks, hf, hn, hb, _⟩ := h.ok
  intro args w
  unfold callFunc
  have hn' : ¬ fn.name = "runtime.NumGoroutine" := by simpa using hn
  simp [hf, hn', hb]

def resG (tmps : Array Value) : ResultVar → Sem Value
  | .tmp t => pure (tmps.getD t undef)
  | .cell a t => do loadVar t (← asAddr (tmps.getD a undef))
theorem results_eq (fn : Func) (tmps : Array Value) : results fn tmps = (do let vs ← fn.results.mapM (resG tmps); pure (if h : vs.size = 1 then vs[0] else .tuple vs)) := by
  unfold results
  congr 1

theorem results_rep {P : Program} {fn : Func} {base N : Nat} {w0 w : World} {ok : Nat → Prop} {ρ : Nat → Option Nat} {H : Heap} {E : Env} {a : Act} {res : List (Nat × Option (Nat × Bool))} {r : V} (h : resSlots P fn.results.toList = some res)
    (hI : Inv base w0 w ok ρ (fun _ => True) H) (hF : FRep w ok ρ N E a) (hr : resV res E H = some r) : ∃ u, (results fn a.tmps).run P w = .ok u w ∧ VRep w ok ρ r u := by
  have key : ∀ (g : ResultVar → Sem Value) (hg : ∀ t, g (.tmp t) = pure (a.tmps.getD t undef)) (hg2 : ∀ p t, g (.cell p t) = (do loadVar t (← asAddr (a.tmps.getD p undef)))) (rs : List ResultVar) (res : List (Nat × Option (Nat × Bool))) (vs : List V),
      resSlots P rs = some res → mapO (resOne E H) res = some vs → ∃ us : List Value, (rs.mapM g).run P w = .ok us w ∧ us.length = vs.length ∧ ∀ (j : Nat) v u, vs[j]? = some v → us[j]? = some u → VRep w ok ρ v u := by
    intro g hg hg2 rs
    induction rs with
    | nil =>
      intro res vs h1 h2
      simp [resSlots, mapO] at h1; subst h1
      simp [mapO] at h2; subst h2
      exact ⟨[], by simp, rfl, fun j v u h => by simp at h⟩
    | cons x rs ih =>
      intro res vs h1 h2
      unfold resSlots at h1
      simp only [mapO] at h1
      split at h1
      · rename_i y ys hy hys
        obtain rfl := Option.some.inj h1
        simp only [mapO] at h2
        split at h2
        · rename_i v vs' hv hvs
          obtain rfl := Option.some.inj h2
          obtain ⟨us, h3, h4, h5⟩ := ih ys vs' hys hvs
          have hone : ∃ u, (g x).run P w = .ok u w ∧ VRep w ok ρ v u := by
            cases x with
            | tmp t =>
              simp only [resSlot, Option.some.injEq] at hy
              subst hy
              simp only [resOne, Option.some.injEq] at hv
              subst hv
              exact ⟨_, by rw [hg]; simp, hF.slots t⟩
            | cell p ty =>
              simp only [resSlot] at hy
              split at hy
              · rename_i sz ag hsz hag
                obtain rfl := Option.some.inj hy
                simp only [resOne] at hv
                obtain ⟨ad, had, c1, c2⟩ := load_reads hI (fun _ _ => trivial) (hF.slots p) hv
                obtain ⟨u, hu, hru⟩ := run_loadVar_of (P := P) hsz hag c1 c2
                refine ⟨u, ?_, hru⟩
                rw [hg2, had]
                simp [asAddr, hu]
              · cases hy
          obtain ⟨u, hu, hru⟩ := hone
          refine ⟨u :: us, by simp only [List.mapM_cons, Sem.run_bind, hu, Result.andThen_ok, h3, Sem.run_pure], by simp [h4], fun j v' u' hv' hu' => ?_⟩
          cases j with
          | zero => simp at hv' hu'; subst hv'; subst hu'; exact hru
          | succ j => simp at hv' hu'; exact h5 j v' u' hv' hu'
        · cases h2
      · cases h1
  unfold resV at hr
  cases hm : mapO (resOne E H) res with
  | none => rw [hm] at hr; cases hr
  | some vs =>
    rw [results_eq, Array.mapM_eq_mapM_toList]
    obtain ⟨us, h1, h2, h3⟩ := key (resG a.tmps) (fun t => rfl) (fun p t => rfl) _ _ _ h hm
    rw [hm] at hr
    have hout : ∀ u, u = (if h : us.toArray.size = 1 then us.toArray[0] else .tuple us.toArray) → VRep w ok ρ r u → ∃ u, Sem.run P (do let vs ← (List.toArray <$> fn.results.toList.mapM (resG a.tmps) : Sem (Array Value)); pure (if h : vs.size = 1 then vs[0] else Value.tuple vs)) w = .ok u w ∧ VRep w ok ρ r u := fun u hu hr => ⟨u, by
      simp [Sem.run_bind, h1, hu], hr⟩
    rcases vs with _ | ⟨v, _ | ⟨v2, vr⟩⟩
    · rcases us with _ | ⟨u, ur⟩
      · have hr' := Option.some.inj hr; subst hr'
        exact hout _ rfl (.tup [] #[] rfl fun j v u h => by simp at h)
      · simp at h2
    · rcases us with _ | ⟨u, _ | ⟨u2, ur⟩⟩
      · simp at h2
      · have hr' := Option.some.inj hr; subst hr'
        exact hout u (by simp) (h3 0 _ _ rfl rfl)
      · simp at h2
    · rcases us with _ | ⟨u, _ | ⟨u2, ur⟩⟩
      · simp at h2
      · simp at h2
      · have hr' := Option.some.inj hr; subst hr'
        exact hout (.tuple (u :: u2 :: ur).toArray) (by simp) (.tup _ _ (by simpa using h2.symm) fun j x y hx hy => h3 j x y hx (by simpa using hy))
end Go.VM
/- Functions: the evaluator's calls are the model's (2). -/
namespace Go.VM
open Go.RowKit
set_option linter.unusedVariables false
set_option linter.unusedSimpArgs false
set_option linter.unusedSectionVars false

section
variable {P : Program} {O : Calls'} {base : Nat} {w0 w : World} {ok : Nat → Prop} {ρ : Nat → Option Nat} {H H' : Heap}

theorem fn_sound {f n : Nat} {vf : VFn} {args : List V} {r : V} {vals : Array Value} (hm : P.follows .mixedOrders = true) (hO : CallOk P O) (hf : FnOk P f vf) (hrun : runFn O n vf args H = some (r, H'))
    (hI : Inv base w0 w ok ρ (fun _ => True) H) (hlen : args.length = vals.size) (hrep : ∀ (j : Nat) x u, args[j]? = some x → vals[j]? = some u → VRep w ok ρ x u) :
    Calls P f vals w fun e w' => ∃ u ok' ρ', e = .returned u ∧ Inv base w0 w' ok' ρ' (fun _ => True) H' ∧ VRep w' ok' ρ' r u ∧ Went w ok ρ H w' ok' ρ' H' := by
  obtain ⟨fn, c, ks, hfn, hn, hb, hok, hc, hres, hnt⟩ := hf.ok
  unfold runFn at hrun
  split at hrun
  · rename_i hle
    refine calls_of_wp hfn hb ?_
    have hF : FRep w ok ρ fn.ntmps (startE 0 args) { tmps := vals ++ Array.replicate (fn.ntmps - vals.size) undef, defers := [] } := by
      refine ⟨by simp; omega, fun k => ?_, rfl⟩
      rw [startE_at, if_pos (Nat.zero_le _), Nat.sub_zero, Array.getD_eq_getD_getElem?, List.getD_eq_getElem?_getD]
      by_cases hk : k < args.length
      · rw [Array.getElem?_append_left (by omega)]
        have h1 : args[k]? = some args[k] := List.getElem?_eq_getElem hk
        have h2 : vals[k]? = some (vals[k]'(by omega)) := Array.getElem?_eq_getElem (by omega)
        rw [h1, h2]
        exact hrep k _ _ h1 h2
      · rw [List.getElem?_eq_none (by omega)]
        exact .undef _
    rw [hc] at hrun
    have hdone : ∀ (ex : Ex) (E : Env), (ex = .normal ∨ ex = .ret) → run O n (comp P ks c) (startE 0 args) H = some (ex, E, H') → resV vf.res E H' = some r →
        c.wp P (bodyPost P fn fun e w' => ∃ u ok' ρ', e = .returned u ∧ Inv base w0 w' ok' ρ' (fun _ => True) H' ∧ VRep w' ok' ρ' r u ∧ Went w ok ρ H w' ok' ρ' H') { tmps := vals ++ Array.replicate (fn.ntmps - vals.size) undef, defers := [] } w := by
      intro ex E hex hr hrr
      refine run_sound hm hO c _ _ _ _ _ _ _ _ _ _ hok hr hI hF fun w' ok' ρ' a' hI' hF' hG' => ?_
      obtain ⟨u, hrs, hv⟩ := results_rep hres hI' hF' hrr
      rcases hex with rfl | rfl
      · exact ⟨hF'.defers, _, hrs, _, ok', ρ', rfl, hI', hv, hG'⟩
      · exact ⟨hF'.defers, _, hrs, _, ok', ρ', rfl, hI', hv, hG'⟩
    split at hrun
    · rename_i E H2 hr
      obtain ⟨v, h1, e⟩ := Option.map_eq_some_iff.1 hrun
      simp only [Prod.mk.injEq] at e
      obtain ⟨rfl, rfl⟩ := e
      exact hdone .normal E (.inl rfl) hr h1
    · rename_i E H2 hr
      obtain ⟨v, h1, e⟩ := Option.map_eq_some_iff.1 hrun
      simp only [Prod.mk.injEq] at e
      obtain ⟨rfl, rfl⟩ := e
      exact hdone .ret E (.inr rfl) hr h1
    · cases hrun
  · cases hrun

/-! ### own blocks grow, and none comes to life -/
def Grows (H H' : Heap) : Prop := H.length ≤ H'.length ∧ ∀ b, b < H.length → Live H' b → Live H b
theorem Grows.refl (H : Heap) : Grows H H := ⟨Nat.le_refl _, fun _ _ h => h⟩
theorem Grows.trans {H H1 H2 : Heap} (h : Grows H H1) (g : Grows H1 H2) : Grows H H2 := ⟨Nat.le_trans h.1 g.1, fun b hb hl => h.2 b hb (g.2 b (Nat.lt_of_lt_of_le hb h.1) hl)⟩

theorem stepO_grows (hO : CallOk P O) {all : List VOper} {o : VOper} {E E' : Env} (h : stepO O.run all o E H = some (E', H')) : Grows H H' := by
  obtain ⟨hf, _⟩ := step_frame hO h
  exact ⟨hf.len, hf.live⟩

theorem runOps_grows (hO : CallOk P O) {all : List VOper} : ∀ (l : List VOper) (E : Env) (H : Heap) (E' : Env) (H' : Heap), runOps O.run all l E H = some (E', H') → Grows H H'
  | [], E, H, E', H', h => by simp only [runOps, Option.some.injEq, Prod.mk.injEq] at h; rw [← h.2]; exact .refl _
  | o :: l, E, H, E', H', h => by
    simp only [runOps] at h
    split at h
    · rename_i E1 H1 h1
      exact (stepO_grows hO h1).trans (runOps_grows hO l _ _ _ _ h)
    · cases h

theorem runDraw_grows (hO : CallOk P O) {all : List VOper} {an : List (List Nat)} : ∀ (l : List VOper) (k : Nat) (fs : List (List Nat × List Nat)) (E : Env) (H : Heap) (E' : Env) (H' : Heap), runDraw O all an l k fs E H = some (E', H') → Grows H H'
  | [], k, fs, E, H, E', H', h => by simp only [runDraw, Option.some.injEq, Prod.mk.injEq] at h; rw [← h.2]; exact .refl _
  | o :: l, k, fs, E, H, E', H', h => by
    simp only [runDraw] at h
    split at h
    · rename_i E1 H1 h1
      split at h
      · exact (stepO_grows hO h1).trans (runDraw_grows hO l _ _ _ _ _ _ h)
      · cases h
    · cases h

theorem run_grows (hO : CallOk P O) {n : Nat} : ∀ (c : VCode) (E : Env) (H : Heap) (ex : Ex) (E' : Env) (H' : Heap), run O n c E H = some (ex, E', H') → Grows H H' := by
  intro c
  induction c with
  | region ops draw an ks =>
    intro E H ex E' H' h
    simp only [run] at h
    split at h
    · rename_i E1 H1 h1
      simp only [Option.some.injEq, Prod.mk.injEq] at h
      obtain ⟨_, _, rfl⟩ := h
      split at h1
      · exact runDraw_grows hO _ _ _ _ _ _ _ h1
      · exact runOps_grows hO _ _ _ _ _ h1
    · cases h
  | seq a b iha ihb =>
    intro E H ex E' H' h
    simp only [run] at h
    split at h
    · rename_i E1 H1 h1
      exact (iha _ _ _ _ _ h1).trans (ihb _ _ _ _ _ h)
    · exact iha _ _ _ _ _ h
  | cond c a b iha ihb =>
    intro E H ex E' H' h
    simp only [run] at h
    split at h
    · exact iha _ _ _ _ _ h
    · exact ihb _ _ _ _ _ h
    · cases h
  | block id a ih =>
    intro E H ex E' H' h
    simp only [run] at h
    split at h
    · rename_i i E1 H1 h1
      simp only [Option.some.injEq, Prod.mk.injEq] at h
      obtain ⟨_, _, rfl⟩ := h
      exact ih _ _ _ _ _ h1
    · exact ih _ _ _ _ _ h
  | loop a ih =>
    intro E H ex E' H' h
    simp only [run] at h
    have key : ∀ (m : Nat) (E : Env) (H : Heap), runLoop (run O n a) m E H = some (ex, E', H') → Grows H H' := by
      intro m
      induction m with
      | zero => intro E H h; simp [runLoop] at h
      | succ m ihm =>
        intro E H h
        simp only [runLoop] at h
        split at h
        · rename_i E1 H1 h1
          exact (ih _ _ _ _ _ h1).trans (ihm _ _ h)
        · exact ih _ _ _ _ _ h
    exact key n E H h
  | bad => intro E H ex E' H' h; simp [run] at h
  | _ =>
    intro E H ex E' H' h
    simp only [run, Option.some.injEq, Prod.mk.injEq] at h
    obtain ⟨_, _, rfl⟩ := h
    exact .refl _

theorem runFn_grows (hO : CallOk P O) {n : Nat} {vf : VFn} {args : List V} {r : V} (h : runFn O n vf args H = some (r, H')) : Grows H H' := by
  unfold runFn at h
  split at h
  · split at h
    · rename_i h1
      obtain ⟨v, _, e⟩ := Option.map_eq_some_iff.1 h
      simp only [Prod.mk.injEq] at e
      rw [← e.2]
      exact run_grows hO _ _ _ _ _ _ h1
    · rename_i h1
      obtain ⟨v, _, e⟩ := Option.map_eq_some_iff.1 h
      simp only [Prod.mk.injEq] at e
      rw [← e.2]
      exact run_grows hO _ _ _ _ _ _ h1
    · cases h
  · cases h
end
end Go.VM
/- Calls: a call of which nothing own is handed in runs by itself, and its result is data; any other one runs in the caller's own blocks. -/
namespace Go.VM
open Go.RowKit
set_option linter.unusedVariables false
set_option linter.unusedSimpArgs false
set_option linter.unusedSectionVars false

/-- nothing own is in it (n: how deep it is looked into) -/
def noRef : Nat → V → Bool
  | _, .undef | _, .d _ | _, .nilS | _, .fptr _ => true
  | n + 1, .agg cs | n + 1, .tup cs | n + 1, .clo _ cs => cs.all (noRef n)
  | _, _ => false

/-- the calls of a table of functions, as deep as n; 'own f': f runs in the caller's own blocks -/
def callsAt (T : Nat → Option VFn) (own : Nat → Bool) (X : Calls') (N : Nat) : Nat → Calls'
  | 0 => ⟨fun _ _ _ => none, fun _ _ _ => [], fun _ _ _ => []⟩
  | n + 1 =>
    { run := fun f args H => match T f with
        | none => X.run f args H
        | some vf =>
          if !own f && args.all (noRef 5) then
            match runFn (callsAt T own X N n) N vf args [] with
            | some (r, H1) => (freezeV 9 H1 r).map fun v => (v, H)
            | none => none
          else runFn (callsAt T own X N n) N vf args H
      reads := fun f args H => match T f with
        | none => X.reads f args H
        | some _ => if !own f && args.all (noRef 5) then [] else [H.length]
      writes := fun f args H => match T f with
        | none => X.writes f args H
        | some _ => if !own f && args.all (noRef 5) then [] else List.range H.length }

section
variable {P : Program} {O : Calls'} {base : Nat} {w0 w : World} {ok : Nat → Prop} {ρ : Nat → Option Nat} {S : Nat → Prop} {H H' : Heap}

theorem noRef_rep {ρ' : Nat → Option Nat} : ∀ (n : Nat) (v : V) (u : Value), noRef n v = true → VRep w ok ρ v u → VRep w ok ρ' v u := by
  intro n
  induction n with
  | zero =>
    intro v u h hr
    cases hr with
    | undef => exact .undef _
    | d x u h => exact .d x u h
    | nilS a => exact .nilS a
    | fptr cs a us hok hc hd => exact .fptr cs a us hok hc hd
    | _ => simp [noRef] at h
  | succ n ih =>
    intro v u h hr
    cases hr with
    | undef => exact .undef _
    | d x u h => exact .d x u h
    | nilS a => exact .nilS a
    | fptr cs a us hok hc hd => exact .fptr cs a us hok hc hd
    | agg cs us hl hh => simp only [noRef, List.all_eq_true] at h; exact .agg cs us hl fun j v u hv hu => ih v u (h v (List.mem_of_getElem? hv)) (hh j v u hv hu)
    | tup cs us hl hh => simp only [noRef, List.all_eq_true] at h; exact .tup cs us hl fun j v u hv hu => ih v u (h v (List.mem_of_getElem? hv)) (hh j v u hv hu)
    | clo f cs us hl hh => simp only [noRef, List.all_eq_true] at h; exact .clo f cs us hl fun j v u hv hu => ih v u (h v (List.mem_of_getElem? hv)) (hh j v u hv hu)
    | _ => simp [noRef] at h

/-- what is own is turned to data -/
theorem freezeC_rep (hI : Inv base w0 w ok ρ (fun _ => True) H) {ok2 : Nat → Prop} (h1 : ∀ x, ok x → ok2 x) (h2 : ∀ b x, ρ b = some x → ok2 x) : ∀ (n : Nat) (v : V) (u : Value) (x : D), freezeC n H v = some x → VRep w ok ρ v u → DRep w ok2 x u := by
  have hd : ∀ {x : D} {u : Value}, DRep w ok x u → DRep w ok2 x u := fun h => h.ext h1 fun _ _ => rfl
  intro n
  induction n with
  | zero =>
    intro v u x h hr
    cases hr with
    | d y u hy => simp [freezeC] at h; subst h; exact hd hy
    | nilS a => simp [freezeC] at h; subst h; exact .sl0 a 0 (by unfold maxLen; omega)
    | _ => simp [freezeC] at h
  | succ n ih =>
    intro v u x h hr
    cases hr with
    | d y u hy => simp [freezeC] at h; subst h; exact hd hy
    | nilS a => simp [freezeC] at h; subst h; exact .sl0 a 0 (by unfold maxLen; omega)
    | ref b sz off len cap y cap' hb hlc hcc hmx hsz hs =>
      simp only [freezeC] at h
      split at h
      · rename_i k hk
        split at h
        · rename_i hcond
          obtain ⟨rfl, hle⟩ := hcond
          obtain ⟨es, hes, rfl⟩ := Option.map_eq_some_iff.1 h
          obtain ⟨c, hc1, hc2, hc3⟩ := (hI.own b k y trivial hk hb).cells
          have hown := hI.own b k y trivial hk hb
          obtain ⟨hl1, hl2⟩ := mapO_some hes
          have hlen : es.length = len := by rw [← hl1]; simp; omega
          have hcell : ∀ i j d, cellAt es i j = some d → ∃ v u, cellAt k.es (off + i) j = some v ∧ freezeC n H v = some d ∧ c[(off + i) * k.sz + j]? = some u ∧ VRep w ok ρ v u := fun i j d hcc => by
            obtain ⟨e, he, hj⟩ := cellAt_some hcc
            obtain ⟨e0, he0, hf⟩ := mapO_back hes i e he
            rw [List.getElem?_take] at he0
            split at he0
            · rw [List.getElem?_drop] at he0
              obtain ⟨v, hv, hfv⟩ := mapO_back hf j d hj
              have hat := cellAt_of he0 hv
              obtain ⟨u, hu, hru, _⟩ := hc3 _ _ _ hat
              exact ⟨v, u, hat, hfv, hu, hru⟩
            · cases he0
          have := DRep.sl (w := w) (ok := ok2) es k.sz ⟨y, off * k.sz, none⟩ cap' (fun i j => c.getD ((off + i) * k.sz + j) undef) hown.sz (fun e he => by
            obtain ⟨i, hi⟩ := List.getElem?_of_mem he
            obtain ⟨e0, he0, hf⟩ := mapO_back hes i e hi
            rw [← (mapO_some hf).1]
            exact hown.len e0 (List.mem_of_mem_drop (List.mem_of_mem_take (List.mem_of_getElem? he0)))) (by omega) hmx (h2 b y hb) (fun i j d hcc => by
              obtain ⟨v, u, _, _, hu, _⟩ := hcell i j d hcc
              rw [Addr.add_plain, cell_of_row w y _ c _ _ hc1, Array.getD_eq_getD_getElem?, hu, ← hu]
              rw [show off * k.sz + (i * k.sz + j) = (off + i) * k.sz + j from by rw [Nat.add_mul]; omega]
              simp [hu]) (fun i j d hcc => by
              obtain ⟨v, u, _, hfv, hu, hru⟩ := hcell i j d hcc
              rw [Array.getD_eq_getD_getElem?, hu]
              exact ih v u d hfv hru)
          rw [hlen] at this
          exact this
        · cases h
      · cases h
    | _ => simp [freezeC] at h

theorem freezeA_rep (hI : Inv base w0 w ok ρ (fun _ => True) H) {ok2 : Nat → Prop} (h1 : ∀ x, ok x → ok2 x) (h2 : ∀ b x, ρ b = some x → ok2 x) (ρ' : Nat → Option Nat) {n : Nat} {v v' : V} {u : Value} (h : freezeA n H v = some v') (hr : VRep w ok ρ v u) : VRep w ok2 ρ' v' u := by
  have hc := freezeC_rep hI h1 h2 n
  cases hr with
  | undef => simp [freezeA] at h; subst h; exact .undef _
  | agg cs us hl hh =>
    simp only [freezeA] at h
    obtain ⟨ds, hds, rfl⟩ := Option.map_eq_some_iff.1 h
    refine .agg _ _ (by rw [List.length_map, ← (mapO_some hds).1]; exact hl) fun j x y hx hy => ?_
    rw [List.getElem?_map, Option.map_eq_some_iff] at hx
    obtain ⟨d, hd, rfl⟩ := hx
    obtain ⟨v0, hv0, hf⟩ := mapO_back hds j d hd
    exact .d _ _ (hc v0 y d hf (hh j v0 y hv0 hy))
  | _ =>
    simp only [freezeA] at h
    obtain ⟨d, hd, rfl⟩ := Option.map_eq_some_iff.1 h
    refine .d _ _ (hc _ _ _ hd ?_)
    first
      | exact .d _ _ ‹_›
      | exact .nilS _
      | (constructor <;> assumption)

theorem freezeV_rep (hI : Inv base w0 w ok ρ (fun _ => True) H) {ok2 : Nat → Prop} (h1 : ∀ x, ok x → ok2 x) (h2 : ∀ b x, ρ b = some x → ok2 x) (ρ' : Nat → Option Nat) {n : Nat} {v v' : V} {u : Value} (h : freezeV n H v = some v') (hr : VRep w ok ρ v u) : VRep w ok2 ρ' v' u := by
  cases hr with
  | tup cs us hl hh =>
    simp only [freezeV] at h
    obtain ⟨ds, hds, rfl⟩ := Option.map_eq_some_iff.1 h
    refine .tup _ _ (by rw [← (mapO_some hds).1]; exact hl) fun j x y hx hy => ?_
    obtain ⟨v0, hv0, hf⟩ := mapO_back hds j x hx
    exact freezeA_rep hI h1 h2 ρ' hf (hh j v0 y hv0 hy)
  | _ =>
    simp only [freezeV] at h
    refine freezeA_rep hI h1 h2 ρ' h ?_
    first
      | exact .undef _
      | exact .d _ _ ‹_›
      | exact .nilS _
      | (constructor <;> assumption)

/-- a call that ran by itself, as the caller has it -/
theorem OpRes.pureCall (hI : Inv base w0 w ok ρ S H) {w' : World} {ok1 : Nat → Prop} {ρ1 : Nat → Option Nat} {H1 : Heap} {r v : V} {u : Value} {n : Nat} (hI1 : Inv base w0 w' ok1 ρ1 (fun _ => True) H1) (hr : VRep w' ok1 ρ1 r u)
    (hG : Went w ok (fun _ => none) [] w' ok1 ρ1 H1) (hf : freezeV n H1 r = some v) : OpRes base w0 w ok ρ S H [] v H u w' (fun x => ok1 x ∨ ∃ b, ρ1 b = some x) ρ := by
  have hnew : ∀ b x, ρ1 b = some x → w.heap.size ≤ x := fun b x hb => by
    rcases hG.newx b x hb with h | h | ⟨_, h, _⟩
    · cases h
    · exact h
    · cases h
  have hext : Ext w ok ρ w' (fun x => ok1 x ∨ ∃ b, ρ1 b = some x) ρ := ⟨fun x hx => .inl (hG.ext.okm x hx), fun _ _ h => h, hG.ext.same, hG.ext.shape, hG.ext.grow⟩
  have hsame : ∀ (x : Nat), x < w.heap.size → w'.heap[x]? = w.heap[x]? := fun x hx => hG.frame x hx fun b hl => by
    unfold Live Heap.blk at hl; simp at hl
  have hfresh : ∀ x, (ok1 x ∨ ∃ b, ρ1 b = some x) → ok x ∨ w.heap.size ≤ x := fun x hx => by
    rcases hx with hx | ⟨b, hb⟩
    · exact hG.fresh x hx
    · exact .inr (hnew b x hb)
  refine ⟨⟨hI1.below, hI.base_le, fun x hx => ?_, fun b x hx => ?_, hI.dom, fun x b hx hs hl he => ?_, hI.inj, fun b k x hs hk hx => ?_⟩, freezeV_rep hI1 (fun x hx => .inl hx) (fun b x hx => .inr ⟨b, hx⟩) ρ hf hr, hext, fun _ _ h _ => h, fun b h1 h2 => by omega, fun x hx _ => hsame x hx, hfresh, fun _ _ h => .inl h, fun _ _ h => .inl h⟩
  · rcases hx with hx | ⟨b, hb⟩
    · exact hI1.okLt x hx
    · exact (hI1.lo b x hb).2
  · have := hI.lo b x hx; have := hG.ext.grow; omega
  · rcases hfresh x hx with h | h
    · exact hI.apart x b h hs hl he
    · have := (hI.lo b x he).2; omega
  · exact (hI.own b k x hs hk hx).ext hext (hsame x (hI.lo b x hx).2)

theorem callsAt_ok {T : Nat → Option VFn} {own : Nat → Bool} {X : Calls'} {N : Nat} (hm : P.follows .mixedOrders = true) (hT : ∀ f vf, T f = some vf → FnOk P f vf) (hX : CallOk P X) : ∀ n, CallOk P (callsAt T own X N n)
  | 0 => fun f args H r H' h => by simp [callsAt] at h
  | n + 1 => by
    have ih := callsAt_ok (own := own) (N := N) hm hT hX n
    intro f args H r H' h
    simp only [callsAt] at h ⊢
    cases hf : T f with
    | none =>
      rw [hf] at h
      obtain ⟨h1, h2, h3⟩ := hX f args H r H' h
      exact ⟨h1, h2, h3⟩
    | some vf =>
      rw [hf] at h
      simp only at h ⊢
      refine ⟨enters_of (hT f vf hf), ?_, ?_⟩
      · split at h
        · rename_i hc
          rw [if_pos hc]
          split at h
          · obtain ⟨v, hv, e⟩ := Option.map_eq_some_iff.1 h
            simp only [Prod.mk.injEq] at e
            rw [← e.2]; exact HFrame.refl _ _
          · cases h
        · rename_i hc
          rw [if_neg hc]
          have hg := runFn_grows ih h
          exact ⟨hg.1, fun b hb hT => absurd (List.mem_range.2 hb) hT, hg.2⟩
      · intro base w0 w ok ρ S vals hI hrd hrl hN hlen hrep
        split at h
        · rename_i hc
          rw [if_pos hc]
          split at h
          · rename_i r1 H1 hrun
            obtain ⟨v, hv, e⟩ := Option.map_eq_some_iff.1 h
            simp only [Prod.mk.injEq] at e
            obtain ⟨rfl, rfl⟩ := e
            have hargs : args.all (noRef 5) = true := by simp at hc; simpa using hc.2
            have hI0 : Inv base w0 w ok (fun _ => none) (fun _ => True) [] := by
              refine ⟨hI.below, hI.base_le, hI.okLt, ?_, ?_, ?_, ?_, ?_⟩
              · intro _ _ h; cases h
              · intro _ _ h; cases h
              · intro _ _ _ _ _ h; cases h
              · intro _ _ _ _ _ _ _ h; cases h
              · intro _ _ _ _ _ h; cases h
            refine (fn_sound hm ih (hT f vf hf) hrun hI0 hlen fun j x u hx hu => noRef_rep 5 x u (List.all_eq_true.1 hargs x (List.mem_of_getElem? hx)) (hrep j x u hx hu)).mono ?_
            rintro e w' ⟨u, ok1, ρ1, rfl, hI1, hr1, hG1⟩
            exact ⟨u, _, ρ, rfl, OpRes.pureCall hI hI1 hr1 hG1 hv⟩
          · cases h
        · rename_i hc
          rw [if_neg hc] at hrl hrd ⊢
          have hS : S = fun _ => True := by
            rcases hrl with hrl | hrl
            · simp at hrl
            · funext b; exact propext ⟨fun _ => trivial, fun _ => hrl b⟩
          subst hS
          refine (fn_sound hm ih (hT f vf hf) h hI hlen hrep).mono ?_
          rintro e w' ⟨u, ok1, ρ1, rfl, hI1, hr1, hG1⟩
          refine ⟨u, ok1, ρ1, rfl, hI1, hr1, hG1.ext, hG1.old, hG1.all, fun x hx hno => hG1.frame x hx fun b hl hb => ?_, hG1.fresh, hG1.newb, fun b x hb => ?_⟩
          · exact hno b (List.mem_range.2 (hI.dom_lt b x hb)) hl hb
          · rcases hG1.newx b x hb with h1 | h1 | ⟨b0, h1, h2⟩
            · exact .inl h1
            · exact .inr (.inl h1)
            · exact .inr (.inr ⟨b0, List.mem_range.2 (hI.dom_lt b0 x h1), h1, h2⟩)
end
end Go.VM
/- Calls that are walked by hand: what is to be shown of one. -/
namespace Go.VM
open Go.RowKit
set_option linter.unusedVariables false
set_option linter.unusedSimpArgs false
set_option linter.unusedSectionVars false

section
variable {P : Program} {base : Nat} {w0 w w' : World} {ok : Nat → Prop} {ρ : Nat → Option Nat} {S : Nat → Prop} {H : Heap}

/-- the blocks that may be read, behind a call that has made some -/
def okNew (w w' : World) (ok : Nat → Prop) : Nat → Prop := fun x => ok x ∨ (w.heap.size ≤ x ∧ x < w'.heap.size)

/-- a call that turned nothing that was there; its result holds nothing of the caller's own -/
theorem OpRes.hand (hI : Inv base w0 w ok ρ S H) (hb : Below w.heap.size w w') {v : V} {u : Value} (hv : VRep w' (okNew w w' ok) ρ v u) : OpRes base w0 w ok ρ S H [] v H u w' (okNew w w' ok) ρ := by
  have hsame : ∀ (x : Nat), x < w.heap.size → w'.heap[x]? = w.heap[x]? := fun x hx => hb.block x hx
  have hext : Ext w ok ρ w' (okNew w w' ok) ρ := ⟨fun x hx => .inl hx, fun _ _ h => h, fun x hx => hsame x (hI.okLt x hx), fun x c T fz hx => ⟨c, fz, by rw [hsame x (Array.getElem?_eq_some_iff.1 hx).1]; exact hx, rfl⟩, hb.size⟩
  have hfresh : ∀ x, okNew w w' ok x → ok x ∨ w.heap.size ≤ x := fun x hx => hx.imp id (·.1)
  refine ⟨⟨hI.below.trans (hb.mono hI.base_size), hI.base_le, fun x hx => ?_, fun b x hx => ?_, hI.dom, fun x b hx hs hl he => ?_, hI.inj, fun b k x hs hk hx => ?_⟩, hv, hext, fun _ _ h _ => h, fun b h1 h2 => by omega, fun x hx _ => hsame x hx, hfresh, fun _ _ h => .inl h, fun _ _ h => .inl h⟩
  · rcases hx with hx | hx
    · have := hI.okLt x hx; have := hb.size; omega
    · exact hx.2
  · have := hI.lo b x hx; have := hb.size; omega
  · rcases hfresh x hx with h | h
    · exact hI.apart x b h hs hl he
    · have := (hI.lo b x he).2; omega
  · exact (hI.own b k x hs hk hx).ext hext (hsame x (hI.lo b x hx).2)

/-- calls told by functions: one that is walked by hand -/
def handCalls (f0 : Nat) (spec : List V → Option V) (X : Calls') : Calls' :=
  { run := fun f args H => if f = f0 then (spec args).map fun v => (v, H) else X.run f args H
    reads := fun f args H => if f = f0 then [] else X.reads f args H
    writes := fun f args H => if f = f0 then [] else X.writes f args H }

theorem handCalls_ok {f0 : Nat} {spec : List V → Option V} {X : Calls'} (hX : CallOk P X) (hE : Enters P f0)
    (h : ∀ (args : List V) (r : V), spec args = some r → ∀ (w : World) (ok : Nat → Prop) (ρ : Nat → Option Nat) (vals : Array Value), args.length = vals.size → (∀ x, ok x → x < w.heap.size) →
      (∀ (j : Nat) x u, args[j]? = some x → vals[j]? = some u → VRep w ok ρ x u) → Calls P f0 vals w fun e w' => ∃ u, e = .returned u ∧ Below w.heap.size w w' ∧ VRep w' (okNew w w' ok) ρ r u) : CallOk P (handCalls f0 spec X) := by
  intro f args H r H' hrun
  simp only [handCalls] at hrun ⊢
  by_cases hf : f = f0
  · subst hf
    simp only [if_true] at hrun ⊢
    obtain ⟨v, hv, e⟩ := Option.map_eq_some_iff.1 hrun
    simp only [Prod.mk.injEq] at e
    obtain ⟨rfl, rfl⟩ := e
    refine ⟨hE, HFrame.refl _ _, fun base w0 w ok ρ S vals hI _ _ _ hlen hrep => ?_⟩
    refine (h args v hv w ok ρ vals hlen hI.okLt hrep).mono ?_
    rintro e w' ⟨u, rfl, hb, hr⟩
    exact ⟨u, _, ρ, rfl, OpRes.hand hI hb hr⟩
  · rw [if_neg hf] at hrun
    simp only [if_neg hf]
    exact hX f args H r H' hrun

theorem enters_body {f : Nat} {fn : Func} {c : Code} (hf : P.funcs[f]? = some fn) (hn : (fn.name == "runtime.NumGoroutine") = false) (hb : fn.body = some c) : Enters P f := by
  intro args w
  unfold callFunc
  have hn' : ¬ fn.name = "runtime.NumGoroutine" := by simpa using hn
  simp [hf, hn', hb]

/-- no calls -/
def noCalls : Calls' := ⟨fun _ _ _ => none, fun _ _ _ => [], fun _ _ _ => []⟩
theorem noCalls_ok : CallOk P noCalls := fun f args H r H' h => by simp [noCalls] at h
end
end Go.VM
