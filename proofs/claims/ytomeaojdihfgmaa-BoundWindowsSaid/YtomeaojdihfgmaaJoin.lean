/- BoundWindows: at every query and time the law returns true, and what came in reads as it did. No condition. -/
import Derived.Test.YtomeaojdihfgmaaRows
import Derived.Test.YtomeaojdihfgmaaMain
import Derived.Test.YtomeaojdihfgmaaVmF
import Derived.ProofKit
namespace Go.Proofs.Ytomeaojdihfgmaa
set_option linter.unusedSimpArgs false
open Go.ChangeShapes Go.WideShapes Go.ChangeAt Go.RowKit Go.VM Go.Proofs.Ytomeaojdihfgmaa.Data
set_option linter.unusedVariables false

theorem Try.own' : ownKnob Try.prog.godebug = none := by kernel_rfl
theorem Try.laidOut' : laidOutB Try.prog = true := by kernel_rfl
theorem mixed' : Try.prog.follows .mixedOrders = true := by kernel_rfl

set_option maxRecDepth 100000 in
theorem lifted (O : Calls') (hO : CallOk Try.prog O) (main : ∀ n0 n1 x0 x1, ShapeV Try.prog n0 27 x0 → ShapeV Try.prog n1 2 x1 → ∃ H1, O.run 3 [x0, x1] [] = some (V.bool true, H1)) (os : Os) (started : os.Started) (H : Type) (enc : TypeId × Value → H) :
    ReturnsInHanded {} Try.checked os 3 .any (Rows.boundWindowsSpec.pre6 enc Try.prog Try.f3 Rows.boundWindowsRow.domain false) (Rows.boundWindowsSpec.post enc Try.prog Try.f3 false true false false) := by
  refine returnsInHanded_of_change (C := Try.checked) Try.own' started (by kernel_rfl) Try.func3
    (ChangeSpec.witness6 (enc := enc) (C := Try.checked) false ⟨#[], #[.agg #[.int .u8 0, .slice none 0 0, .slice none 0 0, .bool false, .slice none 0 0, .int .u8 0, .int .i64 0, .int .i64 0, .bool false, .int .u8 0], .int .i64 0], []⟩ 8 (by kernel_rfl) (by kernel_rfl) (by kernel_rfl) (by kernel_rfl)) ?_
  intro W base args ds gs before hval0 hW hcnd _
  have hval : ∀ (j : Nat) t v, Try.f3.params[j]? = some t → args[j]? = some v → Value.okWide Try.prog W .any base t v := hval0
  have hW' := hW
  obtain ⟨p, q, hA0, hV, rfl, hfz, hnd⟩ := hW
  have hA : DataW.TrodAll enc Try.prog W 0 (fun _ => true) true Try.f3.params.toList args.toList ds p := hA0
  rw [Try.params3] at hA hval
  obtain ⟨v0, v1, d0, d1, p0, p1, rfl, rfl, rfl, h0, h1⟩ := trodAll_two hA
  obtain ⟨rfl, rfl⟩ := trodVars_none hV
  obtain ⟨x0, n0, r0, s0⟩ := arg_V (k := 8) (by kernel_rfl) h0 (hval 0 27 v0 rfl rfl)
  obtain ⟨x1, n1, r1, s1⟩ := arg_V (k := 8) (by kernel_rfl) h1 (hval 1 2 v1 rfl rfl)
  obtain ⟨H1, hrun⟩ := main n0 n1 x0 x1 s0 s1
  refine (law_run (W := W) hO hrun (vals := #[v0, v1]) rfl fun j x u hx hu => ?_).mono fun e W' ⟨he, hb⟩ => ⟨_, he, law_post Try.laidOut' (by rw [Try.params3]; intro t ht; simp at ht; rcases ht with rfl | rfl <;> exact ⟨by kernel_rfl, of_decide_eq_true (by kernel_rfl)⟩) (tb := 4) (by kernel_rfl) Try.underlying4 rfl rfl hW' hb⟩
  match j, hx, hu with
  | 0, hx, hu => simp at hx hu; subst hx; subst hu; exact r0
  | 1, hx, hu => simp at hx hu; subst hx; subst hu; exact r1
  | j + 2, hx, hu => simp at hx

theorem holds (O : Calls') (hO : CallOk Try.prog O) (main : ∀ n0 n1 x0 x1, ShapeV Try.prog n0 27 x0 → ShapeV Try.prog n1 2 x1 → ∃ H1, O.run 3 [x0, x1] [] = some (V.bool true, H1)) : Rows.BoundWindowsSaid :=
  OpenClaim.holds_of_wide 3 Try.f3 rfl rfl rfl rfl rfl rfl rfl ⟨rfl, rfl, rfl, rfl, rfl⟩ rfl rfl rfl rfl rfl (by kernel_rfl) Try.func3 (by kernel_rfl)
    (of_decide_eq_true (by kernel_rfl)) (by unfold Func.isWrapper; first | (rw [if_pos (by decide +kernel)]; kernel_rfl) | (rw [if_neg (by decide +kernel)]; exact ⟨rfl, rfl⟩))
    (fun os started H enc _ => lifted O hO main os started H enc)

def X0 : Calls' := handCalls 36 Distinct.spec noCalls
theorem X0_ok : CallOk Try.prog X0 := Distinct.ok noCalls_ok
def X1 : Calls' := handCalls 15 Slide.spec X0
theorem int_rep {w : World} {ok : Nat → Prop} {ρ : Nat → Option Nat} (n : Int) : VRep w ok ρ (.d (di n)) (.int .i64 n) := .d _ _ (.lit _ rfl)
theorem span_calls (t v : Int) (w : World) : (v < 1 ∨ 1073741824 < v) ∨ Calls Try.prog 14 #[.int .i64 t, .int .i64 v] w fun e w' => e = .returned (if t < -1099511627776 ∨ 1099511627776 < t then .tuple #[.agg #[.int .i64 0, .int .i64 0], .int .i64 16] else .tuple #[.agg #[.int .i64 (t.fdiv v * v), .int .i64 ((t.fdiv v + 1) * v)], .int .i64 0]) ∧ Below w.heap.size w w' := by
  by_cases h1 : v < 1 ∨ 1073741824 < v
  · exact .inl h1
  · refine .inr ?_
    have hO : CallOk Try.prog (C X0 3) := callsAt_ok mixed' tab_ok X0_ok 3
    refine (Slide.run_calls hO (c14 X0 0 t v []) (vals := #[.int .i64 t, .int .i64 v]) rfl fun j x u hx hu => ?_).mono ?_
    · match j, hx, hu with
      | 0, hx, hu => simp at hx hu; subst hx; subst hu; exact int_rep t
      | 1, hx, hu => simp at hx hu; subst hx; subst hu; exact int_rep v
      | j + 2, hx, hu => simp at hx
    · rintro e w' ⟨u, ok', ρ', rfl, hr, hb⟩
      refine ⟨?_, hb⟩
      unfold spanV at hr
      rw [if_neg h1] at hr
      by_cases h2 : t < -1099511627776 ∨ 1099511627776 < t
      · rw [if_pos h2] at hr ⊢
        rw [Slide.span_rep hr]
      · rw [if_neg h2] at hr ⊢
        rw [Slide.span_rep hr]
theorem X1_ok : CallOk Try.prog X1 := handCalls_ok X0_ok Slide.enters (Slide.calls span_calls)
theorem X1_15 (args : List V) (r : V) (h : Slide.spec args = some r) (H : Heap) : X1.run 15 args H = some (r, H) := by
  simp [X1, handCalls, h]
theorem num_of {n : Int} (h : I n) : Distinct.num [di n] = some n := by
  obtain ⟨h1, h2⟩ := h
  have : (Lit.int .i64 n).wf = true := by
    simp [Lit.wf, IntKind.min, IntKind.max, IntKind.bits, IntKind.signed]
    omega
  simp [Distinct.num, this]
theorem X1_36 (l : List Int) (hl : ∀ x ∈ l, I x) (H : Heap) : X1.run 36 [.d (ints l)] H = some (V.int .i64 (Distinct.count l : Nat), H) := by
  have : mapO Distinct.num (l.map fun n => [di n]) = some l := by
    induction l with
    | nil => rfl
    | cons n l ih => simp only [List.map_cons, mapO, num_of (hl n (by simp)), ih fun x hx => hl x (by simp [hx])]
  simp [X1, X0, handCalls, Distinct.spec, ints, this]

theorem proved : Rows.BoundWindowsSaid := by
  refine holds (C X1 11) (callsAt_ok mixed' tab_ok X1_ok 11) fun n0 n1 x0 x1 s0 s1 => ?_
  obtain ⟨q, rfl, hq⟩ := query_of s0
  obtain ⟨t, rfl, _⟩ := time_of s1
  exact ⟨[], law_true X1 X1_36 X1_15 0 q hq t []⟩
end Go.Proofs.Ytomeaojdihfgmaa
