/- slide.All as an oracle of the evaluator. -/
import Derived.Test.YtomeaojdihfgmaaSlide
import Derived.Test.YtomeaojdihfgmaaVmE
import Derived.Test.YtomeaojdihfgmaaVmF
import Derived.Test.YtomeaojdihfgmaaKa
namespace Go.Proofs.Ytomeaojdihfgmaa.Slide
set_option linter.unusedSimpArgs false
open Go.RowKit Go.Shelf Go.VM Go.Proofs.Ytomeaojdihfgmaa.Data
attribute [local go_sem] Oper.semAt_some
set_option linter.unusedVariables false

/-- what the evaluator tells of a call is the model's -/
theorem run_calls {O : Calls'} (hO : CallOk Try.prog O) {f : Nat} {vs : List V} {vals : Array Value} {r : V} {H1 : VM.Heap} {W : World} (hrun : O.run f vs [] = some (r, H1)) (hlen : vs.length = vals.size)
    (hrep : ∀ (j : Nat) x u, vs[j]? = some x → vals[j]? = some u → VRep W (fun b => b < W.heap.size) (fun _ => none) x u) : Calls Try.prog f vals W fun e W' => ∃ u ok' ρ', e = .returned u ∧ VRep W' ok' ρ' r u ∧ Below W.heap.size W W' := by
  obtain ⟨_, _, h⟩ := hO f vs [] _ H1 hrun
  have hI0 : Inv W.heap.size W W (fun b => b < W.heap.size) (fun _ => none) (fun _ => True) [] := by
    refine ⟨Below.refl _ _, Nat.le_refl _, fun _ h => h, ?_, ?_, ?_, ?_, ?_⟩
    · intro _ _ h; cases h
    · intro _ _ h; cases h
    · intro _ _ _ _ _ h; cases h
    · intro _ _ _ _ _ _ _ h; cases h
    · intro _ _ _ _ _ h; cases h
  refine (h W.heap.size W W _ _ _ vals hI0 (fun _ _ => trivial) (.inr fun _ => trivial) (fun _ _ _ => trivial) hlen hrep).mono ?_
  rintro e w' ⟨u, ok', ρ', rfl, hres⟩
  exact ⟨u, ok', ρ', rfl, hres.rep, hres.inv.below⟩

theorem lit_rep {w : World} {ok : Nat → Prop} {ρ : Nat → Option Nat} {v u : Value} (h : VRep w ok ρ (.d (.lit v)) u) : u = v := by
  cases h with
  | d _ _ h => cases h; rfl

theorem span_rep {w : World} {ok : Nat → Prop} {ρ : Nat → Option Nat} {a b c : Int} {u : Value} (h : VRep w ok ρ (.tup [.agg [V.int .i64 a, V.int .i64 b], V.int .i64 c]) u) : u = .tuple #[.agg #[.int .i64 a, .int .i64 b], .int .i64 c] := by
  cases h with
  | tup _ us hl hh =>
    match us, hl with
    | ⟨[x, y]⟩, _ =>
      have h1 := hh 0 _ x rfl rfl
      have h2 := lit_rep (hh 1 _ y rfl rfl)
      subst h2
      cases h1 with
      | agg _ us2 hl2 hh2 =>
        match us2, hl2 with
        | ⟨[p, q]⟩, _ =>
          have e1 := lit_rep (hh2 0 _ p rfl rfl)
          have e2 := lit_rep (hh2 1 _ q rfl rfl)
          subst e1; subst e2
          rfl

/-- how many windows a time has -/
def many (t s v : Int) : Nat := ((s - (t - t.fdiv v * v) + v - 1) / v).toNat

theorem many_spec {t s v : Int} (hs : 1 ≤ s ∧ s ≤ 1073741824 ∧ 1 ≤ v ∧ v ≤ s ∧ s ≤ 16 * v) (ht : -1099511627776 ≤ t ∧ t ≤ 1099511627776) : 1 ≤ many t s v ∧ many t s v ≤ 17 ∧ (∀ j : Nat, j < many t s v ↔ t < t.fdiv v * v - j * v + s) ∧
    (many t s v : Int) ≤ winsR 2 s v ∧ winsR 2 s v - 1 ≤ many t s v := by
  obtain ⟨b1, b2, b3, b4⟩ := fdiv_bounds (t := t) (s := v) (by omega) (by omega) (by omega) (by omega)
  have c2 : (t.fdiv v + 1) * v = t.fdiv v * v + v := by rw [Int.add_mul, Int.one_mul]
  generalize hf : t.fdiv v * v = f at *
  have hv : 0 < v := by omega
  have e0 : 0 ≤ (s - (t - f) + v - 1) / v := Int.ediv_nonneg (by omega) (by omega)
  have em : (many t s v : Int) = (s - (t - f) + v - 1) / v := by unfold many; rw [hf]; omega
  have hj : ∀ j : Nat, j < many t s v ↔ t < f - j * v + s := fun j => by
    have h1 : ((j : Int) + 1 ≤ (s - (t - f) + v - 1) / v) ↔ ((j : Int) + 1) * v ≤ s - (t - f) + v - 1 := Int.le_ediv_iff_mul_le hv
    have h2 : ((j : Int) + 1) * v = j * v + v := by rw [Int.add_mul, Int.one_mul]
    omega
  have hw : winsR 2 s v = (s + v - 1) / v := by
    unfold winsR
    rw [if_pos rfl, Int.tdiv_eq_ediv_of_nonneg (by omega)]
  refine ⟨?_, ?_, hj, ?_, ?_⟩
  · have := (hj 0).2 (by simp; omega); omega
  · have h3 : (s - (t - f) + v - 1) / v < 17 + 1 := Int.ediv_lt_of_lt_mul hv (by omega)
    omega
  · rw [em, hw]
    exact Int.ediv_le_ediv hv (by omega)
  · rw [em, hw]
    have h4 : (s + v - 1) / v - 1 = (s + v - 1 + -1 * v) / v := by rw [Int.add_mul_ediv_right _ _ (by omega)]; omega
    rw [h4]
    exact Int.ediv_le_ediv hv (by omega)

def prs (t s v : Int) : List Pr := upto (nth (many t s v) (fun j => t.fdiv v * v - j * v) (fun j => t.fdiv v * v - j * v + s)) (many t s v)
def spans (t s v : Int) : List (List D) := (prs t s v).map fun x => [di x.2.1, di x.2.2]
theorem spans_len (t s v : Int) : (spans t s v).length = many t s v := by simp [spans, prs, upto_length]

/-- what All tells -/
def spec : List V → Option V
  | [.d (.lit (.int .i64 t)), .d (.lit (.int .i64 s)), .d (.lit (.int .i64 v))] =>
    if 1 ≤ s ∧ s ≤ 1073741824 ∧ 1 ≤ v ∧ v ≤ s ∧ s ≤ 16 * v then
      some (if t < -1099511627776 ∨ 1099511627776 < t then .tup [.d (.sl []), V.int .i64 16] else .tup [.d (.sl (spans t s v)), V.int .i64 0])
    else none
  | _ => none

theorem rowP_at : ∀ (l : List Pr) (i : Nat) (x : Pr), l[i]? = some x → (rowP l)[i * 2]? = some (.int .i64 x.2.1) ∧ (rowP l)[i * 2 + 1]? = some (.int .i64 x.2.2)
  | [], i, x, h => by simp at h
  | y :: l, 0, x, h => by simp at h; subst h; simp [rowP]
  | y :: l, i + 1, x, h => by
    have := rowP_at l i x (by simpa using h)
    rw [show (i + 1) * 2 = i * 2 + 2 from by omega]
    simpa [rowP] using this

/-- a slice that owns pairs, as data -/
theorem pairs_rep {w' : World} {ok : Nat → Prop} {base : Nat} {u : Value} {l : List Pr} (hl : 0 < l.length) (h : w'.ownsRow base 43 2 u l.length (rowP l)) (hok : ∀ g, base ≤ g → g < w'.heap.size → ok g) : DRep w' ok (.sl (l.map fun x => [di x.2.1, di x.2.2])) u := by
  rcases h.2 with ⟨_, h0⟩ | ⟨g, cap, cur, rfl, hb, hg, hc, hm, hsz, ht⟩
  · omega
  · have hcell : ∀ i j d, cellAt (l.map fun x => [di x.2.1, di x.2.2]) i j = some d → ∃ x, l[i]? = some x ∧ ((j = 0 ∧ d = di x.2.1) ∨ (j = 1 ∧ d = di x.2.2)) := fun i j d hcc => by
      obtain ⟨e, he, hj⟩ := cellAt_some hcc
      rw [List.getElem?_map, Option.map_eq_some_iff] at he
      obtain ⟨x, hx, rfl⟩ := he
      refine ⟨x, hx, ?_⟩
      rcases j with _ | _ | j
      · simp at hj; exact .inl ⟨rfl, hj.symm⟩
      · simp at hj; exact .inr ⟨rfl, hj.symm⟩
      · simp at hj
    have hrow : ∀ i x, l[i]? = some x → cur[i * 2]? = some (.int .i64 x.2.1) ∧ cur[i * 2 + 1]? = some (.int .i64 x.2.2) := fun i x hx => by
      have h1 := rowP_at l i x hx
      rw [← ht, List.getElem?_take, List.getElem?_take] at h1
      obtain ⟨h1, h2⟩ := h1
      constructor
      · split at h1
        · simpa using h1
        · cases h1
      · split at h2
        · simpa using h2
        · cases h2
    have := DRep.sl (w := w') (ok := ok) (l.map fun x => [di x.2.1, di x.2.2]) 2 ⟨g, 0, none⟩ cap (fun i j => if j = 0 then .int .i64 ((l[i]?.getD (0, 0, 0)).2.1) else .int .i64 ((l[i]?.getD (0, 0, 0)).2.2)) (by omega) (fun e he => by
        obtain ⟨x, _, rfl⟩ := List.mem_map.1 he
        rfl) (by rw [List.length_map]; exact hc) hm (hok g hb (Array.getElem?_eq_some_iff.1 hg).1) (fun i j d hcc => by
        obtain ⟨x, hx, hd⟩ := hcell i j d hcc
        have hr := hrow i x hx
        rw [Addr.add_lit, cell_of_row _ _ _ _ _ _ hg, hx]
        rcases hd with ⟨rfl, _⟩ | ⟨rfl, _⟩
        · simpa using hr.1
        · simpa using hr.2) (fun i j d hcc => by
        obtain ⟨x, hx, hd⟩ := hcell i j d hcc
        rw [hx]
        rcases hd with ⟨rfl, rfl⟩ | ⟨rfl, rfl⟩
        · exact .lit _ rfl
        · exact .lit _ rfl)
    rwa [List.length_map] at this

set_option maxRecDepth 100000 in
set_option maxHeartbeats 2000000 in
/-- a time that is too far -/
theorem err_any (t s v : Int) (hs : 1 ≤ s ∧ s ≤ 1073741824 ∧ 1 ≤ v ∧ v ≤ s ∧ s ≤ 16 * v) (w : World)
    (h14 : ∀ w, Calls Try.prog 14 #[.int .i64 t, .int .i64 v] w fun e w' => e = .returned (.tuple #[.agg #[.int .i64 0, .int .i64 0], .int .i64 16]) ∧ Below w.heap.size w w') :
    Calls Try.prog 15 #[.int .i64 t, .int .i64 s, .int .i64 v] w fun e w' => e = .returned (.tuple #[.slice none 0 0, .int .i64 16]) ∧ Below w.heap.size w w' := by
  refine (callsIn_wide (n := 3)).1 (callsIn_of_wp_marks Try.func15 rfl trivial ?_ rfl)
  simp only [Try.ntmps15, List.size_toArray, List.length_cons, List.length_nil, Nat.reduceAdd, Nat.reduceSub, Array.replicate_succ, Array.replicate_zero, List.push_toArray, List.append_toArray, List.nil_append, List.cons_append]
  gi_wp2_with (refine ⟨trivial, ?_⟩; gi_at_call 14; refine (callsIn_wide.2 (h14 _)).mono ?_; rintro e w1 ⟨rfl, hb1⟩)
  all_goals
    exact ⟨_, results_tmp2 rfl _ _ _, rfl, hb1.alloc hb1.size _⟩

theorem calls (hc14 : ∀ t v w, (v < 1 ∨ 1073741824 < v) ∨ Calls Try.prog 14 #[.int .i64 t, .int .i64 v] w fun e w' => e = .returned (if t < -1099511627776 ∨ 1099511627776 < t then .tuple #[.agg #[.int .i64 0, .int .i64 0], .int .i64 16] else .tuple #[.agg #[.int .i64 (t.fdiv v * v), .int .i64 ((t.fdiv v + 1) * v)], .int .i64 0]) ∧ Below w.heap.size w w')
    (args : List V) (r : V) (h : spec args = some r) (w : World) (ok : Nat → Prop) (ρ : Nat → Option Nat) (vals : Array Value) (hlen : args.length = vals.size) (hok : ∀ x, ok x → x < w.heap.size)
    (hrep : ∀ (j : Nat) x u, args[j]? = some x → vals[j]? = some u → VRep w ok ρ x u) : Calls Try.prog 15 vals w fun e w' => ∃ u, e = .returned u ∧ Below w.heap.size w w' ∧ VRep w' (okNew w w' ok) ρ r u := by
  unfold spec at h
  split at h
  · rename_i t s v
    split at h
    · rename_i hs
      obtain rfl := Option.some.inj h
      match vals, hlen with
      | ⟨[a, b, c]⟩, _ =>
        obtain rfl := lit_rep (hrep 0 _ a rfl rfl)
        obtain rfl := lit_rep (hrep 1 _ b rfl rfl)
        obtain rfl := lit_rep (hrep 2 _ c rfl rfl)
        have h14 := fun w => (hc14 t v w).resolve_left (by omega)
        by_cases ht : t < -1099511627776 ∨ 1099511627776 < t
        · rw [if_pos ht]
          simp only [if_pos ht] at h14
          refine (err_any t s v hs w h14).mono ?_
          rintro e w' ⟨rfl, hb⟩
          exact ⟨_, rfl, hb, .tup _ _ rfl fun j x u hx hu => by
            rcases j with _ | _ | j
            · simp at hx hu; subst hx; subst hu; exact .d _ _ (.sl0 none 0 (by unfold maxLen; omega))
            · simp at hx hu; subst hx; subst hu; exact .d _ _ (.lit _ rfl)
            · simp at hx⟩
        · rw [if_neg ht]
          simp only [if_neg ht] at h14
          have ht' : -1099511627776 ≤ t ∧ t ≤ 1099511627776 := by omega
          obtain ⟨m1, m2, m3, m4, m5⟩ := many_spec hs ht'
          obtain ⟨b1, b2, b3, b4⟩ := fdiv_bounds (t := t) (s := v) (by omega) (by omega) (by omega) (by omega)
          have c2 : (t.fdiv v + 1) * v = t.fdiv v * v + v := by rw [Int.add_mul, Int.one_mul]
          simp only [c2] at h14
          have := callsIn_wide.1 (all_in t s v (t.fdiv v * v) (many t s v) hs ht' ⟨by omega, by omega⟩ ⟨m1, m2, m3⟩ w h14)
          refine this.mono ?_
          rintro e w' ⟨u, rfl, hrow, hb⟩
          refine ⟨_, rfl, hb, .tup _ _ rfl fun j x y hx hy => ?_⟩
          rcases j with _ | _ | j
          · simp at hx hy; subst hx; subst hy
            refine .d _ _ (pairs_rep (l := prs t s v) (by simp [prs, upto_length]; omega) (base := w.heap.size) ?_ fun g h1 h2 => .inr ⟨h1, h2⟩)
            have hl : (prs t s v).length = many t s v := by simp [prs, upto_length]
            rw [hl]
            exact hrow
          · simp at hx hy; subst hx; subst hy; exact .d _ _ (.lit _ rfl)
          · simp at hx
    · cases h
  · cases h

theorem enters : Enters Try.prog 15 := enters_body Try.func15 (by kernel_rfl) rfl
end Go.Proofs.Ytomeaojdihfgmaa.Slide
