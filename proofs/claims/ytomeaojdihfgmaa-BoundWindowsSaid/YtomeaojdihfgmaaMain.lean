/- BoundWindows: the calls, one over the other; the law is true at every query and time. -/
import Derived.Test.YtomeaojdihfgmaaKb
import Derived.Test.YtomeaojdihfgmaaKd
import Derived.Test.YtomeaojdihfgmaaKh
import Derived.Test.YtomeaojdihfgmaaKi
import Derived.Test.YtomeaojdihfgmaaSlide2
namespace Go.Proofs.Ytomeaojdihfgmaa
open Go.VM Go.Proofs.Ytomeaojdihfgmaa.Data
set_option linter.unusedVariables false
set_option linter.unusedSimpArgs false

def own (f : Nat) : Bool := f == 48
def rounds : Nat := 2000
theorem rounds_ge : 1001 ≤ rounds := by unfold rounds; omega

section
variable (X : Calls')
abbrev C (n : Nat) : Calls' := callsAt tab own X rounds n

theorem call_v {X : Calls'} {n f : Nat} {vf : VFn} {args : List V} {H : Heap} {v : V} (ht : tab f = some vf) (ho : own f = false) (ha : args.all (noRef 5) = true) (hr : ∃ r H1, runFn (C X n) rounds vf args [] = some (r, H1) ∧ freezeV 9 H1 r = some v) : (C X (n + 1)).run f args H = some (v, H) := by
  obtain ⟨r, H1, h1, h2⟩ := hr
  exact call_of ht ho ha h1 h2
theorem call_d {X : Calls'} {n f : Nat} {vf : VFn} {args : List V} {H : Heap} {x : D} (ht : tab f = some vf) (ho : own f = false) (ha : args.all (noRef 5) = true) (hr : ∃ H1, runFn (C X n) rounds vf args [] = some (.d x, H1)) : (C X (n + 1)).run f args H = some (.d x, H) := by
  obtain ⟨H1, h1⟩ := hr
  exact call_of ht ho ha h1 (by simp [freezeV, freezeA, freezeC_d])
theorem call_own {X : Calls'} {n f : Nat} {vf : VFn} {args : List V} {H : Heap} (ht : tab f = some vf) (ho : (!own f && args.all (noRef 5)) = false) : (C X (n + 1)).run f args H = runFn (C X n) rounds vf args H := by
  simp only [C, callsAt, ht, ho]
  rfl

theorem c43 (n : Nat) (k : Int) (H : Heap) : (C X (n + 1)).run 43 [.d (du k)] H = some (V.int .i64 (cnt k : Nat), H) := by
  refine call_d rfl rfl rfl ⟨[], ?_⟩
  rw [fn43]
  unfold cnt
  by_cases h1 : k ≤ 4
  · simp [h1]
  · by_cases h2 : k ≤ 6 <;> simp [h1, h2]
theorem c44 (n : Nat) (x : Nd) (a b : Int) (H : Heap) : (C X (n + 1)).run 44 [.agg (x.enc.map .d), .d (di a), .d (di b)] H = some (V.bool (decide (rightN x a b)), H) :=
  call_d rfl rfl rfl (fn44 _ _ x a b)
theorem c46 (n : Nat) (k : Int) (H : Heap) : (C X (n + 1)).run 46 [.d (du k)] H = some (V.bool (gives k), H) :=
  call_d rfl rfl rfl ⟨[], fn46 _ _ k⟩
theorem c47 (n : Nat) (k : Int) (H : Heap) (hk : 0 ≤ k) : (C X (n + 1)).run 47 [.d (du k)] H = some (.tup [V.int .i64 ((partsK k).getD 0 : Nat), V.int .i64 (if (partsK k).isSome then 0 else 2)], H) := by
  refine call_v rfl rfl rfl ⟨_, [], fn47 _ _ k hk, ?_⟩
  unfold partsK cnt
  by_cases h0 : 1 ≤ k ∧ k ≤ 19
  · by_cases h1 : k ≤ 4
    · simp [h0, h1, freezeV, freezeA, mapO, freezeC_d]
    · by_cases h2 : k ≤ 6 <;> simp [h0, h1, h2, freezeV, freezeA, mapO, freezeC_d]
  · simp [h0, freezeV, freezeA, mapO, freezeC_d]
theorem c13 (n : Nat) (k s v : Int) (hv : I v) (H : Heap) : (C X (n + 1)).run 13 [win k s v] H = some (V.int .i64 (if okWin k s v then 0 else 8), H) := call_d rfl rfl rfl (fn13 _ _ k s v hv)
theorem c29 (n : Nat) (k s v : Int) (hv : I v) (H : Heap) : (C X (n + 1)).run 29 [win k s v] H = some (V.bool (decide (okWin k s v)), H) := call_d rfl rfl rfl (fn29 _ _ k s v hv)
theorem c10 (n : Nat) (k s v : Int) (h : okWin k s v) (H : Heap) : (C X (n + 1)).run 10 [win k s v] H = some (V.int .i64 (wins k s v), H) := call_d rfl rfl rfl (fn10 _ _ k s v h)
theorem qv_noRef (q : Qy) : noRef 5 (qv q) = true := rfl
theorem c12 (n : Nat) (q : Qy) (h : okWin q.kind q.size q.every) (H : Heap) : (C X (n + 1)).run 12 [qv q] H = some (V.int .i64 (winsR q.kind q.size q.every), H) := call_d rfl rfl rfl (fn12 _ _ q h)
theorem c31 (n : Nat) (t s : Int) (H : Heap) : (C X (n + 1)).run 31 [.d (di t), .d (di s)] H = some (V.int .i64 (if s < 1 ∨ 1073741824 < s then 2 else if t < -1099511627776 ∨ 1099511627776 < t then 16 else 0), H) := call_d rfl rfl rfl ⟨[], fn31 _ _ t s⟩
theorem c22 (n : Nat) (t s : Int) (H : Heap) : (C X (n + 2)).run 22 [.d (di t), .d (di s)] H = some (numberV t s, H) := by
  refine call_v rfl rfl rfl ⟨_, [], fn22 _ _ t s fun H => c31 X n t s H, ?_⟩
  unfold numberV
  by_cases h1 : s < 1 ∨ 1073741824 < s
  · simp [h1, freezeV, freezeA, mapO, freezeC_d]
  · by_cases h2 : t < -1099511627776 ∨ 1099511627776 < t <;> simp [h1, h2, freezeV, freezeA, mapO, freezeC_d]
theorem c14 (n : Nat) (t s : Int) (H : Heap) : (C X (n + 3)).run 14 [.d (di t), .d (di s)] H = some (spanV t s, H) := by
  obtain ⟨H1, h⟩ := fn14 (C X (n + 2)) rounds t s fun H => c22 X n t s H
  refine call_v rfl rfl rfl ⟨_, H1, h, ?_⟩
  unfold spanV
  by_cases h1 : s < 1 ∨ 1073741824 < s
  · simp [h1, freezeV, freezeA, mapO, freezeC_d]
  · by_cases h2 : t < -1099511627776 ∨ 1099511627776 < t <;> simp [h1, h2, freezeV, freezeA, mapO, freezeC_d]
theorem c8 (n : Nat) (l : List Nd) (H : Heap) : (C X (n + 1)).run 8 [.d (encs l)] H = some (V.bool (decide (70 < l.length)), H) := by
  refine call_d rfl rfl rfl ⟨[], ?_⟩
  have := fn8 (C X n) rounds (l.map Nd.enc)
  rw [List.length_map] at this
  exact this
theorem c4 (n : Nat) (q : Qy) (H : Heap) : (C X (n + 2)).run 4 [qv q] H = some (V.bool (greatQ q), H) := call_d rfl rfl rfl (fn4 _ _ q fun l H => c8 X n l H)
theorem c34 (n : Nat) (x : Int) (H : Heap) : (C X (n + 1)).run 34 [.d (di x)] H = some (V.bool (outside x), H) := call_d rfl rfl rfl ⟨[], fn34 _ _ x⟩
theorem c35 (n : Nat) (l : List Int) (hl : l.length < 1000) (H : Heap) : (C X (n + 3)).run 35 [.d (ints l), .clo 34 []] H = some (V.bool (decide (¬ ∀ x ∈ l, 0 ≤ x ∧ x ≤ 3)), H) := by
  obtain ⟨r, h1, h2⟩ := fn41 (C X (n + 1)) rounds rounds_ge (fun x H => c34 X n x H) l hl
  have h41 : ∀ H, (C X (n + 2)).run 41 [.d (ints l), .clo 34 []] H = some (V.int .i64 r, H) := fun H => call_d rfl rfl rfl ⟨[], h1⟩
  refine call_d rfl rfl rfl ⟨[], ?_⟩
  rw [fn35 _ _ l r h41, decide_eq_decide.2 (h2.trans (not_congr (outside_iff l)))]
theorem c25 (hX : ∀ (l : List Int), (∀ x ∈ l, I x) → ∀ H, X.run 36 [.d (ints l)] H = some (V.int .i64 (Distinct.count l : Nat), H)) (n : Nat) (l : List Int) (hl : l.length < 1000) (hi : ∀ x ∈ l, I x) (join : Bool) (H : Heap) : (C X (n + 4)).run 25 [.d (ints l), .d (db join)] H = some (V.int .i64 (srcErr l join), H) :=
  call_d rfl rfl rfl ⟨[], fn25 _ _ l join (fun H => c35 X n l hl H) fun H => by
    simp only [C, callsAt]
    exact hX l hi H⟩
theorem c28 (n : Nat) (l : List Int) (join : Bool) (H : Heap) : (C X (n + 1)).run 28 [.d (ints l), .d (db join)] H = some (V.int .i64 (srcErr l join), H) := call_d rfl rfl rfl ⟨[], fn28 _ _ rounds_ge l join⟩

theorem c38 (n : Nat) (l : List Nd) (hl : l.length ≤ 60) (H : Heap) : (C X (n + 2)).run 38 [.d (encs l)] H = some (.tup [.d (ints (told38 l).1), .d (ints (told38 l).2.1), V.bool (told38 l).2.2], H) :=
  call_v rfl rfl rfl (fn38 _ _ rounds_ge (fun k H => c43 X n k H) (fun x a b H => c44 X n x a b H) l hl)

/-- the error of an expression -/
def errE (l : List Nd) : Int := exprErr l.length (told38 l).2.2 (((told38 l).2.1[l.length - 1]?).getD 0)
theorem exprErr_not {n : Nat} {b : Bool} {d d' : Int} (h : b = false ∨ d = d') : exprErr n b d = exprErr n b d' := by
  rcases h with rfl | rfl
  · simp [exprErr]
  · rfl
theorem errE_zero {l : List Nd} (h : errE l = 0) : l.length ≤ 60 ∧ (told38 l).2.2 = true ∧ 0 < l.length := by
  unfold errE exprErr at h
  split at h
  · cases h
  · split at h
    · cases h
    · rename_i h1 h2
      have hk : (told38 l).2.2 = true := by simpa using h2
      refine ⟨by omega, hk, ?_⟩
      have := told_agree l
      exact (this.2 (by rw [this.1]; exact hk)).1

theorem c27 (n : Nat) (l : List Nd) (H : Heap) : (C X (n + 3)).run 27 [.d (encs l)] H = some (V.int .i64 (errE l), H) := by
  refine call_d rfl rfl rfl ⟨[], fn27 _ _ l _ _ _ _ (fun hl H => c38 X n l hl H) fun hl hk => ?_⟩
  have := told_agree l
  obtain ⟨h1, _, t, _, h3⟩ := this.2 (by rw [this.1]; exact hk)
  exact ⟨h1, by rw [h3]; rfl⟩

theorem c40 (n : Nat) (l : List Nd) (hl : l.length ≤ 60) (hwf : ∀ x ∈ l, x.wf) (H : Heap) : (C X (n + 2)).run 40 [.d (encs l)] H = some (.tup [.d (topsT (told40 l).1), V.bool (told40 l).2], H) :=
  call_v rfl rfl rfl (fn40 _ _ rounds_ge (fun k H hk => c47 X n k H hk) (fun H => (call_own rfl rfl).trans (fn48n _ _ H)) (fun H b len cap m h1 h2 h3 h4 => (call_own rfl rfl).trans (fn48 _ _ H b len cap m h1 h2 h3 h4)) l hl hwf)

theorem c33 (n : Nat) (l : List Nd) (hwf : ∀ x ∈ l, x.wf) (H : Heap) : ∃ x, ∀ H, (C X (n + 3)).run 33 [.d (encs l)] H = some (.tup [x, V.int .i64 (errE l)], H) := by
  have ha := told_agree l
  obtain ⟨t, ht⟩ : ∃ t : Tp, (told40 l).2 = true → (told40 l).1.length = l.length ∧ 0 < l.length ∧ (told40 l).1[l.length - 1]? = some t ∧ (told38 l).2.1[l.length - 1]? = some t.depth := by
    by_cases h : (told40 l).2 = true
    · obtain ⟨h1, h2, t, h3, h4⟩ := ha.2 h
      exact ⟨t, fun _ => ⟨h2, h1, h3, h4⟩⟩
    · exact ⟨⟨0, 0, 0⟩, fun h' => absurd h' h⟩
  have hts : topsT (told40 l).1 = tops ((told40 l).1.map fun t => (t.at', t.size, t.depth)) := by
    simp [topsT, tops, Tp.enc]
  obtain ⟨x, h1, h2⟩ := fn33 (C X (n + 2)) rounds l ((told40 l).1.map fun t => (t.at', t.size, t.depth)) (told40 l).2 (t.at', t.size, t.depth) (fun hl H => by rw [← hts]; exact c40 X n l hl hwf H) fun hl hk => by
    obtain ⟨e1, e2, e3, e4⟩ := ht hk
    refine ⟨by simp; omega, by simp; omega, ?_⟩
    rw [List.length_map, e1, List.getElem?_map, e3]
    rfl
  have he : exprErr l.length (told40 l).2 t.depth = errE l := by
    unfold errE
    rw [← ha.1]
    by_cases h : (told40 l).2 = true
    · rw [(ht h).2.2.2]; rfl
    · exact exprErr_not (.inl (by simpa using h))
  rw [he] at h1
  rcases h2 with rfl | rfl
  · exact ⟨.d (.sl []), fun H => call_v rfl rfl rfl ⟨_, [], h1, by simp [freezeV, freezeA, mapO, freezeC_d]; rfl⟩⟩
  · exact ⟨_, fun H => call_v rfl rfl rfl ⟨_, [], h1, by simp [freezeV, freezeA, mapO, freezeC_d]; rfl⟩⟩
theorem c24 (n : Nat) (l : List Nd) (hwf : ∀ x ∈ l, x.wf) (H : Heap) : (C X (n + 4)).run 24 [.d (encs l)] H = some (V.int .i64 (errE l), H) := by
  obtain ⟨x, h⟩ := c33 X n l hwf H
  exact call_d rfl rfl rfl ⟨[], fn24 _ _ l x _ h⟩

theorem c42 (n : Nat) (l : List Nd) (hl : l.length ≤ 60) (hp : (told38 l).2.2 = true) (H : Heap) : (C X (n + 2)).run 42 [.d (encs l)] H = some (.tup [.d (bools (if wrong42 l = l.length then givesAll l else [])), V.int .i64 (wrong42 l : Nat)], H) :=
  call_v rfl rfl rfl (fn42 _ (C X n) _ rounds_ge (fun t P b H => call_own rfl (by simp [own, noRef])) l hl hp)

/-- whether an expression is a truth value -/
def ofE (l : List Nd) : V := if errE l ≠ 0 then ofV false 0 (errE l) else if wrong42 l < l.length then ofV false (wrong42 l) 42 else ofV (gives ((l.getLast?.map Nd.kind).getD 0)) (l.length - 1 : Int) 0
def ofT (l : List Nd) : Bool := if errE l ≠ 0 then false else if wrong42 l < l.length then false else gives ((l.getLast?.map Nd.kind).getD 0)
def ofAt (l : List Nd) : Nat := if errE l ≠ 0 then 0 else if wrong42 l < l.length then wrong42 l else l.length - 1
def ofErr (l : List Nd) : Int := if errE l ≠ 0 then errE l else if wrong42 l < l.length then 42 else 0
theorem ofE_eq (l : List Nd) : ofE l = ofV (ofT l) (ofAt l : Nat) (ofErr l) := by
  unfold ofE ofT ofAt ofErr
  by_cases h : errE l = 0
  · by_cases h2 : wrong42 l < l.length
    · simp [h, h2]
    · have := (errE_zero h).2.2
      have e : ((l.length - 1 : Nat) : Int) = (l.length : Int) - 1 := by omega
      simp only [h, ne_eq, not_true_eq_false, if_false, h2, e]
  · simp [h]
theorem ofE_freeze (l : List Nd) (H : Heap) : freezeV 9 H (ofE l) = some (ofE l) := by
  rw [ofE_eq]
  simp [ofV, freezeV, freezeA, mapO, freezeC_d]

theorem wrong_le (l : List Nd) : wrong42 l ≤ l.length := by
  have := firstBad_le (fitAt l) l.length 0
  unfold wrong42; omega

theorem c37 (n : Nat) (l : List Nd) (hl : l.length < 1000) (hwf : ∀ x ∈ l, x.wf) (H : Heap) : (C X (n + 5)).run 37 [.d (encs l)] H = some (ofE l, H) := by
  refine call_v rfl rfl rfl ⟨ofE l, [], ?_, ofE_freeze l []⟩
  refine fn37 _ _ l (errE l) _ (wrong42 l) (gives ((l.getLast?.map Nd.kind).getD 0)) hl (fun H => c24 X n l hwf H) (fun he H => c42 X (n + 2) l (errE_zero he).1 (errE_zero he).2.1 H) fun he => ?_
  obtain ⟨h1, h2, h3⟩ := errE_zero he
  refine ⟨h3, wrong_le l, fun hw => ?_⟩
  rw [if_pos hw, hw, List.getLast?_eq_getElem?]
  simp only [givesAll, List.getElem?_map]
  rw [List.getElem?_eq_getElem (by omega)]
  rfl
theorem c26 (n : Nat) (l : List Nd) (hl : l.length < 1000) (hwf : ∀ x ∈ l, x.wf) (want : Bool) (H : Heap) : (C X (n + 6)).run 26 [.d (encs l), .d (db want)] H = some (wantV want (ofT l) (ofAt l : Nat) (ofErr l), H) :=
  call_v rfl rfl rfl ⟨_, [], fn26 _ _ l want _ _ _ (fun H => by rw [← ofE_eq]; exact c37 X n l hl hwf H), by simp [wantV, freezeV, freezeA, mapO, freezeC_d]⟩
def wantErr (want : Bool) (l : List Nd) : Int := if ofErr l = 0 ∧ ofT l ≠ want then 42 else ofErr l
theorem c18 (n : Nat) (l : List Nd) (hl : l.length < 1000) (hwf : ∀ x ∈ l, x.wf) (H : Heap) : (C X (n + 7)).run 18 [.d (encs l)] H = some (.tup [V.int .i64 (ofAt l : Nat), V.int .i64 (wantErr false l)], H) :=
  call_v rfl rfl rfl ⟨_, [], fn18 _ _ l _ _ (fun H => c26 X n l hl hwf false H), by simp [freezeV, freezeA, mapO, freezeC_d, wantErr]⟩
theorem c19 (n : Nat) (l : List Nd) (hl : l.length < 1000) (hwf : ∀ x ∈ l, x.wf) (H : Heap) : (C X (n + 7)).run 19 [.d (encs l)] H = some (.tup [V.int .i64 (ofAt l : Nat), V.int .i64 (wantErr true l)], H) :=
  call_v rfl rfl rfl ⟨_, [], fn19 _ _ l _ _ (fun H => c26 X n l hl hwf true H), by simp [freezeV, freezeA, mapO, freezeC_d, wantErr]⟩

theorem c50 (n : Nat) (l : List Nd) (hp : (told38 l).2.2 = true) (i : Nat) (hi : i < l.length) (H : Heap) : (C X (n + 2)).run 50 [.d (encs l), .d (di i)] H = some (V.bool (fitAt l i), H) := by
  have hx : l[i]? = some l[i] := List.getElem?_eq_getElem hi
  obtain ⟨_, A, B, eA, eB, _, _, hA, hB⟩ := told_parts hp i _ hx
  have hA' : A < l.length := by omega
  have hB' : B < l.length := by omega
  have := fn50 (C X (n + 1)) rounds (fun k H => c46 X n k H) (fun k H => rfl) (fun k H => rfl) l i A B hi hA' hB' eA eB
  have hf : fitAt l i = fitsK l[i].kind (gives l[A].kind) (gives l[B].kind) := by
    simp only [fitAt, hx, kindAt, eA, eB, Int.toNat_natCast, List.getElem?_eq_getElem hA', List.getElem?_eq_getElem hB']
  rw [hf]
  exact call_d rfl rfl rfl this
theorem c39 (n : Nat) (l : List Nd) (hl : l.length < 1000) (H : Heap) : (C X (n + 4)).run 39 [.d (encs l)] H = some (ofE l, H) := by
  refine call_v rfl rfl rfl ⟨ofE l, [], ?_, ofE_freeze l []⟩
  exact fn39 _ _ l (errE l) (wrong42 l) hl (fun H => c27 X n l H) (fun he H => call_d rfl rfl rfl ⟨[], fn45 _ _ rounds_ge l (fitAt l) (fun i hi H => c50 X n l (errE_zero he).2.1 i hi H) hl⟩) (fun he => (errE_zero he).2.2) fun k H => c46 X (n + 2) k H
theorem c30 (n : Nat) (l : List Nd) (hl : l.length < 1000) (want : Bool) (H : Heap) : (C X (n + 5)).run 30 [.d (encs l), .d (db want)] H = some (.tup [V.int .i64 (ofAt l : Nat), V.int .i64 (wantErr want l)], H) :=
  call_v rfl rfl rfl ⟨_, [], fn30 _ _ l want _ _ _ (fun H => by rw [← ofE_eq]; exact c39 X n l hl H), by simp [wantV, wantErr, freezeV, freezeA, mapO, freezeC_d]⟩

theorem ofAt_lt {l : List Nd} (h : 0 < l.length) : ofAt l < l.length := by
  unfold ofAt
  (repeat' split) <;> omega
theorem ofAt_get {l : List Nd} (h : 0 < l.length) : ∃ x, l[ofAt l]? = some x := ⟨_, List.getElem?_eq_getElem (ofAt_lt h)⟩
/-- the node that a wish is not met at -/
def wishN (l : List Nd) : Nd := (l[ofAt l]?).getD ⟨0, 0, 0, 0, 0⟩
theorem wishN_get {l : List Nd} (h : 0 < l.length) : l[ofAt l]? = some (wishN l) := by
  obtain ⟨x, hx⟩ := ofAt_get h
  unfold wishN
  rw [hx]; rfl

noncomputable def e1 (q : Qy) : Int := clErr q (errE q.arg) (errE q.where') (srcErr q.sources q.join)
def wErr (q : Qy) : Int := if 0 < q.arg.length ∧ wantErr false q.arg ≠ 0 then wantErr false q.arg else if 0 < q.where'.length ∧ wantErr true q.where' ≠ 0 then wantErr true q.where' else 0
def wAt (q : Qy) : Int := if 0 < q.arg.length ∧ wantErr false q.arg ≠ 0 then (wishN q.arg).at' else if 0 < q.where'.length ∧ wantErr true q.where' ≠ 0 then (wishN q.where').at' else 0
theorem wish_eq (q : Qy) : wishV q.arg.length q.where'.length (wishN q.arg).at' (wishN q.where').at' (wantErr false q.arg) (wantErr true q.where') = .tup [V.int .i64 (wAt q), V.int .i64 (wErr q)] := by
  unfold wishV wAt wErr
  by_cases h1 : 0 < q.arg.length ∧ wantErr false q.arg ≠ 0
  · simp only [if_pos h1]
  · by_cases h2 : 0 < q.where'.length ∧ wantErr true q.where' ≠ 0
    · simp only [if_neg h1, if_pos h2]
    · simp only [if_neg h1, if_neg h2]
noncomputable def chkErr (q : Qy) : Int := if e1 q = 0 then wErr q else e1 q
noncomputable def chkAt (q : Qy) : Int := if e1 q = 0 then wAt q else 0

structure Small (q : Qy) : Prop where
  a : q.arg.length ≤ 70
  w : q.where'.length ≤ 70
  s : q.sources.length ≤ 10
theorem small_of {q : Qy} (h : greatQ q = false) : Small q := by
  simp [greatQ] at h
  exact ⟨h.1.1, h.1.2, h.2⟩

variable (hX36 : ∀ (l : List Int), (∀ x ∈ l, I x) → ∀ H, X.run 36 [.d (ints l)] H = some (V.int .i64 (Distinct.count l : Nat), H))
include hX36
theorem c16 (n : Nat) (q : Qy) (hq : q.wf) (hs : Small q) (H : Heap) : (C X (n + 5)).run 16 [qv q] H = some (V.int .i64 (e1 q), H) :=
  call_d rfl rfl rfl (fn16 _ _ q _ _ _ (fun H => c24 X n q.arg hq.2.1 H) (fun H => c24 X n q.where' hq.2.2.2.1 H) (fun H => c25 X hX36 n q.sources (by have := hs.s; omega) hq.2.2.1 q.join H) (fun H => c13 X (n + 3) q.kind q.size q.every hq.2.2.2.2.2.2.1 H))
omit hX36 in
theorem c20 (n : Nat) (q : Qy) (hq : q.wf) (H : Heap) : (C X (n + 4)).run 20 [qv q] H = some (V.int .i64 (e1 q), H) :=
  call_d rfl rfl rfl (fn20 _ _ q _ _ _ (fun H => c27 X n q.arg H) (fun H => c27 X n q.where' H) (fun H => c28 X (n + 2) q.sources q.join H) (fun H => c29 X (n + 2) q.kind q.size q.every hq.2.2.2.2.2.2.1 H))
omit hX36 in
theorem c21 (n : Nat) (q : Qy) (hs : Small q) (H : Heap) : (C X (n + 6)).run 21 [qv q] H = some (.tup [V.int .i64 (wAt q), V.int .i64 (wErr q)], H) := by
  have ha := hs.a
  have hw := hs.w
  obtain ⟨H1, h⟩ := fn21 (C X (n + 5)) rounds q (ofAt q.arg) (ofAt q.where') (wishN q.arg) (wishN q.where') (wantErr false q.arg) (wantErr true q.where') (fun _ H => c30 X n q.arg (by omega) false H) (fun _ H => c30 X n q.where' (by omega) true H) (fun h _ => wishN_get h) (fun h _ => wishN_get h)
  rw [wish_eq] at h
  exact call_v rfl rfl rfl ⟨_, H1, h, by simp [freezeV, freezeA, mapO, freezeC_d]⟩
omit hX36 in
theorem c11 (n : Nat) (q : Qy) (hq : q.wf) (hs : Small q) (H : Heap) : (C X (n + 7)).run 11 [qv q] H = some (.tup [V.int .i64 (chkAt q), V.int .i64 (chkErr q)], H) := by
  obtain ⟨H1, h⟩ := fn11 (C X (n + 6)) rounds q (e1 q) (wAt q) (wErr q) (fun H => c20 X (n + 2) q hq H) (fun _ H => c21 X n q hs H)
  refine call_v rfl rfl rfl ⟨_, H1, h, ?_⟩
  unfold chkAt chkErr
  by_cases h0 : e1 q = 0 <;> simp [h0, freezeV, freezeA, mapO, freezeC_d]
theorem c9 (n : Nat) (q : Qy) (hq : q.wf) (hs : Small q) (H : Heap) : (C X (n + 9)).run 9 [qv q] H = some (.tup [V.int .i64 (chkAt q), V.int .i64 (chkErr q)], H) := by
  have ha := hs.a
  have hw := hs.w
  obtain ⟨H1, h⟩ := fn9 (C X (n + 8)) (C X (n + 7)) rounds rounds_ge q (e1 q) (ofAt q.arg) (ofAt q.where') (wishN q.arg) (wishN q.where') (wantErr false q.arg) (wantErr true q.where') (fun H => c16 X hX36 (n + 3) q hq hs H)
    (fun b m c H => call_own rfl (by simp [own, noRef])) (fun _ _ H => c18 X n q.arg (by omega) hq.2.1 H) (fun _ _ H => c19 X n q.where' (by omega) hq.2.2.2.1 H) (fun _ h _ => wishN_get h) (fun _ h _ => wishN_get h)
  rw [wish_eq] at h
  refine call_v rfl rfl rfl ⟨_, H1, h, ?_⟩
  unfold chkAt chkErr
  by_cases h0 : e1 q = 0 <;> simp [h0, freezeV, freezeA, mapO, freezeC_d]

omit hX36 in
theorem chk_ok {q : Qy} (h : chkErr q = 0) : okWin q.kind q.size q.every := by
  unfold chkErr at h
  split at h
  · rename_i h0
    unfold e1 clErr at h0
    (repeat' split at h0) <;> first | (exact absurd h0 (by omega)) | skip
    all_goals first | (rename_i hk; exact hk.1) | omega
  · contradiction

noncomputable def manyN (q : Qy) : Int := if chkErr q = 0 then winsR q.kind q.size q.every else 0
theorem c5 (n : Nat) (q : Qy) (hq : q.wf) (hs : Small q) (H : Heap) : (C X (n + 10)).run 5 [qv q] H = some (.tup [V.int .i64 (manyN q), V.int .i64 (chkErr q)], H) := by
  obtain ⟨H1, h⟩ := fn5 (C X (n + 9)) rounds q (chkAt q) (chkErr q) (wins q.kind q.size q.every) (fun H => c9 X hX36 n q hq hs H) (fun h H => c10 X (n + 8) q.kind q.size q.every (chk_ok h) H)
  refine call_v rfl rfl rfl ⟨_, H1, h, ?_⟩
  unfold manyN
  by_cases h0 : chkErr q = 0
  · simp [h0, wins_eq (chk_ok h0), freezeV, freezeA, mapO, freezeC_d]
  · simp [h0, freezeV, freezeA, mapO, freezeC_d]
omit hX36 in
theorem c6 (n : Nat) (q : Qy) (hq : q.wf) (hs : Small q) (H : Heap) : (C X (n + 8)).run 6 [qv q] H = some (.tup [V.int .i64 (manyN q), V.int .i64 (chkErr q)], H) := by
  obtain ⟨H1, h⟩ := fn6 (C X (n + 7)) rounds q (chkAt q) (chkErr q) (winsR q.kind q.size q.every) (fun H => c11 X n q hq hs H) (fun h H => c12 X (n + 6) q (chk_ok h) H)
  refine call_v rfl rfl rfl ⟨_, H1, h, ?_⟩
  unfold manyN
  by_cases h0 : chkErr q = 0 <;> simp [h0, freezeV, freezeA, mapO, freezeC_d]

variable (hX15 : ∀ (args : List V) (r : V), Slide.spec args = some r → ∀ H, X.run 15 args H = some (r, H))
include hX15
omit hX36 in
theorem c7 (n : Nat) (k s v t : Int) (hv : I v) : ∃ es g, (∀ H, (C X (n + 4)).run 7 [win k s v, .d (di t)] H = some (.tup [.d (.sl es), V.int .i64 g], H)) ∧ (k = 2 → okWin k s v → g = 0 → (es.length : Int) ≤ winsR k s v ∧ winsR k s v - 1 ≤ es.length ∧ I (winsR k s v - 1)) := by
  by_cases hk : k = 2
  · subst hk
    by_cases ho : okWin 2 s v
    · have ho' := ho
      unfold okWin at ho'
      simp only [if_true] at ho'
      obtain ⟨o1, o2, o3, o4, o5⟩ := ho'
      obtain ⟨es, g, h15, hlen⟩ : ∃ es g, (∀ H, X.run 15 [.d (di t), .d (di s), .d (di v)] H = some (.tup [.d (.sl es), V.int .i64 g], H)) ∧ (g = 0 → (es.length : Int) ≤ winsR 2 s v ∧ winsR 2 s v - 1 ≤ es.length ∧ I (winsR 2 s v - 1)) := by
        by_cases ht : t < -1099511627776 ∨ 1099511627776 < t
        · exact ⟨[], 16, hX15 _ _ (by simp only [Slide.spec]; rw [if_pos ⟨o1, o2, o3, o4, o5⟩, if_pos ht]), fun h => by cases h⟩
        · refine ⟨Slide.spans t s v, 0, hX15 _ _ (by simp only [Slide.spec]; rw [if_pos ⟨o1, o2, o3, o4, o5⟩, if_neg ht]), fun _ => ?_⟩
          obtain ⟨m1, m2, m3, m4, m5⟩ := Slide.many_spec (t := t) ⟨o1, o2, o3, o4, o5⟩ (by omega)
          rw [Slide.spans_len]
          exact ⟨m4, m5, by unfold I; omega⟩
      obtain ⟨H1, h⟩ := fn7s (C X (n + 3)) rounds s v t es g (fun H => c13 X (n + 2) 2 s v hv H) (fun _ H => by simp only [C, callsAt]; exact h15 H)
      rw [if_pos ho] at h
      exact ⟨es, g, fun H => call_v rfl rfl rfl ⟨_, H1, h, by simp [freezeV, freezeA, mapO, freezeC_d]⟩, fun _ _ => hlen⟩
    · obtain ⟨H1, h⟩ := fn7s (C X (n + 3)) rounds s v t [] 0 (fun H => c13 X (n + 2) 2 s v hv H) (fun h => absurd h ho)
      rw [if_neg ho] at h
      exact ⟨[], 8, fun H => call_v rfl rfl rfl ⟨_, H1, h, by simp [freezeV, freezeA, mapO, freezeC_d]; rfl⟩, fun _ h => absurd h ho⟩
  · obtain ⟨r, H1, es, e, h1, h2⟩ := fn7o (C X (n + 3)) rounds k s v t hk (fun H => c13 X (n + 2) k s v hv H) (fun H => c14 X n t s H)
    exact ⟨es, e, fun H => call_v rfl rfl rfl ⟨_, H1, h1, h2⟩, fun h => absurd h hk⟩

/-- the law is true -/
theorem law_true (n : Nat) (q : Qy) (hq : q.wf) (t : Int) (H : Heap) : (C X (n + 11)).run 3 [qv q, .d (di t)] H = some (V.bool true, H) := by
  obtain ⟨es, g, h7, h7n⟩ := c7 X hX15 (n + 6) q.kind q.size q.every t hq.2.2.2.2.2.2.1
  refine call_d rfl rfl rfl (fn3 (C X (n + 10)) rounds q t (manyN q) (chkErr q) es g (fun H => c4 X (n + 8) q H) (fun h H => c5 X hX36 n q hq (small_of h) H) (fun h H => c6 X (n + 2) q hq (small_of h) H) (fun _ H => h7 H) fun hg he hgg hk => ?_)
  have := h7n hk (chk_ok he) hgg
  unfold manyN
  rw [if_pos he]
  exact this
end
end Go.Proofs.Ytomeaojdihfgmaa
