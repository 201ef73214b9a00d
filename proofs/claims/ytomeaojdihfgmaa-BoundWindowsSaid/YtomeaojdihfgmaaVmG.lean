/- Runs with unknowns in them: rules for simp. -/
import Derived.Test.YtomeaojdihfgmaaVmE
namespace Go.VM
set_option linter.unusedVariables false
set_option linter.unusedSimpArgs false

abbrev R := Option (Ex × Env × Heap)

def seqR (O : Calls') (n : Nat) (b : VCode) (r : R) : R := match r with | some (.normal, E, H) => run O n b E H | r => r
def condR (O : Calls') (n : Nat) (a b : VCode) (E : Env) (H : Heap) (v : V) : R := match v with | .d (.lit (.bool true)) => run O n a E H | .d (.lit (.bool false)) => run O n b E H | _ => none
def blockR (id : Nat) (r : R) : R := match r with | some (.exit i, E, H) => some (if i = id then .normal else .exit i, E, H) | r => r
def opsR (F : CallF) (all r : List VOper) (x : Option (Env × Heap)) : Option (Env × Heap) := match x with | some (E, H) => runOps F all r E H | none => none
def regR (ks : List Nat) (r : Option (Env × Heap)) : R := match r with | some (E, H) => some (.normal, E.keep ks, H) | none => none
def putR (d : Option Nat) (E : Env) (r : Option (V × Heap)) : Option (Env × Heap) := match r with | some (v, H) => some (putE d v E, H) | none => none
def guardR (F : CallF) (d : Option Nat) (op : VOp) (E : Env) (H : Heap) (w : Option Bool) : Option (Env × Heap) := match w with | some true => putR d E (runOp F op (X.ev E) H) | some false => some (putE d (.tup []) E, H) | none => none
def finR (res : List (Nat × Option (Nat × Bool))) (r : R) : Option (V × Heap) :=
  match r with
  | some (.normal, E, H') => (resV res E H').map fun v => (v, H')
  | some (.ret, E, H') => (resV res E H').map fun v => (v, H')
  | _ => none

section
variable {O : Calls'} {n : Nat} {E : Env} {H : Heap} {c : Prop} [Decidable c]

theorem run_seq (a b : VCode) : run O n (.seq a b) E H = seqR O n b (run O n a E H) := by
  simp only [run, seqR]
  cases run O n a E H with
  | none => rfl
  | some x => obtain ⟨ex, E', H'⟩ := x; cases ex <;> rfl
theorem run_cond (x : X) (a b : VCode) : run O n (.cond x a b) E H = condR O n a b E H (x.ev E) := by
  simp only [run, condR]
  rfl
theorem run_block (id : Nat) (a : VCode) : run O n (.block id a) E H = blockR id (run O n a E H) := by
  simp only [run, blockR]
  rfl
theorem run_region (ops : List VOper) (ks : List Nat) : run O n (.region ops false [] ks) E H = regR ks (runOps O.run ops ops E H) := by
  simp only [run, regR, Bool.false_eq_true, if_false]
  rfl
theorem run_regionD (ops : List VOper) (an : List (List Nat)) (ks : List Nat) : run O n (.region ops true an ks) E H = regR ks (runDraw O ops an ops 0 [] E H) := by
  simp only [run, regR, if_true]
  rfl
theorem run_skip : run O n .skip E H = some (.normal, E, H) := rfl
theorem run_exit (id : Nat) : run O n (.exit id) E H = some (.exit id, E, H) := rfl
theorem run_ret : run O n .ret E H = some (.ret, E, H) := rfl
theorem run_loop (a : VCode) : run O n (.loop a) E H = runLoop (run O n a) n E H := rfl
theorem runOps_nil (F : CallF) (all : List VOper) : runOps F all [] E H = some (E, H) := rfl
theorem runOps_cons (F : CallF) (all : List VOper) (o : VOper) (r : List VOper) : runOps F all (o :: r) E H = opsR F all r (stepO F all o E H) := by
  simp only [runOps, opsR]
  rfl
theorem stepO_plain (F : CallF) (all : List VOper) (d : Option Nat) (op : VOp) : stepO F all ⟨d, none, op⟩ E H = putR d E (runOp F op (X.ev E) H) := by
  simp only [stepO, wants, putR]
  rfl
theorem stepO_guard (F : CallF) (all : List VOper) (d : Option Nat) (g : Nat × Bool) (op : VOp) : stepO F all ⟨d, some g, op⟩ E H = guardR F d op E H (wants (some g) all E) := by
  simp only [stepO, guardR, putR]
  rfl
theorem runFn_eq (vf : VFn) (args : List V) (h : args.length ≤ vf.nt) : runFn O n vf args H = finR vf.res (run O n vf.code (startE 0 args) H) := by
  simp only [runFn, finR, if_pos h]
  rfl

theorem seqR_normal (b) : seqR O n b (some (.normal, E, H)) = run O n b E H := rfl
theorem seqR_ret (b) : seqR O n b (some (.ret, E, H)) = some (.ret, E, H) := rfl
theorem seqR_exit (id) (b) : seqR O n b (some (.exit id, E, H)) = some (.exit id, E, H) := rfl
theorem seqR_ite (x y : R) (b) : seqR O n b (if c then x else y) = if c then seqR O n b x else seqR O n b y := by split <;> rfl
theorem condR_bool (t : Bool) (a b : VCode) : condR O n a b E H (.d (.lit (.bool t))) = if t = true then run O n a E H else run O n b E H := by cases t <;> rfl
theorem blockR_normal (id) : blockR id (some (.normal, E, H)) = some (.normal, E, H) := rfl
theorem blockR_ret (id) : blockR id (some (.ret, E, H)) = some (.ret, E, H) := rfl
theorem blockR_exit (id i) : blockR id (some (.exit i, E, H)) = some (if i = id then .normal else .exit i, E, H) := rfl
theorem blockR_ite (id) (x y : R) : blockR id (if c then x else y) = if c then blockR id x else blockR id y := by split <;> rfl
theorem opsR_some (F : CallF) (all r : List VOper) : opsR F all r (some (E, H)) = runOps F all r E H := rfl
theorem opsR_ite (F : CallF) (all r : List VOper) (x y) : opsR F all r (if c then x else y) = if c then opsR F all r x else opsR F all r y := by split <;> rfl
theorem regR_some (ks) : regR ks (some (E, H)) = some (.normal, E.keep ks, H) := rfl
theorem regR_ite (ks) (x y) : regR ks (if c then x else y) = if c then regR ks x else regR ks y := by split <;> rfl
theorem guardR_some (F : CallF) (d : Option Nat) (op : VOp) (t : Bool) : guardR F d op E H (some t) = if t = true then putR d E (runOp F op (X.ev E) H) else some (putE d (.tup []) E, H) := by cases t <;> rfl
theorem putR_some (d) (v : V) : putR d E (some (v, H)) = some (putE d v E, H) := rfl
theorem putR_ite (d) (x y) : putR d E (if c then x else y) = if c then putR d E x else putR d E y := by split <;> rfl
theorem finR_normal (res) : finR res (some (.normal, E, H)) = (resV res E H).map fun v => (v, H) := rfl
theorem finR_ret (res) : finR res (some (.ret, E, H)) = (resV res E H).map fun v => (v, H) := rfl
theorem finR_ite (res) (x y : R) : finR res (if c then x else y) = if c then finR res x else finR res y := by split <;> rfl
end

def loopR (body : Env → Heap → R) (n : Nat) (r : R) : R := match r with | some (.normal, E, H) => runLoop body n E H | r => r
/-- a loop's round -/
theorem runLoop_step {body : Env → Heap → R} {n : Nat} {E : Env} {H : Heap} : runLoop body (n + 1) E H = loopR body n (body E H) := by
  simp only [runLoop, loopR]
  cases body E H with
  | none => rfl
  | some x => obtain ⟨ex, E', H'⟩ := x; cases ex <;> rfl
theorem loopR_normal {body : Env → Heap → R} {n : Nat} {E : Env} {H : Heap} : loopR body n (some (.normal, E, H)) = runLoop body n E H := rfl
theorem loopR_ret {body : Env → Heap → R} {n : Nat} {E : Env} {H : Heap} : loopR body n (some (.ret, E, H)) = some (.ret, E, H) := rfl
theorem loopR_exit {body : Env → Heap → R} {n id : Nat} {E : Env} {H : Heap} : loopR body n (some (.exit id, E, H)) = some (.exit id, E, H) := rfl
end Go.VM
/- A slot that holds a slice at the head of an own block: what an append does. -/
namespace Go.VM
set_option linter.unusedVariables false
set_option linter.unusedSimpArgs false

/-- v is a slice of just these elements, at the head of a block of its own (or no slice at all) -/
def OwnL (H : Heap) (v : V) (ty sz : Nat) (es : List (List V)) : Prop := (es = [] ∧ v = .nilS) ∨ ∃ b, v = .ref b sz 0 es.length es.length ∧ H.blk b = some ⟨ty, sz, es⟩

theorem newBlk_blk_lt {H : Heap} {ty sz : Nat} {es : List (List V)} {c : Nat} (h : c < H.length) : (newBlk H ty sz es).blk c = H.blk c := Heap.blk_append_lt h
theorem newBlk_blk_self {H : Heap} {ty sz : Nat} {es : List (List V)} : (newBlk H ty sz es).blk H.length = some ⟨ty, sz, es⟩ := Heap.blk_append_self
theorem newBlk_len {H : Heap} {ty sz : Nat} {es : List (List V)} : (newBlk H ty sz es).length = H.length + 1 := by simp [newBlk]

theorem OwnL.mono {H H' : Heap} {v : V} {ty sz : Nat} {es : List (List V)} (h : OwnL H v ty sz es) (hb : ∀ c ∈ touchV v, c < H.length → H'.blk c = H.blk c) : OwnL H' v ty sz es := by
  rcases h with h | ⟨b, rfl, h⟩
  · exact .inl h
  · exact .inr ⟨b, rfl, by rw [hb b (by simp [touchV]) (Heap.blk_lt h)]; exact h⟩

theorem app_own {H : Heap} {v : V} {ty sz bytes : Nat} {es xs : List (List V)} (h : OwnL H v ty sz es) (hx : xs ≠ []) (hr : (es.length + xs.length) * bytes ≤ room) :
    ∃ H', appV H ty sz bytes v xs = some (.ref H.length sz 0 (es ++ xs).length (es ++ xs).length, H') ∧ H'.blk H.length = some ⟨ty, sz, es ++ xs⟩ ∧ H'.length = H.length + 1 ∧ ∀ c, c < H.length → c ∉ touchV v → H'.blk c = H.blk c := by
  have hx0 : ¬ xs.length = 0 := fun e => hx (List.eq_nil_of_length_eq_zero e)
  rcases h with ⟨rfl, rfl⟩ | ⟨b, rfl, hb⟩
  · refine ⟨newBlk H ty sz xs, ?_, newBlk_blk_self, newBlk_len, fun c hc _ => newBlk_blk_lt hc⟩
    simp only [List.length_nil, Nat.zero_add] at hr
    simp only [appV, hx0, if_false, hr, if_true, List.nil_append]
  · have hlt := Heap.blk_lt hb
    have hlen : (H.set b none).length = H.length := List.length_set
    refine ⟨newBlk (H.set b none) ty sz (es ++ xs), ?_, ?_, by rw [newBlk_len, hlen], fun c hc ht => ?_⟩
    · have h1 : ¬ es.length + xs.length ≤ es.length := by omega
      simp only [appV, hb, and_self, if_true, hx0, if_false, h1, Nat.le_refl, hr, List.take_length, List.length_append]
    · have := newBlk_blk_self (H := H.set b none) (ty := ty) (sz := sz) (es := es ++ xs)
      rwa [hlen] at this
    · rw [newBlk_blk_lt (by rw [hlen]; exact hc), Heap.blk_set hlt, if_neg (fun e => ht (by simp [touchV, e]))]

/-- the number at a place of such a slice -/
theorem OwnL.load {H : Heap} {v : V} {ty sz : Nat} {es : List (List V)} (h : OwnL H v ty sz es) {i : Nat} {e : List V} (hi : es[i]? = some e) : ∃ b, v = .ref b sz 0 es.length es.length ∧ i < es.length ∧ ∀ o c, e[o]? = some c → loadV H 1 false (.ptr b sz i o) = some c := by
  rcases h with ⟨rfl, _⟩ | ⟨b, rfl, hb⟩
  · simp at hi
  · exact ⟨b, rfl, (List.getElem?_eq_some_iff.1 hi).1, fun o c hc => by simp [loadV, hb, hi, hc]⟩

theorem elemsV_new {H : Heap} {ty sz : Nat} {x : List V} : elemsV (newBlk H ty sz [x]) sz (.ref H.length sz 0 1 1) = some [x] := by
  simp [elemsV, newBlk_blk_self]

/-- one element more -/
theorem push_own {H : Heap} {v : V} {ty sz bytes : Nat} {es : List (List V)} {x : List V} (h : OwnL H v ty sz es) (hr : (es.length + 1) * bytes ≤ room) :
    ∃ b' H', appV (newBlk H ty sz [x]) ty sz bytes v [x] = some (.ref b' sz 0 (es.length + 1) (es.length + 1), H') ∧ H'.blk b' = some ⟨ty, sz, es ++ [x]⟩ ∧ H.length < b' ∧ H'.length = b' + 1 ∧ ∀ c, c < H.length → c ∉ touchV v → H'.blk c = H.blk c := by
  have h' : OwnL (newBlk H ty sz [x]) v ty sz es := h.mono fun c _ hc => newBlk_blk_lt hc
  obtain ⟨H', h1, h2, h3, h4⟩ := app_own (xs := [x]) (bytes := bytes) h' (by simp) (by simpa using hr)
  rw [newBlk_len] at h1 h2 h3 h4
  refine ⟨H.length + 1, H', by simpa using h1, h2, by omega, by omega, fun c hc ht => ?_⟩
  rw [h4 c (by omega) ht, newBlk_blk_lt hc]

theorem OwnL.lt {H : Heap} {v : V} {ty sz : Nat} {es : List (List V)} (h : OwnL H v ty sz es) : ∀ c ∈ touchV v, c < H.length := by
  rcases h with ⟨_, rfl⟩ | ⟨b, rfl, hb⟩
  · simp [touchV]
  · intro c hc
    simp [touchV] at hc
    subst hc
    exact Heap.blk_lt hb

theorem mapO_of {α β : Type} {f : α → Option β} {g : α → β} : ∀ (l : List α), (∀ x ∈ l, f x = some (g x)) → mapO f l = some (l.map g)
  | [], _ => rfl
  | x :: l, h => by
    simp only [mapO, h x (by simp), mapO_of l fun y hy => h y (by simp [hy]), List.map_cons]

/-- such a slice of data, told -/
theorem OwnL.freeze {H : Heap} {v : V} {ty sz : Nat} {ds : List (List D)} {n : Nat} (h : OwnL H v ty sz (ds.map (·.map .d))) : freezeC (n + 1) H v = some (.sl ds) := by
  rcases h with ⟨h, rfl⟩ | ⟨b, rfl, hb⟩
  · simp at h; subst h; rfl
  · have hc : ∀ x : List D, mapO (freezeC n H) (x.map V.d) = some x := fun x => by
      induction x with
      | nil => rfl
      | cons y x ih => cases n <;> simp [mapO, freezeC, ih]
    have key : ∀ ds : List (List D), mapO (mapO (freezeC n H)) (ds.map (·.map V.d)) = some ds := fun ds => by
      induction ds with
      | nil => rfl
      | cons y ds ih => simp only [List.map_cons, mapO, hc, ih]
    have hl : (List.map (fun x : List D => List.map V.d x) ds).length = ds.length := by simp
    simp only [freezeC, hb, true_and, Nat.zero_add, Nat.le_refl, if_true, List.drop_zero, List.take_length, key, Option.map_some]
end Go.VM
/- Heaps with a known end: rules for simp. 'K ++ L': K is unknown, L the blocks made since. -/
namespace Go.VM
set_option linter.unusedVariables false
set_option linter.unusedSimpArgs false

theorem blk_lit0 {a : Option Blk} {L : List (Option Blk)} : Heap.blk (a :: L) 0 = a := by cases a <;> rfl
theorem blk_lit1 {a b : Option Blk} {L : List (Option Blk)} : Heap.blk (a :: b :: L) 1 = b := by cases b <;> rfl
theorem blk_lit2 {a b c : Option Blk} {L : List (Option Blk)} : Heap.blk (a :: b :: c :: L) 2 = c := by cases c <;> rfl
theorem blk_lit3 {a b c d : Option Blk} {L : List (Option Blk)} : Heap.blk (a :: b :: c :: d :: L) 3 = d := by cases d <;> rfl
theorem blk_lit4 {a b c d e : Option Blk} {L : List (Option Blk)} : Heap.blk (a :: b :: c :: d :: e :: L) 4 = e := by cases e <;> rfl
theorem blk_lit5 {a b c d e f : Option Blk} {L : List (Option Blk)} : Heap.blk (a :: b :: c :: d :: e :: f :: L) 5 = f := by cases f <;> rfl
theorem blk_lit6 {a b c d e f g : Option Blk} {L : List (Option Blk)} : Heap.blk (a :: b :: c :: d :: e :: f :: g :: L) 6 = g := by cases g <;> rfl
theorem blk_lit7 {a b c d e f g h : Option Blk} {L : List (Option Blk)} : Heap.blk (a :: b :: c :: d :: e :: f :: g :: h :: L) 7 = h := by cases h <;> rfl
theorem blk_tail {K L : List (Option Blk)} {n k : Nat} (h : n = K.length) : Heap.blk (K ++ L) (n + k) = Heap.blk L k := by
  subst h
  unfold Heap.blk
  rw [List.getElem?_append_right (by omega), Nat.add_sub_cancel_left]
theorem blk_tail0 {K L : List (Option Blk)} {n : Nat} (h : n = K.length) : Heap.blk (K ++ L) n = Heap.blk L 0 := by
  have := blk_tail (L := L) (k := 0) h
  simpa using this
theorem blk_head {K L : List (Option Blk)} {b : Nat} (h : b < K.length) : Heap.blk (K ++ L) b = Heap.blk K b := by
  unfold Heap.blk
  rw [List.getElem?_append_left h]
theorem set_tail {K L : List (Option Blk)} {n k : Nat} {x : Option Blk} (h : n = K.length) : (K ++ L).set (n + k) x = K ++ L.set k x := by
  subst h
  rw [List.set_append_right _ _ (by omega), Nat.add_sub_cancel_left]
theorem set_tail0 {K L : List (Option Blk)} {n : Nat} {x : Option Blk} (h : n = K.length) : (K ++ L).set n x = K ++ L.set 0 x := by
  have := set_tail (L := L) (k := 0) (x := x) h
  simpa using this
theorem set_head {K L : List (Option Blk)} {b : Nat} {x : Option Blk} (h : b < K.length) : (K ++ L).set b x = K.set b x ++ L := List.set_append_left _ _ h
theorem newBlk_app {K L : List (Option Blk)} {ty sz : Nat} {es : List (List V)} : newBlk (K ++ L) ty sz es = K ++ (L ++ [some ⟨ty, sz, es⟩]) := by simp [newBlk]
theorem newBlk_one {K : List (Option Blk)} {ty sz : Nat} {es : List (List V)} : newBlk K ty sz es = K ++ [some ⟨ty, sz, es⟩] := rfl

/-! ### a body in two parts -/
def VCode.tailR : VCode → VCode
  | .seq _ b => b.tailR
  | c => c
def VCode.putR : VCode → VCode → VCode
  | .seq a b, t => .seq a (b.putR t)
  | _, t => t
/-- a loop's round whose block's last part is t -/
def cutL (c t : VCode) : VCode := match c with
  | .seq a (.seq b (.seq (.block i body) r)) => .seq a (.seq b (.seq (.block i (body.putR t)) r))
  | c => c
def endL (c : VCode) : VCode := match c with
  | .seq _ (.seq _ (.seq (.block _ body) _)) => body.tailR
  | c => c
end Go.VM
