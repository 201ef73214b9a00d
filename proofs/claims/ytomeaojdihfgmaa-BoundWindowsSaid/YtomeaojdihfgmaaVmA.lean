/- The evaluator 'VM': values, heaps, operations, code. It is a plain Lean function; that it tells what the model does is proved in the texts behind this one. -/
import GoSem.Claims
import Derived.Calls
import Derived.LoopN
import Derived.KernelRfl
import Derived.Below
import Derived.Laws.Rows
import Derived.Laws.Sem
import GoSem.ClaimData
import Derived.Laws.CopyOwn
import Derived.Laws.AppendOwn
namespace Go.VM
set_option linter.unusedSimpArgs false
set_option linter.unusedVariables false

/-- Data that is only read: a cell that is no slice, or a slice with its elements, each a list of cells. -/
inductive D where
  | lit (v : Value)
  | sl (es : List (List D))
  deriving Inhabited

/-- What a slot or a cell holds. 'ref b sz off len cap': a slice of the own block b; 'ptr b sz i o': cell o of element i of it; 'fptr cs': the address of cells that are only read. -/
inductive V where
  | undef
  | d (x : D)
  | nilS
  | ref (b sz off len cap : Nat)
  | ptr (b sz i o : Nat)
  | fptr (cs : List D)
  | agg (cs : List V)
  | tup (cs : List V)
  | clo (f : Nat) (cap : List V)
  deriving Inhabited

/-- An own block: its elements' type, how many cells an element has, the elements. -/
structure Blk where
  ty : Nat
  sz : Nat
  es : List (List V)
  deriving Inhabited

abbrev Heap := List (Option Blk)
def Heap.blk (H : Heap) (b : Nat) : Option Blk := match H[b]? with | some (some x) => some x | _ => none

abbrev Env := List (Nat × V)
def Env.at : Env → Nat → V
  | [], _ => .undef
  | (j, v) :: r, k => if j = k then v else Env.at r k
def Env.keep (E : Env) (ks : List Nat) : Env := ks.map fun k => (k, E.at k)

inductive X where
  | t (n : Nat)
  | c (v : V)
  deriving Inhabited
def X.ev (E : Env) : X → V
  | .t n => E.at n
  | .c v => v

@[reducible] def V.int (k : IntKind) (n : Int) : V := .d (.lit (.int k n))
@[reducible] def V.bool (b : Bool) : V := .d (.lit (.bool b))

/-- one cell, that may be stored -/
def V.isCell : V → Bool
  | .d _ | .nilS | .ref .. | .ptr .. | .fptr _ | .clo .. => true
  | _ => false
def V.cells : V → List V
  | .agg cs => cs
  | v => [v]

inductive VOp where
  | mv (x : X)
  | pick (c a b : X)
  | alloc (ty : Nat) (zero : List V)
  | box (ty : Nat) (sz : Nat) (x : X)
  | build (zero : List V) (parts : List (Nat × Nat × X))
  | bslice (ty sz : Nat) (zero : List V) (len : Nat) (parts : List (Nat × X))
  | load (sz : Nat) (agg : Bool) (a : X)
  | store (sz : Nat) (a x : X)
  | fa (off : Nat) (a : X)
  | fld (off sz : Nat) (agg : Bool) (x : X)
  | ia (esz : Nat) (x i : X)
  | iarr (n esz : Nat) (x i : X)
  | ixa (n esz : Nat) (agg : Bool) (x i : X)
  | ixs (x i : X)
  | slc (esz : Nat) (x : X) (lo hi mx : Option X)
  | sls (x : X) (lo hi : Option X)
  | bin (op : BinOp) (x y : X)
  | eqa (neq : Bool) (ks : List Nat) (x y : X)
  | eqb (neq : Bool) (x y : X)
  | un (op : UnOp) (x : X)
  | conv (k : IntKind) (x : X)
  | ext (x : X) (i : Nat)
  | len (x : X)
  | lens (x : X)
  | lena (n : Nat)
  | app (ty sz bytes : Nat) (x y : X)
  | cpy (sz : Nat) (x y : X)
  | mx (xs : List X)
  | mn (xs : List X)
  | mks (ty sz bytes : Nat) (zero : List V) (len cap : X)
  | nchk (x : X)
  | mkf (f : Nat) (caps : List X)
  | call (f : Nat) (args : List X)
  | callv (f : X) (args : List X)
  | bad
  deriving Inhabited

structure VOper where
  dst : Option Nat
  guard : Option (Nat × Bool)
  op : VOp
  deriving Inhabited

inductive VCode where
  | skip
  | region (ops : List VOper) (draw : Bool) (anc : List (List Nat)) (keep : List Nat)
  | seq (a b : VCode)
  | cond (c : X) (thn els : VCode)
  | block (id : Nat) (body : VCode)
  | loop (body : VCode)
  | exit (id : Nat)
  | ret
  | bad
  deriving Inhabited

/-! ### operations on numbers, truth values and strings -/
def binV (op : BinOp) : Value → Value → Option Value
  | .int k a, .int k' b =>
    match op with
    | .shl => if b < 0 then none else some (.int k (k.wrap (a * 2 ^ (min b.toNat k.bits))))
    | .shr => if b < 0 then none else some (.int k (a.fdiv (2 ^ (min b.toNat k.bits))))
    | .add => if k = k' then some (.int k (k.wrap (a + b))) else none
    | .sub => if k = k' then some (.int k (k.wrap (a - b))) else none
    | .mul => if k = k' then some (.int k (k.wrap (a * b))) else none
    | .quo => if k = k' ∧ b ≠ 0 then some (.int k (k.wrap (a.tdiv b))) else none
    | .rem => if k = k' ∧ b ≠ 0 then some (.int k (a.tmod b)) else none
    | .and => if k = k' then some (.int k (k.wrap (BitVec.ofInt k.bits a &&& BitVec.ofInt k.bits b).toNat)) else none
    | .or => if k = k' then some (.int k (k.wrap (BitVec.ofInt k.bits a ||| BitVec.ofInt k.bits b).toNat)) else none
    | .xor => if k = k' then some (.int k (k.wrap (BitVec.ofInt k.bits a ^^^ BitVec.ofInt k.bits b).toNat)) else none
    | .andNot => if k = k' then some (.int k (k.wrap (BitVec.ofInt k.bits a &&& ~~~ BitVec.ofInt k.bits b).toNat)) else none
    | .eql => if k = k' then some (.bool (a == b)) else none
    | .neq => if k = k' then some (.bool (a != b)) else none
    | .lss => if k = k' then some (.bool (a < b)) else none
    | .leq => if k = k' then some (.bool (a ≤ b)) else none
    | .gtr => if k = k' then some (.bool (a > b)) else none
    | .geq => if k = k' then some (.bool (a ≥ b)) else none
  | .string a, .string b =>
    match op with
    | .eql => some (.bool (a.toList == b.toList))
    | .neq => some (.bool (!(a.toList == b.toList)))
    | .lss => some (.bool (Op.bytesLess a.toList b.toList))
    | .leq => some (.bool (Op.bytesLess a.toList b.toList || a.toList == b.toList))
    | .gtr => some (.bool (!(Op.bytesLess a.toList b.toList || a.toList == b.toList)))
    | .geq => some (.bool (!Op.bytesLess a.toList b.toList))
    | .add => if a.size + b.size ≤ 9223372036854775807 then some (.string (a ++ b)) else none
    | _ => none
  | _, _ => none

def unV (op : UnOp) : Value → Option Value
  | .int k n =>
    match op with
    | .neg => some (.int k (k.wrap (0 - n)))
    | .xor => some (.int k (k.wrap (BitVec.ofInt k.bits (if k.signed then -1 else k.max) ^^^ BitVec.ofInt k.bits n).toNat))
    | _ => none
  | .bool b =>
    match op with
    | .not => some (.bool !b)
    | _ => none
  | _ => none

/-- two cells of a known kind (0: a truth value, 1: a number, 2: a string) -/
def kindEq : Nat → Value → Value → Option Bool
  | 0, .bool p, .bool q => some (p == q)
  | 1, .int k p, .int k' q => if k = k' then some (p == q) else none
  | 2, .string p, .string q => some (p == q)
  | _, _, _ => none
/-- cells of known kinds, one by one -/
def cellsEq : List Nat → List V → List V → Option Bool
  | [], [], [] => some true
  | k :: ks, .d (.lit a) :: x, .d (.lit b) :: y =>
    match kindEq k a b, cellsEq ks x y with
    | some p, some q => some (p && q)
    | _, _ => none
  | _, _, _ => none

def maxV : V → V → Option V
  | .d (.lit (.int k x)), .d (.lit (.int _ y)) => some (V.int k (if y > x then y else x))
  | _, _ => none
def minV : V → V → Option V
  | .d (.lit (.int k x)), .d (.lit (.int _ y)) => some (V.int k (if y < x then y else x))
  | _, _ => none

/-- a number that is no less than 0 -/
def V.nat? : V → Option Nat
  | .d (.lit (.int _ n)) => if 0 ≤ n then some n.toNat else none
  | _ => none

def loadV (H : Heap) (sz : Nat) (agg : Bool) : V → Option V
  | .ptr b bsz i o =>
    match H.blk b with
    | some k =>
      if k.sz = bsz then
        match k.es[i]? with
        | some e => if agg then (if o + sz ≤ e.length then some (.agg ((e.drop o).take sz)) else none) else e[o]?
        | none => none
      else none
    | none => none
  | .fptr cs => if agg then (if sz ≤ cs.length then some (.agg ((cs.take sz).map .d)) else none) else (cs[0]?).map .d
  | _ => none

def storeV (H : Heap) (sz : Nat) (a x : V) : Option Heap :=
  match a with
  | .ptr b bsz i o =>
    match H.blk b with
    | some k =>
      if k.sz = bsz then
        match k.es[i]? with
        | some e =>
          if x.cells.length = sz ∧ o + sz ≤ e.length ∧ x.cells.all V.isCell then
            some (H.set b (some { k with es := k.es.set i (e.take o ++ x.cells ++ e.drop (o + sz)) }))
          else none
        | none => none
      else none
    | none => none
  | _ => none

/-- the elements of a slice -/
def elemsV (H : Heap) (sz : Nat) : V → Option (List (List V))
  | .nilS => some []
  | .d (.sl es) => if es.all (·.length = sz) then some (es.map (·.map .d)) else none
  | .ref b bsz off len cap =>
    match H.blk b with
    | some k => if k.sz = bsz ∧ bsz = sz ∧ off + len ≤ k.es.length then some ((k.es.drop off).take len) else none
    | none => none
  | _ => none

/-- 2^47 bytes -/
def room : Nat := 140737488355328

def newBlk (H : Heap) (ty sz : Nat) (es : List (List V)) : Heap := H ++ [some ⟨ty, sz, es⟩]

def appV (H : Heap) (ty sz bytes : Nat) (s : V) (xs : List (List V)) : Option (V × Heap) :=
  match s with
  | .nilS =>
    if xs.length = 0 then some (.nilS, H)
    else if xs.length * bytes ≤ room then some (.ref H.length sz 0 xs.length xs.length, newBlk H ty sz xs) else none
  | .d (.sl es) => if xs.length = 0 then some (s, H) else none
  | .ref b bsz off len cap =>
    match H.blk b with
    | some k =>
      if k.sz = bsz ∧ bsz = sz ∧ k.ty = ty then
        if xs.length = 0 then some (s, H)
        else if len + xs.length ≤ cap then
          if off + len + xs.length ≤ k.es.length then
            some (.ref b sz off (len + xs.length) cap, H.set b (some { k with es := k.es.take (off + len) ++ xs ++ k.es.drop (off + len + xs.length) }))
          else none
        else if off = 0 ∧ len ≤ k.es.length ∧ (len + xs.length) * bytes ≤ room then
          some (.ref H.length sz 0 (len + xs.length) (len + xs.length), newBlk (H.set b none) ty sz (k.es.take len ++ xs))
        else none
      else none
    | none => none
  | _ => none

def cpyV (H : Heap) (sz : Nat) (s : V) (xs : List (List V)) : Option (V × Heap) :=
  match s with
  | .nilS => some (V.int .i64 0, H)
  | .ref b bsz off len cap =>
    match H.blk b with
    | some k =>
      let n := min xs.length len
      if k.sz = bsz ∧ bsz = sz ∧ off + n ≤ k.es.length then
        some (V.int .i64 n, H.set b (some { k with es := k.es.take off ++ xs.take n ++ k.es.drop (off + n) }))
      else none
    | none => none
  | _ => none

def fillV : List V → List (Nat × Nat × V) → Option (List V)
  | cs, [] => some cs
  | cs, (off, sz, v) :: r =>
    if v.cells.length = sz ∧ off + sz ≤ cs.length ∧ v.cells.all V.isCell then fillV (cs.take off ++ v.cells ++ cs.drop (off + sz)) r else none

def fillE : List (List V) → Nat → List (Nat × V) → Option (List (List V))
  | es, _, [] => some es
  | es, sz, (i, v) :: r =>
    if v.cells.length = sz ∧ i < es.length ∧ v.cells.all V.isCell then fillE (es.set i v.cells) sz r else none

def bdV (o : Option V) (d : Nat) : Option Nat := match o with | some v => v.nat? | none => some d

def slcV (esz : Nat) (s : V) (lo hi mx : Option V) : Option V :=
  match bdV lo 0 with
  | none => none
  | some l =>
    match s with
    | .nilS =>
      match bdV hi 0, bdV mx 0 with
      | some h, some m => if l ≤ h ∧ h ≤ m ∧ m ≤ 0 then some .nilS else none
      | _, _ => none
    | .d (.sl es) =>
      match bdV hi es.length, bdV mx es.length with
      | some h, some m =>
        if l ≤ h ∧ h ≤ m ∧ m ≤ es.length ∧ es.all (·.length = esz) = true then
          (if mx.isSome = true ∧ m = l then some .nilS else some (.d (.sl ((es.drop l).take (h - l)))))
        else none
      | _, _ => none
    | .ref b sz off len cap =>
      match bdV hi len, bdV mx cap with
      | some h, some m =>
        if l ≤ h ∧ h ≤ m ∧ m ≤ cap ∧ sz = esz then
          (if m = l then (if mx.isSome = true then some .nilS else some (.d (.sl []))) else some (.ref b sz (off + l) (h - l) (m - l)))
        else none
      | _, _ => none
    | _ => none

/-- an operation that is no call -/
def evalOp (op : VOp) (ev : X → V) (H : Heap) : Option (V × Heap) :=
  match op with
  | .mv x => some (ev x, H)
  | .pick c a b => match ev c with | .d (.lit (.bool t)) => some (if t then ev a else ev b, H) | _ => none
  | .alloc ty zero => if 0 < zero.length then some (.ptr H.length zero.length 0 0, newBlk H ty zero.length [zero]) else none
  | .box ty sz x => if 0 < sz ∧ (ev x).cells.length = sz ∧ (ev x).cells.all V.isCell then some (.ptr H.length sz 0 0, newBlk H ty sz [(ev x).cells]) else none
  | .build zero parts => (fillV zero (parts.map fun p => (p.1, p.2.1, ev p.2.2))).map fun cs => (.agg cs, H)
  | .bslice ty sz zero len parts =>
    if 0 < sz ∧ zero.length = sz ∧ len * sz ≤ 16777216 ∧ len ≤ 16777216 then
      (fillE (List.replicate len zero) sz (parts.map fun p => (p.1, ev p.2))).map fun es => (.ref H.length sz 0 len len, newBlk H ty sz es)
    else none
  | .load sz agg a => (loadV H sz agg (ev a)).map fun v => (v, H)
  | .store sz a x => (storeV H sz (ev a) (ev x)).map fun H' => (.undef, H')
  | .fa off a => match ev a with | .ptr b sz i o => some (.ptr b sz i (o + off), H) | .fptr cs => some (.fptr (cs.drop off), H) | _ => none
  | .fld off sz agg x => match ev x with
    | .agg cs => if agg then (if off + sz ≤ cs.length then some (.agg ((cs.drop off).take sz), H) else none) else (cs[off]?).map fun v => (v, H)
    | _ => none
  | .ia esz x i => match ev x, (ev i).nat? with
    | .ref b sz off len cap, some n => if n < len ∧ sz = esz then some (.ptr b sz (off + n) 0, H) else none
    | .d (.sl es), some n => match es[n]? with | some e => if e.length = esz then some (.fptr e, H) else none | none => none
    | _, _ => none
  | .iarr n esz x i => match ev x, (ev i).nat? with
    | .ptr b sz j o, some k => if k < n then some (.ptr b sz j (o + k * esz), H) else none
    | .fptr cs, some k => if k < n then some (.fptr (cs.drop (k * esz)), H) else none
    | _, _ => none
  | .ixa n esz agg x i => match ev x, (ev i).nat? with
    | .agg cs, some k =>
      if k < n then
        if agg then (if k * esz + esz ≤ cs.length then some (.agg ((cs.drop (k * esz)).take esz), H) else none) else (cs[k * esz]?).map fun v => (v, H)
      else none
    | _, _ => none
  | .ixs x i => match ev x, (ev i).nat? with
    | .d (.lit (.string s)), some k => (s[k]?).map fun b => (V.int .u8 b.toNat, H)
    | _, _ => none
  | .slc esz x lo hi mx => (slcV esz (ev x) (lo.map ev) (hi.map ev) (mx.map ev)).map fun v => (v, H)
  | .sls x lo hi => match ev x with
    | .d (.lit (.string s)) =>
      match bdV (lo.map ev) 0, bdV (hi.map ev) s.size with
      | some l, some h => if l ≤ h ∧ h ≤ s.size then some (.d (.lit (.string (s.extract l h))), H) else none
      | _, _ => none
    | _ => none
  | .bin op x y => match ev x, ev y with
    | .d (.lit a), .d (.lit b) => (binV op a b).map fun v => (.d (.lit v), H)
    | _, _ => none
  | .eqa neq ks x y => match ev x, ev y with
    | .agg a, .agg b => (cellsEq ks a b).map fun t => (V.bool (if neq then !t else t), H)
    | _, _ => none
  | .eqb neq x y => match ev x, ev y with
    | .d (.lit (.bool a)), .d (.lit (.bool b)) => some (V.bool (if neq then !(a == b) else a == b), H)
    | _, _ => none
  | .un op x => match ev x with
    | .d (.lit a) => (unV op a).map fun v => (.d (.lit v), H)
    | _ => none
  | .conv k x => match ev x with
    | .d (.lit (.int _ n)) => some (V.int k (k.wrap n), H)
    | _ => none
  | .ext x i => match ev x with
    | .tup cs => (cs[i]?).map fun v => (v, H)
    | _ => none
  | .len x => match ev x with
    | .nilS => some (V.int .i64 0, H)
    | .ref _ _ _ len _ => some (V.int .i64 len, H)
    | .d (.sl es) => some (V.int .i64 es.length, H)
    | _ => none
  | .lens x => match ev x with
    | .d (.lit (.string s)) => some (V.int .i64 s.size, H)
    | _ => none
  | .lena n => some (V.int .i64 n, H)
  | .app ty sz bytes x y => match elemsV H sz (ev y) with
    | some xs => if 0 < sz then appV H ty sz bytes (ev x) xs else none
    | none => none
  | .cpy sz x y => match elemsV H sz (ev y) with
    | some xs => if 0 < sz then cpyV H sz (ev x) xs else none
    | none => none
  | .mx xs => match xs with
    | [] => none
    | x :: r => (r.foldlM (fun a y => maxV a (ev y)) (ev x)).map fun v => (v, H)
  | .mn xs => match xs with
    | [] => none
    | x :: r => (r.foldlM (fun a y => minV a (ev y)) (ev x)).map fun v => (v, H)
  | .mks ty sz bytes zero len cap => match (ev len).nat?, (ev cap).nat? with
    | some l, some c => if l ≤ c ∧ c * bytes ≤ room ∧ c ≤ 140737488355328 ∧ 0 < sz ∧ zero.length = sz then some (.ref H.length sz 0 l c, newBlk H ty sz (List.replicate c zero)) else none
    | _, _ => none
  | .nchk x => match ev x with
    | .ptr b sz i o => some (.ptr b sz i o, H)
    | .fptr cs => some (.fptr cs, H)
    | .clo f c => some (.clo f c, H)
    | _ => none
  | .mkf f caps => if (caps.map ev).all V.isCell then some (.clo f (caps.map ev), H) else none
  | .call _ _ | .callv _ _ | .bad => none

/-! ### calls -/
def mapO {α β : Type} (f : α → Option β) : List α → Option (List β)
  | [] => some []
  | x :: r => match f x, mapO f r with
    | some y, some z => some (y :: z)
    | _, _ => none

/-- what is own is told as data; n: how deep -/
def freezeC : Nat → Heap → V → Option D
  | _, _, .d x => some x
  | _, _, .nilS => some (.sl [])
  | n + 1, H, .ref b sz off len _ =>
    match H.blk b with
    | some k =>
      if k.sz = sz ∧ off + len ≤ k.es.length then
        (mapO (mapO (freezeC n H)) ((k.es.drop off).take len)).map .sl
      else none
    | none => none
  | _, _, _ => none
def freezeA (n : Nat) (H : Heap) : V → Option V
  | .agg cs => (mapO (freezeC n H) cs).map fun ds => .agg (ds.map .d)
  | .undef => some .undef
  | v => (freezeC n H v).map .d
def freezeV (n : Nat) (H : Heap) : V → Option V
  | .tup cs => (mapO (freezeA n H) cs).map .tup
  | v => freezeA n H v

/-- a result as the caller gets it: a slice at the head of a block of its own stays own -/
def thawC (n : Nat) (H : Heap) (seen : List Nat) (K : Heap) : V → Option (V × List Nat × Heap)
  | .nilS => some (.nilS, seen, K)
  | .ref b sz off len cap =>
    match H.blk b with
    | some k =>
      if k.sz = sz ∧ off = 0 ∧ len ≤ k.es.length ∧ 0 < len ∧ b ∉ seen then
        (mapO (mapO (freezeC n H)) (k.es.take len)).map fun es => (.ref K.length sz 0 len len, b :: seen, newBlk K k.ty sz (es.map (·.map .d)))
      else (freezeC n H (.ref b sz off len cap)).map fun x => (.d x, seen, K)
    | none => none
  | v => (freezeC n H v).map fun x => (.d x, seen, K)
def thawL (n : Nat) (H : Heap) : List V → List Nat → Heap → Option (List V × List Nat × Heap)
  | [], seen, K => some ([], seen, K)
  | v :: r, seen, K =>
    match thawC n H seen K v with
    | some (x, seen', K') => match thawL n H r seen' K' with
      | some (xs, s, K'') => some (x :: xs, s, K'')
      | none => none
    | none => none

end Go.VM
/- What the evaluator's values and heaps stand for in the model's worlds, and what of it stays when a world grows. -/
namespace Go.VM
set_option linter.unusedSimpArgs false
open Go.RowKit
set_option linter.unusedVariables false

def cellAt {α : Type} (es : List (List α)) (i j : Nat) : Option α := match es[i]? with | some e => e[j]? | none => none

inductive DRep (w : World) (ok : Nat → Prop) : D → Value → Prop
  | lit (v : Value) (h : v.oneCell' = true) : DRep w ok (.lit v) v
  | sl0 (a : Option Addr) (cap : Nat) (hm : cap ≤ maxLen) : DRep w ok (.sl []) (.slice a 0 cap)
  | sl (es : List (List D)) (sz : Nat) (a : Addr) (cap : Nat) (us : Nat → Nat → Value) (hsz : 0 < sz) (hl : ∀ e ∈ es, e.length = sz) (hcap : es.length ≤ cap) (hm : cap ≤ maxLen) (hok : ok a.block)
      (hc : ∀ i j x, cellAt es i j = some x → w.cell? (a.add (i * sz + j)) = some (us i j))
      (hd : ∀ i j x, cellAt es i j = some x → DRep w ok x (us i j)) : DRep w ok (.sl es) (.slice (some a) es.length cap)

inductive VRep (w : World) (ok : Nat → Prop) (ρ : Nat → Option Nat) : V → Value → Prop
  | undef (u : Value) : VRep w ok ρ .undef u
  | d (x : D) (u : Value) (h : DRep w ok x u) : VRep w ok ρ (.d x) u
  | nilS (a : Option Addr) : VRep w ok ρ .nilS (.slice a 0 0)
  | ref (b sz off len cap x cap' : Nat) (hr : ρ b = some x) (hlc : len ≤ cap) (hc : cap ≤ cap') (hm : cap' ≤ maxLen) (hsz : 0 < sz)
      (hs : ∃ (c : Array Value) (T : TypeId) (fz : Nat × Nat), w.heap[x]? = some (Obj.cells c T fz) ∧ (off + cap') * sz ≤ c.size) : VRep w ok ρ (.ref b sz off len cap) (.slice (some ⟨x, off * sz, none⟩) len cap')
  | ptr (b sz i o x : Nat) (hr : ρ b = some x) : VRep w ok ρ (.ptr b sz i o) (.pointer (some ⟨x, i * sz + o, none⟩))
  | fptr (cs : List D) (a : Addr) (us : Nat → Value) (hok : ok a.block) (hc : ∀ j x, cs[j]? = some x → w.cell? (a.add j) = some (us j))
      (hd : ∀ j x, cs[j]? = some x → DRep w ok x (us j)) : VRep w ok ρ (.fptr cs) (.pointer (some a))
  | agg (cs : List V) (us : Array Value) (hl : cs.length = us.size) (h : ∀ (j : Nat) v u, cs[j]? = some v → us[j]? = some u → VRep w ok ρ v u) : VRep w ok ρ (.agg cs) (.agg us)
  | tup (cs : List V) (us : Array Value) (hl : cs.length = us.size) (h : ∀ (j : Nat) v u, cs[j]? = some v → us[j]? = some u → VRep w ok ρ v u) : VRep w ok ρ (.tup cs) (.tuple us)
  | clo (f : Nat) (cs : List V) (us : Array Value) (hl : cs.length = us.size) (h : ∀ (j : Nat) v u, cs[j]? = some v → us[j]? = some u → VRep w ok ρ v u) :
      VRep w ok ρ (.clo f cs) (.func (.func f) #[] us)

def Live (H : Heap) (b : Nat) : Prop := (H.blk b).isSome = true

structure OwnAt (w : World) (ok : Nat → Prop) (ρ : Nat → Option Nat) (x : Nat) (k : Blk) : Prop where
  sz : 0 < k.sz
  len : ∀ e ∈ k.es, e.length = k.sz
  cells : ∃ c : Array Value, w.heap[x]? = some (Obj.cells c k.ty (0, 0)) ∧ k.es.length * k.sz ≤ c.size ∧
    ∀ i j v, cellAt k.es i j = some v → ∃ u, c[i * k.sz + j]? = some u ∧ VRep w ok ρ v u ∧ u.oneCell' = true

structure Inv (base : Nat) (w0 w : World) (ok : Nat → Prop) (ρ : Nat → Option Nat) (S : Nat → Prop) (H : Heap) : Prop where
  below : Below base w0 w
  base_le : base ≤ w0.heap.size
  okLt : ∀ x, ok x → x < w.heap.size
  lo : ∀ b x, ρ b = some x → base ≤ x ∧ x < w.heap.size
  dom : ∀ b x, ρ b = some x → H.length ≤ b → ¬ S b
  apart : ∀ x b, ok x → S b → Live H b → ρ b ≠ some x
  inj : ∀ b c x, S b → S c → Live H b → Live H c → ρ b = some x → ρ c = some x → b = c
  own : ∀ b k x, S b → H.blk b = some k → ρ b = some x → OwnAt w ok ρ x k

structure Ext (w : World) (ok : Nat → Prop) (ρ : Nat → Option Nat) (w' : World) (ok' : Nat → Prop) (ρ' : Nat → Option Nat) : Prop where
  okm : ∀ x, ok x → ok' x
  rho : ∀ b x, ρ b = some x → ρ' b = some x
  same : ∀ (x : Nat), ok x → w'.heap[x]? = w.heap[x]?
  shape : ∀ (x : Nat) (c : Array Value) (T : TypeId) (fz : Nat × Nat), w.heap[x]? = some (Obj.cells c T fz) → ∃ (c' : Array Value) (fz' : Nat × Nat), w'.heap[x]? = some (Obj.cells c' T fz') ∧ c'.size = c.size
  grow : w.heap.size ≤ w'.heap.size

theorem Ext.refl (w : World) (ok : Nat → Prop) (ρ : Nat → Option Nat) : Ext w ok ρ w ok ρ :=
  ⟨fun _ h => h, fun _ _ h => h, fun _ _ => rfl, fun _ c _ fz h => ⟨c, fz, h, rfl⟩, Nat.le_refl _⟩

theorem Ext.trans {w w1 w2 : World} {ok ok1 ok2 : Nat → Prop} {ρ ρ1 ρ2 : Nat → Option Nat} (h : Ext w ok ρ w1 ok1 ρ1) (g : Ext w1 ok1 ρ1 w2 ok2 ρ2) : Ext w ok ρ w2 ok2 ρ2 :=
  ⟨fun x hx => g.okm x (h.okm x hx), fun b x hx => g.rho b x (h.rho b x hx), fun x hx => (g.same x (h.okm x hx)).trans (h.same x hx), fun x c T fz hx => by
    obtain ⟨c1, fz1, h1, e1⟩ := h.shape x c T fz hx
    obtain ⟨c2, fz2, h2, e2⟩ := g.shape x c1 T fz1 h1
    exact ⟨c2, fz2, h2, e2.trans e1⟩, Nat.le_trans h.grow g.grow⟩

theorem DRep.ext {w w' : World} {ok ok' : Nat → Prop} {x : D} {u : Value} (h : DRep w ok x u) (hok : ∀ x, ok x → ok' x) (hs : ∀ x, ok x → w'.heap[x]? = w.heap[x]?) : DRep w' ok' x u := by
  induction h with
  | lit v h => exact .lit v h
  | sl0 a cap hm => exact .sl0 a cap hm
  | sl es sz a cap us hsz hl hcap hm hb hc hd ih =>
    refine .sl es sz a cap us hsz hl hcap hm (hok _ hb) (fun i j x hx => ?_) (fun i j x hx => ih i j x hx)
    rw [← hc i j x hx]
    have hblk : (a.add (i * sz + j)).block = a.block := by unfold Addr.add; split <;> rfl
    exact World.cell?_of_block (by rw [hblk]; exact hs _ hb)

theorem Addr.add_block (a : Addr) (n : Nat) : (a.add n).block = a.block := by unfold Addr.add; split <;> rfl

theorem VRep.ext {w w' : World} {ok ok' : Nat → Prop} {ρ ρ' : Nat → Option Nat} {v : V} {u : Value} (h : VRep w ok ρ v u) (he : Ext w ok ρ w' ok' ρ') : VRep w' ok' ρ' v u := by
  induction h with
  | undef u => exact .undef u
  | d x u h => exact .d x u (h.ext he.okm he.same)
  | nilS a => exact .nilS a
  | ref b sz off len cap x cap' hr hlc hc hm hsz hs =>
    obtain ⟨c, T, fz, h1, h2⟩ := hs
    obtain ⟨c', fz', h1', e⟩ := he.shape x c T fz h1
    exact .ref b sz off len cap x cap' (he.rho b x hr) hlc hc hm hsz ⟨c', T, fz', h1', by rw [e]; exact h2⟩
  | ptr b sz i o x hr => exact .ptr b sz i o x (he.rho b x hr)
  | fptr cs a us hok hc hd =>
    refine .fptr cs a us (he.okm _ hok) (fun j x hx => ?_) (fun j x hx => (hd j x hx).ext he.okm he.same)
    rw [← hc j x hx]
    exact World.cell?_of_block (by rw [Addr.add_block]; exact he.same _ hok)
  | agg cs us hl h ih => exact .agg cs us hl ih
  | tup cs us hl h ih => exact .tup cs us hl ih
  | clo f cs us hl h ih => exact .clo f cs us hl ih

/-! ### what stands for a cell is one cell -/
theorem DRep.one {w : World} {ok : Nat → Prop} {x : D} {u : Value} (h : DRep w ok x u) : u.oneCell' = true := by
  cases h with
  | lit v h => exact h
  | sl0 => rfl
  | sl => rfl
theorem VRep.one {w : World} {ok : Nat → Prop} {ρ : Nat → Option Nat} {v : V} {u : Value} (h : VRep w ok ρ v u) (hc : v.isCell = true) : u.oneCell' = true := by
  cases h with
  | undef u => simp [V.isCell] at hc
  | d x u h => exact h.one
  | agg => simp [V.isCell] at hc
  | tup => simp [V.isCell] at hc
  | _ => rfl
theorem oneCell_cells {u : Value} (h : u.oneCell' = true) : u.cells = #[u] := by cases u <;> first | rfl | simp [Value.oneCell'] at h
theorem V.cells_cell {v : V} (h : v.isCell = true) : v.cells = [v] := by cases v <;> first | rfl | simp [V.isCell] at h
/-- the cells of a value that stands for v: as many, and each stands for its own -/
theorem VRep.cells {w : World} {ok : Nat → Prop} {ρ : Nat → Option Nat} {v : V} {u : Value} (h : VRep w ok ρ v u) (hc : v.cells.all V.isCell = true) :
    v.cells.length = u.cells.size ∧ (∀ (j : Nat) x y, v.cells[j]? = some x → u.cells[j]? = some y → VRep w ok ρ x y) ∧ ∀ y ∈ u.cells, y.oneCell' = true := by
  by_cases hv : v.isCell = true
  · have h1 := h.one hv
    rw [V.cells_cell hv, oneCell_cells h1]
    refine ⟨rfl, fun j x y hx hy => ?_, fun y hy => ?_⟩
    · cases j with
      | zero => simp at hx hy; subst hx; subst hy; exact h
      | succ j => simp at hx
    · simp at hy; subst hy; exact h1
  · cases h with
    | agg cs us hl h =>
      refine ⟨hl, h, fun y hy => ?_⟩
      obtain ⟨j, hj, rfl⟩ := Array.mem_iff_getElem.1 hy
      have hj' : j < cs.length := by
        have : (Value.agg us).cells = us := rfl
        rw [this] at hj; omega
      refine (h j (cs[j]) (us[j]) (List.getElem?_eq_getElem hj') (Array.getElem?_eq_getElem hj)).one ?_
      exact List.all_eq_true.1 hc _ (List.getElem_mem hj')
    | undef u => simp [V.cells, V.isCell] at hc
    | tup => simp [V.cells, V.isCell] at hc
    | d => exact absurd rfl hv
    | nilS => exact absurd rfl hv
    | ref => exact absurd rfl hv
    | ptr => exact absurd rfl hv
    | fptr => exact absurd rfl hv
    | clo => exact absurd rfl hv
end Go.VM
/- From the model's operations and code to the evaluator's. -/
namespace Go.VM
set_option linter.unusedSimpArgs false
set_option linter.unusedVariables false

def constCell : Value → Option V
  | .slice none 0 0 => some .nilS
  | .bool b => some (.d (.lit (.bool b)))
  | .int k n => some (.d (.lit (.int k n)))
  | .string s => some (.d (.lit (.string s)))
  | .nilFunc => some (.d (.lit .nilFunc))
  | .nilIface => some (.d (.lit .nilIface))
  | .pointer none => some (.d (.lit (.pointer none)))
  | .map none => some (.d (.lit (.map none)))
  | .func (.func f) first caps => if first.size = 0 ∧ caps.size = 0 then some (.clo f []) else none
  | _ => none
def constCells (v : Value) : Option (List V) := mapO constCell v.cells.toList
def constV : Value → Option V
  | .agg cs => (mapO constCell cs.toList).map .agg
  | .tuple _ => none
  | v => constCell v
def compX : Operand → Option X
  | .tmp t => some (.t t)
  | .const v => (constV v).map .c
  | .func f => some (.c (.clo f []))
  | .global _ => none

def szOf (P : Program) (t : TypeId) : Option Nat := (P.info? t).map (·.size)
def zeroOf (P : Program) (t : TypeId) : Option (List V) := match P.info? t with | some i => (match i.zero with | some z => constCells z | none => none) | none => none
def aggOf (P : Program) (t : TypeId) : Option Bool := match P.underlying t with | some (.struct _) => some true | some (.array _ _) => some true | none => none | _ => some false

/-- the kinds of the cells of fields, one behind the other -/
def fieldsK (P : Program) (g : TypeId → Option (List Nat)) : Nat → List Field → Option (List Nat)
  | _, [] => some []
  | off, f :: r =>
    match g f.type with
    | some k => match fieldsK P g (off + k.length) r with
      | some z => if f.offset = off ∧ f.name ≠ "_" ∧ szOf P f.type = some k.length then some (k ++ z) else none
      | none => none
    | none => none
/-- a type whose values are told by their cells alone: numbers, truth values, strings, and structs and arrays of these; the kinds of the cells -/
def flatT (P : Program) : Nat → TypeId → Option (List Nat)
  | 0, _ => none
  | n + 1, t =>
    match P.underlying t with
    | some .bool => some [0]
    | some (.int _) => some [1]
    | some .string => some [2]
    | some (.array m e) => match flatT P n e with | some k => if szOf P e = some k.length then some (List.replicate m k).flatten else none | none => none
    | some (.struct fs) => if P.stoodInHeld t then none else fieldsK P (flatT P n) 0 fs.toList
    | _ => none

def compFields (P : Program) (fs : Array Field) : List (Nat × Operand) → Option (List (Nat × Nat × X))
  | [] => some []
  | (i, x) :: r => match fs[i]?, compX x, compFields P fs r with
    | some f, some y, some z => match szOf P f.type with | some s => some ((f.offset, s, y) :: z) | none => none
    | _, _, _ => none

def compOps (xs : List Operand) : Option (List X) := mapO compX xs
def compOpt : Option Operand → Option (Option X)
  | none => some none
  | some x => (compX x).map some

def compOp (P : Program) (op : Op) : Option VOp :=
  match op with
  | .move x => (compX x).map .mv
  | .assign x => (compX x).map .mv
  | .pick c a b => match compX c, compX a, compX b with | some c, some a, some b => some (.pick c a b) | _, _, _ => none
  | .alloc t => (zeroOf P t).map (.alloc t)
  | .box t x => match szOf P t, compX x with | some s, some y => some (.box t s y) | _, _ => none
  | .build t parts =>
    match zeroOf P t, P.underlying t with
    | some z, some (.struct fs) => if fs.toList.all (fun f => (szOf P f.type).isSome) then (compFields P fs parts.toList).map (.build z) else none
    | some z, some (.array _ e) => match szOf P e, mapO (fun p : Nat × Operand => (compX p.2).map fun y => (p.1, y)) parts.toList with
      | some s, some ps => some (.build z (ps.map fun p => (p.1 * s, s, p.2)))
      | _, _ => none
    | _, _ => none
  | .buildSlice t len parts =>
    match P.underlying t with
    | some (.slice e) => match zeroOf P e, szOf P e, mapO (fun p : Nat × Operand => (compX p.2).map fun y => (p.1, y)) parts.toList with
      | some z, some s, some ps => some (.bslice e s z len ps)
      | _, _, _ => none
    | _ => none
  | .load t a => match szOf P t, aggOf P t, compX a with | some s, some g, some y => some (.load s g y) | _, _, _ => none
  | .store t a x => match szOf P t, compX a, compX x with | some s, some y, some z => some (.store s y z) | _, _, _ => none
  | .nilCheck x => (compX x).map .nchk
  | .binOp op t x y _ =>
    match compX x, compX y, P.underlying t with
    | some x, some y, some (.int _) => some (.bin op x y)
    | some x, some y, some .bool => (match op with | .eql => some (.eqb false x y) | .neq => some (.eqb true x y) | _ => none)
    | some x, some y, some .string => some (.bin op x y)
    | some x, some y, some (.struct _) =>
      match op, flatT P 20 t with
      | .eql, some ks => if P.eqGuardType P.depth t then none else some (.eqa false ks x y)
      | .neq, some ks => if P.eqGuardType P.depth t then none else some (.eqa true ks x y)
      | _, _ => none
    | _, _, _ => none
  | .unOp op _ x => (compX x).map (.un op)
  | .convert s t x =>
    match P.underlying s, P.underlying t with
    | some (.int _), some (.int k) => (compX x).map (.conv k)
    | _, _ => none
  | .makeFunc (.func f) first caps => if first.isEmpty then (compOps caps.toList).map (.mkf f) else none
  | .makeSlice t l c =>
    match P.underlying t with
    | some (.slice e) => match zeroOf P e, P.info? e, compX l, compX c with
      | some z, some i, some l, some c => some (.mks e i.size i.bytes z l c)
      | _, _, _, _ => none
    | _ => none
  | .slice t x lo hi mx =>
    match compX x, compOpt lo, compOpt hi, compOpt mx, P.underlying t with
    | some x, some lo, some hi, some mx, some (.slice e) => if mx.isSome && hi.isNone then none else (szOf P e).map fun s => .slc s x lo hi mx
    | some x, some lo, some hi, some none, some .string => some (.sls x lo hi)
    | _, _, _, _, _ => none
  | .fieldAddr t x f =>
    match P.underlying t, compX x with
    | some (.struct fs), some y => match fs[f]? with
      | some fd => match szOf P fd.type with | some s => if s = 0 then none else some (.fa fd.offset y) | none => none
      | none => none
    | _, _ => none
  | .field t x f =>
    match P.underlying t, compX x with
    | some (.struct fs), some y => match fs[f]? with
      | some fd => match szOf P fd.type, aggOf P fd.type with | some s, some g => some (.fld fd.offset s g y) | _, _ => none
      | none => none
    | _, _ => none
  | .indexAddr t x i =>
    match P.underlying t, compX x, compX i with
    | some (.slice e), some x, some i => (szOf P e).map fun s => .ia s x i
    | some (.array n e), some x, some i => (szOf P e).map fun s => .iarr n s x i
    | _, _, _ => none
  | .index t x i =>
    match P.underlying t, compX x, compX i with
    | some (.array n e), some x, some i => match szOf P e, aggOf P e with | some s, some g => some (.ixa n s g x i) | _, _ => none
    | some .string, some x, some i => some (.ixs x i)
    | _, _, _ => none
  | .extract t i => (compX t).map fun y => .ext y i
  | .call c =>
    match c.callee with
    | .builtin .len =>
      match c.args.toList, c.argTypes.toList with
      | [x], [t] => match P.underlying t, compX x with
        | some (.slice _), some y => some (.len y)
        | some .string, some y => some (.lens y)
        | some (.array n _), some _ => some (.lena n)
        | _, _ => none
      | _, _ => none
    | .builtin .append =>
      match c.args.toList, c.argTypes.toList with
      | [x, y], [t, u] => match P.underlying t, P.underlying u, compX x, compX y with
        | some (.slice e), some (.slice e'), some x, some y => match P.info? e with
          | some i => if i.zero.map (·.cells.size) = some i.size ∧ e = e' ∧ 0 < i.bytes then some (.app e i.size i.bytes x y) else none
          | none => none
        | _, _, _, _ => none
      | _, _ => none
    | .builtin .copy =>
      match c.args.toList, c.argTypes.toList with
      | [x, y], [t, u] => match P.underlying t, P.underlying u, compX x, compX y with
        | some (.slice e), some (.slice e'), some x, some y => if e = e' then (szOf P e).map fun s => .cpy s x y else none
        | _, _, _, _ => none
      | _, _ => none
    | .builtin .max => (compOps c.args.toList).map .mx
    | .builtin .min => (compOps c.args.toList).map .mn
    | .value (.func f) => (compOps c.args.toList).map (.call f)
    | .value x => match compX x, compOps c.args.toList with | some y, some a => some (.callv y a) | _, _ => none
    | _ => none
  | _ => none

def compOper (P : Program) (o : Oper) : VOper := ⟨o.dst, o.guard, (compOp P o.op).getD .bad⟩

/-- what each operation of a region waits for, directly or not -/
def ancs : List Oper → List (List Nat) → List (List Nat)
  | [], acc => acc
  | o :: r, acc => ancs r (acc ++ [(o.after.toList.flatMap fun e => if Region.binds .any e then e.on :: acc.getD e.on [] else []).eraseDups])

def comp (P : Program) (ks : List Nat) : Code → VCode
  | .skip => .skip
  | .label _ => .skip
  | .region _ ops draw => .region (ops.toList.map (compOper P)) draw (if draw then ancs ops.toList [] else []) ks
  | .seq a b => .seq (comp P ks a) (comp P ks b)
  | .cond c a b => match compX c with | some c => .cond c (comp P ks a) (comp P ks b) | none => .bad
  | .block id a => .block id (comp P ks a)
  | .loop a => .loop (comp P ks a)
  | .scope a => comp P ks a
  | .exit id => .exit id
  | .ret => .ret
  | _ => .bad

/-! ### running -/
inductive Ex where
  | normal
  | exit (id : Nat)
  | ret
  deriving Inhabited, DecidableEq

abbrev CallF := Nat → List V → Heap → Option (V × Heap)

/-- what is known of calls: 'reads', 'writes': which own blocks a call looks at, and writes -/
structure Calls' where
  run : CallF
  reads : Nat → List V → Heap → List Nat
  writes : Nat → List V → Heap → List Nat

def touchV : V → List Nat
  | .ptr b _ _ _ => [b]
  | .ref b _ _ _ _ => [b]
  | _ => []
def touchOp (op : VOp) (ev : X → V) : List Nat :=
  match op with
  | .load _ _ a => touchV (ev a)
  | .store _ a _ => touchV (ev a)
  | .app _ _ _ x y => touchV (ev x) ++ touchV (ev y)
  | .cpy _ x y => touchV (ev x) ++ touchV (ev y)
  | _ => []
def readsOp (O : Calls') (op : VOp) (ev : X → V) (H : Heap) : List Nat :=
  match op with
  | .call f args => O.reads f (args.map ev) H
  | .callv f args => match ev f with | .clo g caps => O.reads g (args.map ev ++ caps) H | _ => []
  | op => touchOp op ev
def wtouchOp (op : VOp) (ev : X → V) : List Nat :=
  match op with
  | .store _ a _ => touchV (ev a)
  | .app _ _ _ x _ => touchV (ev x)
  | .cpy _ x _ => touchV (ev x)
  | _ => []
def writesOp (O : Calls') (op : VOp) (ev : X → V) (H : Heap) : List Nat :=
  match op with
  | .call f args => O.writes f (args.map ev) H
  | .callv f args => match ev f with | .clo g caps => O.writes g (args.map ev ++ caps) H | _ => []
  | op => wtouchOp op ev

def runOp (O : CallF) (op : VOp) (ev : X → V) (H : Heap) : Option (V × Heap) :=
  match op with
  | .call f args => O f (args.map ev) H
  | .callv f args => match ev f with | .clo g caps => O g (args.map ev ++ caps) H | _ => none
  | op => evalOp op ev H

def wants (g : Option (Nat × Bool)) (ops : List VOper) (E : Env) : Option Bool :=
  match g with
  | none => some true
  | some (j, t) => match ops[j]? with
    | some o => match o.dst with
      | some d => match E.at d with
        | .d (.lit (.bool b)) => some (b == t)
        | .tup [] => some false
        | _ => none
      | none => none
    | none => none

def putE (d : Option Nat) (v : V) (E : Env) : Env := match d with | some d => (d, v) :: E | none => E

def stepO (O : CallF) (all : List VOper) (o : VOper) (E : Env) (H : Heap) : Option (Env × Heap) :=
  match wants o.guard all E with
  | some true => match runOp O o.op (X.ev E) H with
    | some (v, H') => some (putE o.dst v E, H')
    | none => none
  | some false => some (putE o.dst (.tup []) E, H)
  | none => none

def runOps (O : CallF) (all : List VOper) : List VOper → Env → Heap → Option (Env × Heap)
  | [], E, H => some (E, H)
  | o :: r, E, H => match stepO O all o E H with | some (E', H') => runOps O all r E' H' | none => none

/-- which own blocks an operation reads, and which it writes or makes -/
def footO (O : Calls') (all : List VOper) (o : VOper) (E : Env) (H H' : Heap) : List Nat × List Nat :=
  match wants o.guard all E with
  | some true => (readsOp O o.op (X.ev E) H, writesOp O o.op (X.ev E) H ++ List.range' H.length (H'.length - H.length))
  | _ => ([], [])

def meets (a b : List Nat) : Bool := a.any fun x => b.contains x
/-- is an operation in order with those before it, whose blocks are told, the last one first (n: how many) -/
def inOrder (anc : List Nat) (f : List Nat × List Nat) : Nat → List (List Nat × List Nat) → Bool
  | _, [] => true
  | 0, _ => true
  | n + 1, g :: r => (anc.contains n || !(meets g.2 f.1 || meets g.2 f.2 || meets g.1 f.2)) && inOrder anc f n r

def runDraw (O : Calls') (all : List VOper) (ancs : List (List Nat)) : List VOper → Nat → List (List Nat × List Nat) → Env → Heap → Option (Env × Heap)
  | [], _, _, E, H => some (E, H)
  | o :: r, n, fs, E, H =>
    match stepO O.run all o E H with
    | some (E', H') =>
      let f := footO O all o E H H'
      if f.1.all (· < H.length) && inOrder (ancs.getD n []) f n fs then runDraw O all ancs r (n + 1) (f :: fs) E' H' else none
    | none => none

def runLoop (body : Env → Heap → Option (Ex × Env × Heap)) : Nat → Env → Heap → Option (Ex × Env × Heap)
  | 0, _, _ => none
  | n + 1, E, H =>
    match body E H with
    | some (.normal, E', H') => runLoop body n E' H'
    | r => r

def run (O : Calls') (n : Nat) : VCode → Env → Heap → Option (Ex × Env × Heap)
  | .skip, E, H => some (.normal, E, H)
  | .region ops draw anc ks, E, H => match (if draw then runDraw O ops anc ops 0 [] E H else runOps O.run ops ops E H) with | some (E', H') => some (.normal, E'.keep ks, H') | none => none
  | .seq a b, E, H => match run O n a E H with | some (.normal, E', H') => run O n b E' H' | r => r
  | .cond c a b, E, H => match c.ev E with
    | .d (.lit (.bool true)) => run O n a E H
    | .d (.lit (.bool false)) => run O n b E H
    | _ => none
  | .block id a, E, H => match run O n a E H with | some (.exit i, E', H') => some (if i = id then .normal else .exit i, E', H') | r => r
  | .loop a, E, H => runLoop (run O n a) n E H
  | .exit id, E, H => some (.exit id, E, H)
  | .ret, E, H => some (.ret, E, H)
  | .bad, _, _ => none
end Go.VM
/- How the invariant is kept: a new block, a block written, nothing. -/
namespace Go.VM
set_option linter.unusedSimpArgs false
open Go.RowKit
set_option linter.unusedVariables false

structure OpRes (base : Nat) (w0 w : World) (ok : Nat → Prop) (ρ : Nat → Option Nat) (S : Nat → Prop) (H : Heap) (T : List Nat) (v : V) (H' : Heap) (u : Value) (w' : World) (ok' : Nat → Prop) (ρ' : Nat → Option Nat) : Prop where
  inv : Inv base w0 w' ok' ρ' S H'
  rep : VRep w' ok' ρ' v u
  ext : Ext w ok ρ w' ok' ρ'
  old : ∀ b x, ρ' b = some x → b < H.length → ρ b = some x
  all : ∀ b, H.length ≤ b → b < H'.length → ∃ x, ρ' b = some x
  frame : ∀ (x : Nat), x < w.heap.size → (∀ b ∈ T, Live H b → ρ b ≠ some x) → w'.heap[x]? = w.heap[x]?
  fresh : ∀ x, ok' x → ok x ∨ w.heap.size ≤ x
  newb : ∀ b x, ρ' b = some x → ρ b = some x ∨ (H.length ≤ b ∧ b < H'.length)
  newx : ∀ b x, ρ' b = some x → ρ b = some x ∨ w.heap.size ≤ x ∨ ∃ b0 ∈ T, ρ b0 = some x ∧ Live H b0

section
variable {base : Nat} {w0 w : World} {ok : Nat → Prop} {ρ : Nat → Option Nat} {S : Nat → Prop} {H : Heap}

theorem Heap.blk_lt {b : Nat} {k : Blk} (h : H.blk b = some k) : b < H.length := by
  unfold Heap.blk at h
  split at h
  · rename_i x hx; exact (List.getElem?_eq_some_iff.1 hx).1
  · cases h

theorem OpRes.pure {T : List Nat} {v : V} {u : Value} (h : Inv base w0 w ok ρ S H) (hr : VRep w ok ρ v u) : OpRes base w0 w ok ρ S H T v H u w ok ρ :=
  ⟨h, hr, Ext.refl _ _ _, fun _ _ h _ => h, fun b h1 h2 => by omega, fun _ _ _ => rfl, fun _ h => .inl h, fun _ _ h => .inl h, fun _ _ h => .inl h⟩

/-- what becomes of own blocks -/
structure HFrame (H : Heap) (T : List Nat) (H' : Heap) : Prop where
  len : H.length ≤ H'.length
  out : ∀ b, b < H.length → b ∉ T → H'.blk b = H.blk b
  live : ∀ b, b < H.length → Live H' b → Live H b

def setRho (ρ : Nat → Option Nat) (b x : Nat) : Nat → Option Nat := fun c => if c = b then some x else ρ c

theorem Heap.blk_append_lt {b : Nat} {k : Option Blk} (h : b < H.length) : Heap.blk (H ++ [k]) b = H.blk b := by
  unfold Heap.blk; rw [List.getElem?_append_left h]
theorem Heap.blk_append_self {k : Option Blk} : Heap.blk (H ++ [k]) H.length = k := by
  unfold Heap.blk; simp; cases k <;> rfl
theorem Heap.blk_append {b : Nat} {k : Option Blk} {x : Blk} (h : Heap.blk (H ++ [k]) b = some x) : (b < H.length ∧ H.blk b = some x) ∨ (b = H.length ∧ k = some x) := by
  have hl := Heap.blk_lt h
  simp at hl
  by_cases hb : b < H.length
  · rw [Heap.blk_append_lt hb] at h; exact .inl ⟨hb, h⟩
  · obtain rfl : b = H.length := by omega
    rw [Heap.blk_append_self] at h; exact .inr ⟨rfl, h⟩

theorem OwnAt.ext {w' : World} {ok' : Nat → Prop} {ρ' : Nat → Option Nat} {x : Nat} {k : Blk} (h : OwnAt w ok ρ x k) (he : Ext w ok ρ w' ok' ρ') (hx : w'.heap[x]? = w.heap[x]?) : OwnAt w' ok' ρ' x k := by
  obtain ⟨c, h1, h2, h3⟩ := h.cells
  refine ⟨h.sz, h.len, c, by rw [hx]; exact h1, h2, fun i j v hv => ?_⟩
  obtain ⟨u, hu, hr, ho⟩ := h3 i j v hv
  exact ⟨u, hu, hr.ext he, ho⟩

/-- a new block -/
theorem Inv.new (h : Inv base w0 w ok ρ S H) (hN : S H.length) (wd : World) (hd : wd.heap = w.heap) (hb : Below base w0 wd) (k : Blk) (cs : Array Value) (hsz : 0 < k.sz) (hlen : ∀ e ∈ k.es, e.length = k.sz)
    (hcs : k.es.length * k.sz ≤ cs.size) (hrep : ∀ i j v, cellAt k.es i j = some v → ∃ u, cs[i * k.sz + j]? = some u ∧ VRep w ok ρ v u ∧ u.oneCell' = true) :
    Inv base w0 (wd.alloc (.cells cs k.ty)) ok (setRho ρ H.length w.heap.size) S (H ++ [some k]) ∧
    Ext w ok ρ (wd.alloc (.cells cs k.ty)) ok (setRho ρ H.length w.heap.size) := by
  have hsize : (wd.alloc (.cells cs k.ty)).heap.size = w.heap.size + 1 := by simp [hd]
  have hold : ∀ (x : Nat), x < w.heap.size → (wd.alloc (.cells cs k.ty)).heap[x]? = w.heap[x]? := fun x hx => by
    rw [heap_alloc_old _ _ _ (by rw [hd]; exact hx), hd]
  have hnew : (wd.alloc (.cells cs k.ty)).heap[w.heap.size]? = some (.cells cs k.ty) := by
    have := heap_alloc_new wd (.cells cs k.ty); rw [hd] at this; exact this
  have hne : ∀ b x, ρ b = some x → b ≠ H.length := fun b x hx e => by subst e; exact h.dom _ x hx (Nat.le_refl _) hN
  have hset : ∀ b x, ρ b = some x → setRho ρ H.length w.heap.size b = some x := fun b x hx => by unfold setRho; rw [if_neg (hne b x hx)]; exact hx
  have hinv : ∀ b x, setRho ρ H.length w.heap.size b = some x → (b = H.length ∧ x = w.heap.size) ∨ ρ b = some x := fun b x hx => by
    unfold setRho at hx; split at hx
    · left; simp at hx; exact ⟨‹_›, hx.symm⟩
    · exact .inr hx
  have hext : Ext w ok ρ (wd.alloc (.cells cs k.ty)) ok (setRho ρ H.length w.heap.size) :=
    ⟨fun _ hx => hx, hset, fun x hx => hold x (h.okLt x hx), fun x c T fz hx => ⟨c, fz, by rw [hold x (Array.getElem?_eq_some_iff.1 hx).1]; exact hx, rfl⟩, by rw [hsize]; omega⟩
  have hlive : ∀ b, b ≠ H.length → Live (H ++ [some k]) b → Live H b := fun b hb hl => by
    obtain ⟨k', hk'⟩ := Option.isSome_iff_exists.1 hl
    rcases Heap.blk_append hk' with ⟨h1, h2⟩ | ⟨h1, _⟩
    · unfold Live; rw [h2]; rfl
    · exact absurd h1 hb
  refine ⟨⟨hb.alloc (by have := h.below.size; have := h.base_le; rw [hd]; omega) _, h.base_le, fun x hx => by rw [hsize]; have := h.okLt x hx; omega, fun b x hx => ?_, fun b x hx => ?_, fun x b hx hs hl he => ?_, fun b c x hsb hsc hb hc h1 h2 => ?_, fun b k' x hs hk hx => ?_⟩, hext⟩
  · rw [hsize]
    rcases hinv b x hx with ⟨_, rfl⟩ | hx
    · have := h.below.size; have := h.base_le; omega
    · have := h.lo b x hx; omega
  · simp only [List.length_append, List.length_singleton]
    intro hle
    rcases hinv b x hx with ⟨rfl, _⟩ | hx
    · omega
    · exact h.dom b x hx (by omega)
  · rcases hinv b x he with ⟨_, rfl⟩ | he'
    · have := h.okLt _ hx; omega
    · exact h.apart x b hx hs (hlive b (hne b x he') hl) he'
  · rcases hinv b x h1 with ⟨rfl, rfl⟩ | h1' <;> rcases hinv c _ h2 with ⟨rfl, e⟩ | h2'
    · rfl
    · have := (h.lo c _ h2').2; omega
    · have := (h.lo b _ h1').2; omega
    · exact h.inj b c x hsb hsc (hlive b (hne b x h1') hb) (hlive c (hne c x h2') hc) h1' h2'
  · rcases Heap.blk_append hk with ⟨hb, hk'⟩ | ⟨rfl, hk'⟩
    · rcases hinv b x hx with ⟨e, _⟩ | hx'
      · omega
      · exact (h.own b k' x hs hk' hx').ext hext (hold x (h.lo b x hx').2)
    · obtain rfl : k = k' := by simpa using hk'
      rcases hinv _ x hx with ⟨_, rfl⟩ | hx'
      · refine ⟨hsz, hlen, cs, hnew, hcs, fun i j v hv => ?_⟩
        obtain ⟨u, hu, hr, ho⟩ := hrep i j v hv
        exact ⟨u, hu, hr.ext hext, ho⟩
      · exact absurd rfl (hne _ x hx')

theorem Inv.base_size (h : Inv base w0 w ok ρ S H) : base ≤ w.heap.size := by have := h.below.size; have := h.base_le; omega

theorem OpRes.new {T : List Nat} (h : Inv base w0 w ok ρ S H) (hN : S H.length) (wd : World) (hd : wd.heap = w.heap) (hb : Below base w0 wd) (k : Blk) (cs : Array Value) (hsz : 0 < k.sz) (hlen : ∀ e ∈ k.es, e.length = k.sz)
    (hcs : k.es.length * k.sz ≤ cs.size) (hrep : ∀ i j v, cellAt k.es i j = some v → ∃ u, cs[i * k.sz + j]? = some u ∧ VRep w ok ρ v u ∧ u.oneCell' = true)
    {v : V} {u : Value} (hv : VRep (wd.alloc (.cells cs k.ty)) ok (setRho ρ H.length w.heap.size) v u) :
    OpRes base w0 w ok ρ S H T v (H ++ [some k]) u (wd.alloc (.cells cs k.ty)) ok (setRho ρ H.length w.heap.size) := by
  obtain ⟨h1, h2⟩ := h.new hN wd hd hb k cs hsz hlen hcs hrep
  refine ⟨h1, hv, h2, fun b x hx hb => ?_, fun b hb1 hb2 => ?_, fun x hx _ => ?_, fun _ h => .inl h, fun b x hx => ?_, fun b x hx => ?_⟩
  · unfold setRho at hx; rw [if_neg (by omega)] at hx; exact hx
  · simp at hb2
    obtain rfl : b = H.length := by omega
    exact ⟨_, by unfold setRho; rw [if_pos rfl]⟩
  · rw [heap_alloc_old _ _ _ (by rw [hd]; exact hx), hd]
  · unfold setRho at hx
    split at hx
    · rename_i e; subst e; exact .inr ⟨Nat.le_refl _, by simp⟩
    · exact .inl hx
  · unfold setRho at hx
    split at hx
    · simp at hx; exact .inr (.inl (by omega))
    · exact .inl hx

theorem Heap.blk_set {b c : Nat} {k : Option Blk} (hb : b < H.length) : Heap.blk (H.set b k) c = if c = b then k else H.blk c := by
  unfold Heap.blk
  rw [List.getElem?_set]
  by_cases h : b = c
  · subst h; simp [hb]; cases k <;> rfl
  · rw [if_neg h, if_neg (Ne.symm h)]

/-- a block written in place -/
theorem Inv.write (h : Inv base w0 w ok ρ S H) {b x : Nat} {k k' : Blk} (hsb : S b) (hk : H.blk b = some k) (hx : ρ b = some x) (cur new : Array Value)
    (hcur : w.heap[x]? = some (.cells cur k.ty (0, 0))) (hty : k'.ty = k.ty) (hsize : new.size = cur.size)
    (hsz : 0 < k'.sz) (hlen : ∀ e ∈ k'.es, e.length = k'.sz) (hcs : k'.es.length * k'.sz ≤ new.size)
    (hrep : ∀ i j v, cellAt k'.es i j = some v → ∃ u, new[i * k'.sz + j]? = some u ∧ VRep w ok ρ v u ∧ u.oneCell' = true) :
    Inv base w0 (w.setRow x new) ok ρ S (H.set b (some k')) ∧ Ext w ok ρ (w.setRow x new) ok ρ := by
  have hlt := Heap.blk_lt hk
  have hlk : Live H b := by unfold Live; rw [hk]; rfl
  have hrow : (w.setRow x new).heap[x]? = some (.cells new k.ty (0, 0)) := setRow_heap w x cur new k.ty (0, 0) hcur
  have hoth : ∀ y, y ≠ x → (w.setRow x new).heap[y]? = w.heap[y]? := fun y hy => setRow_other w x y new hy
  have hlive : ∀ c, Live (H.set b (some k')) c → Live H c := fun c hc => by
    unfold Live at *; rw [Heap.blk_set hlt] at hc
    by_cases e : c = b
    · rw [e]; exact hlk
    · rw [if_neg e] at hc; exact hc
  have hnok : ∀ y, ok y → y ≠ x := fun y hy e => h.apart y b hy hsb hlk (by rw [e]; exact hx)
  have hext : Ext w ok ρ (w.setRow x new) ok ρ := by
    refine ⟨fun _ hy => hy, fun _ _ hy => hy, fun y hy => hoth y (hnok y hy), fun y c T fz hy => ?_, by rw [size_setRow]; exact Nat.le_refl _⟩
    by_cases e : y = x
    · subst e
      rw [hcur] at hy; simp only [Option.some.injEq, Obj.cells.injEq] at hy
      obtain ⟨rfl, rfl, rfl⟩ := hy
      exact ⟨new, (0, 0), hrow, hsize⟩
    · exact ⟨c, fz, by rw [hoth y e]; exact hy, rfl⟩
  refine ⟨⟨below_setRow h.below (h.lo b x hx).1 _, h.base_le, fun y hy => by rw [size_setRow]; exact h.okLt y hy, fun c y hy => by rw [size_setRow]; exact h.lo c y hy, fun c y hy => by rw [List.length_set]; exact h.dom c y hy,
    fun y c hy hs hl => h.apart y c hy hs (hlive c hl), fun c d y hsc hsd hc hd => h.inj c d y hsc hsd (hlive c hc) (hlive d hd), fun c kc y hs hkc hy => ?_⟩, hext⟩
  rw [Heap.blk_set hlt] at hkc
  by_cases e : c = b
  · subst e
    rw [if_pos rfl] at hkc
    obtain rfl : k' = kc := by simpa using hkc
    obtain rfl : x = y := by rw [hx] at hy; simpa using hy
    refine ⟨hsz, hlen, new, by rw [hty]; exact hrow, hcs, fun i j v hv => ?_⟩
    obtain ⟨u, hu, hr, ho⟩ := hrep i j v hv
    exact ⟨u, hu, hr.ext hext, ho⟩
  · rw [if_neg e] at hkc
    have hne : y ≠ x := fun e' => e (h.inj c b x hs hsb (by unfold Live; rw [hkc]; rfl) hlk (e' ▸ hy) hx)
    exact (h.own c kc y hs hkc hy).ext hext (hoth y hne)

theorem OpRes.write {T : List Nat} (h : Inv base w0 w ok ρ S H) {b x : Nat} {k k' : Blk} (hsb : S b) (hk : H.blk b = some k) (hx : ρ b = some x) (hT : b ∈ T) (cur new : Array Value)
    (hcur : w.heap[x]? = some (.cells cur k.ty (0, 0))) (hty : k'.ty = k.ty) (hsize : new.size = cur.size)
    (hsz : 0 < k'.sz) (hlen : ∀ e ∈ k'.es, e.length = k'.sz) (hcs : k'.es.length * k'.sz ≤ new.size)
    (hrep : ∀ i j v, cellAt k'.es i j = some v → ∃ u, new[i * k'.sz + j]? = some u ∧ VRep w ok ρ v u ∧ u.oneCell' = true)
    {v : V} {u : Value} (hv : VRep (w.setRow x new) ok ρ v u) :
    OpRes base w0 w ok ρ S H T v (H.set b (some k')) u (w.setRow x new) ok ρ := by
  obtain ⟨h1, h2⟩ := h.write hsb hk hx cur new hcur hty hsize hsz hlen hcs hrep
  exact ⟨h1, hv, h2, fun _ _ hx _ => hx, fun c hc1 hc2 => by rw [List.length_set] at hc2; omega, fun y hy hT' => setRow_other w x y new fun e => hT' b hT (by unfold Live; rw [hk]; rfl) (e ▸ hx), fun _ h => .inl h, fun _ _ h => .inl h, fun _ _ h => .inl h⟩
end
end Go.VM
