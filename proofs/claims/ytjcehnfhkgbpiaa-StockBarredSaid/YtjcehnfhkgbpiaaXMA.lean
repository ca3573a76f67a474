/-
  The abstract machine: a deterministic big-step reading of the loaded code, over an abstract memory. (Definitions alone.)
  The loaded code read for the abstract machine: sizes, offsets and zeros are looked up once. (Definitions alone.)
  Tables of functions.
-/
import GoSem.Step
set_option linter.unusedVariables false
set_option linter.unusedSimpArgs false
section
namespace Go.Ax
inductive PT (α : Type) where
  | nil
  | node (v : Option α) (l r : PT α)
namespace PT
variable {α : Type}
def get : PT α → Nat → Option α
  | .nil, _ => none
  | .node v l r, k => bif Nat.beq k 0 then v else bif Nat.beq (k % 2) 1 then l.get (k / 2) else r.get (k / 2 - 1)
def setF : Nat → PT α → Nat → α → PT α
  | 0, t, _, _ => t
  | f + 1, .nil, k, a =>
    bif Nat.beq k 0 then .node (some a) .nil .nil
    else bif Nat.beq (k % 2) 1 then .node none (setF f .nil (k / 2) a) .nil
    else .node none .nil (setF f .nil (k / 2 - 1) a)
  | f + 1, .node v l r, k, a =>
    bif Nat.beq k 0 then .node (some a) l r
    else bif Nat.beq (k % 2) 1 then .node v (setF f l (k / 2) a) r
    else .node v l (setF f r (k / 2 - 1) a)
def set (t : PT α) (k : Nat) (a : α) : PT α := setF (k + 1) t k a
end PT
inductive AV where
  | undef
  | bool (b : Bool)
  | int (k : IntKind) (n : Int)
  | str (s : ByteArray)
  | ptr (a : Option (Nat × Nat))
  | slc (a : Option (Nat × Nat)) (len cap : Nat) (ex : Bool) (es : Nat)
  | map (r : Option Nat)
  | fn (f : Fn) (first caps : List AV)
  | nilfn
  | iface (t : TypeId) (v : AV)
  | nilif
  | agg (l : List AV)
  | tup (l : List AV)
  deriving Inhabited
namespace AV
def scalar : AV → Bool
  | .undef | .agg _ | .tup _ => false
  | _ => true
def isFunc : AV → Bool
  | .fn (.func _) _ _ => true
  | _ => false
def cells : AV → Option (List AV)
  | .agg l => some l
  | .undef | .tup _ => none
  | v => some [v]
end AV
inductive AO where
  | tmp (t : Nat)
  | const (v : AV)
  | func (f : FuncId)
  deriving Inhabited
inductive Leaf where
  | bool | int | str
  deriving DecidableEq, Inhabited
inductive AOp where
  | mv (x : AO)
  | nilchk (x : AO)
  | pick (c a b : AO)
  | alloc (z : List AV)
  | box (x : AO)
  | build (z : List AV) (ps : List (Nat × Nat × AO))
  | bslice (z : List AV) (n sz : Nat) (ps : List (Nat × Nat × AO))
  | load (n : Option Nat) (a : AO)
  | store (n : Nat) (a v : AO)
  | bin (op : BinOp) (x y : AO)
  | eqf (neg : Bool) (ag : Bool) (ks : List Leaf) (x y : AO)
  | eqp (neg : Bool) (x y : AO)
  | eqn (neg : Bool) (kd : Nat) (x y : AO)
  | un (op : UnOp) (x : AO)
  | conv (k : IntKind) (x : AO)
  | convS (x : AO)
  | mkfn (g : FuncId) (first caps : List AO)
  | mkif (t : TypeId) (x : AO)
  | mkmap
  | mkslc (z : List AV) (bytes : Nat) (len cap : AO)
  | slcS (x : AO) (lo hi : Option AO)
  | slc (sz : Nat) (x : AO) (lo hi mx : Option AO)
  | slcA (n sz : Nat) (x : AO) (lo hi mx : Option AO)
  | faddr (off : Nat) (x : AO)
  | field (off : Nat) (n : Option Nat) (x : AO)
  | iaddrA (n sz : Nat) (x i : AO)
  | iaddrS (sz : Nat) (x i : AO)
  | idxA (n sz : Nat) (m : Option Nat) (x i : AO)
  | idxS (x i : AO)
  | look (ag : Bool) (ks : List Leaf) (z : AV) (m k : AO) (ok : Bool)
  | mapup (ag : Bool) (ks : List Leaf) (m k v : AO)
  | del (ag : Bool) (ks : List Leaf) (m k : AO)
  | ment (ag : Bool) (ks : List Leaf) (z : AV) (m k : AO)
  | mest (m s v : AO)
  | rangeM (x : AO)
  | next (ent : Bool) (it : AO)
  | ext (x : AO) (i : Nat)
  | call (f : AO) (args : List AO)
  | len (x : AO)
  | lenS (x : AO)
  | lenM (x : AO)
  | lenC (n : Nat)
  | app (sz bytes : Nat) (s x : AO)
  | copy (sz : Nat) (d s : AO)
  | clrS (z : List AV) (x : AO)
  | clrM (x : AO)
  | mnx (max : Bool) (l : List AO)
  | bad
  deriving Inhabited
structure AOper where
  dst : Option Nat
  op : AOp
  guard : Option (Nat × Bool)
  deriving Inhabited
inductive AC where
  | skip
  | seq (a b : AC)
  | cond (c : AO) (a b : AC)
  | block (id : Nat) (b : AC)
  | loop (b : AC)
  | scope (b : AC)
  | exit (id : Nat)
  | ret
  | region (ops : List AOper)
  | draw (ops : List AOper) (uno : List (Nat × Nat))
  | rangeF (f : AO) (ps : List Nat) (asg body : AC)
  | bad
  deriving Inhabited
inductive ARes where
  | tmp (t : Nat)
  | cell (t : Nat) (n : Option Nat)
  deriving Inhabited
structure AFn where
  nt : Nat
  res : List ARes
  body : AC
  deriving Inhabited
abbrev Env := PT AV
def Env.get (e : Env) (t : Nat) : AV := (PT.get e t).getD .undef
def Env.put (e : Env) : Option Nat → AV → Env
  | none, _ => e
  | some t, v => PT.set e t v
def Env.puts (e : Env) : Nat → List AV → Env
  | _, [] => e
  | i, v :: l => Env.puts (PT.set e i v) (i + 1) l
def Env.ofArgs (l : List AV) : Env := Env.puts .nil 0 l
inductive LSt where
  | ready | busy | done | exhausted
  deriving DecidableEq, Inhabited
structure AEnt where
  key : AV
  val : AV
  born : Nat
  deriving Inhabited
inductive ABlk where
  | cells (l : List AV) (own : Bool)
  | map (es : List AEnt) (clock : Nat)
  | iter (m : Option Nat) (since : Nat) (seen : List Nat) (stepped : Nat)
  | loop (st : LSt) (pend : Option AC) (env : Env) (ps : List Nat) (asg body : AC)
  | dead
  deriving Inhabited
structure H where
  next : Nat
  wmin : Nat
  m : PT ABlk
namespace H
def get (h : H) (b : Nat) : Option ABlk := h.m.get b
def put (h : H) (b : Nat) (x : ABlk) : H := { h with m := h.m.set b x, wmin := min h.wmin b }
def puts (h : H) : List (Nat × ABlk) → H
  | [] => h
  | (b, x) :: l => (h.put b x).puts l
def new (h : H) (b : Nat) (x : ABlk) : H := { h with m := h.m.set b x, next := max h.next (b + 1) }
end H
inductive T (α : Type) where
  | ret (a : α)
  | fail
  | ask (n : Nat) (k : Nat → T α)
namespace T
variable {α β : Type}
def bind : T α → (α → T β) → T β
  | .ret a, f => f a
  | .fail, _ => .fail
  | .ask n k, f => .ask n fun i => (k i).bind f
def all (Q : α → Prop) : T α → Prop
  | .ret a => Q a
  | .fail => False
  | .ask n k => 0 < n ∧ ∀ i, i < n → (k i).all Q
def ofOpt : Option α → T α
  | some a => .ret a
  | none => .fail
end T
def AO.ev (x : AO) (e : Env) : AV :=
  match x with
  | .tmp t => e.get t
  | .const v => v
  | .func f => .fn (.func f) [] []
def binInt (op : BinOp) (k k' : IntKind) (a b : Int) : Option AV :=
  match op with
  | .shl => if b < 0 then none else some (.int k (k.wrap (a * 2 ^ min b.toNat k.bits)))
  | .shr => if b < 0 then none else some (.int k (a.fdiv (2 ^ min b.toNat k.bits)))
  | _ => if k ≠ k' then none else
    match op with
    | .add => some (.int k (k.wrap (a + b)))
    | .sub => some (.int k (k.wrap (a - b)))
    | .mul => some (.int k (k.wrap (a * b)))
    | .quo => if b = 0 then none else some (.int k (k.wrap (a.tdiv b)))
    | .rem => if b = 0 then none else some (.int k (a.tmod b))
    | .and => some (.int k (k.wrap (BitVec.ofInt k.bits a &&& BitVec.ofInt k.bits b).toNat))
    | .or => some (.int k (k.wrap (BitVec.ofInt k.bits a ||| BitVec.ofInt k.bits b).toNat))
    | .xor => some (.int k (k.wrap (BitVec.ofInt k.bits a ^^^ BitVec.ofInt k.bits b).toNat))
    | .andNot => some (.int k (k.wrap (BitVec.ofInt k.bits a &&& ~~~ BitVec.ofInt k.bits b).toNat))
    | .eql => some (.bool (a == b))
    | .neq => some (.bool (a != b))
    | .lss => some (.bool (decide (a < b)))
    | .leq => some (.bool (decide (a ≤ b)))
    | .gtr => some (.bool (decide (a > b)))
    | .geq => some (.bool (decide (a ≥ b)))
    | _ => none
def binStr (op : BinOp) (x y : ByteArray) : Option AV :=
  match op with
  | .add => if x.size + y.size ≤ 140737488355328 then some (.str (x ++ y)) else none
  | .eql => some (.bool (x.toList == y.toList))
  | .neq => some (.bool (!(x.toList == y.toList)))
  | .lss => some (.bool (Op.bytesLess x.toList y.toList))
  | .geq => some (.bool (!(Op.bytesLess x.toList y.toList)))
  | _ => none
def binAV (op : BinOp) : AV → AV → Option AV
  | .int k a, .int k' b => binInt op k k' a b
  | .str x, .str y => binStr op x y
  | _, _ => none
def unAV (op : UnOp) : AV → Option AV
  | .bool b => match op with | .not => some (.bool (!b)) | _ => none
  | .int k n => match op with
    | .neg => some (.int k (k.wrap (0 - n)))
    | .xor => some (.int k (k.wrap (BitVec.ofInt k.bits (if k.signed then -1 else k.max) ^^^ BitVec.ofInt k.bits n).toNat))
    | _ => none
  | _ => none
def leafEq : Leaf → AV → AV → Option Bool
  | .bool, .bool a, .bool b => some (a == b)
  | .int, .int k a, .int k' b => if k = k' then some (a == b) else none
  | .str, .str a, .str b => some (a == b)
  | _, _, _ => none
def leafsEq : List Leaf → List AV → List AV → Option Bool
  | [], [], [] => some true
  | k :: ks, x :: xs, y :: ys => match leafEq k x y, leafsEq ks xs ys with
    | some a, some b => some (a && b)
    | _, _ => none
  | _, _, _ => none
def eqAV (ag : Bool) (ks : List Leaf) (x y : AV) : Option Bool :=
  match ag, x, y with
  | true, .agg xs, .agg ys => leafsEq ks xs ys
  | false, x, y => leafsEq ks [x] [y]
  | _, _, _ => none
def eqPtr : AV → AV → Option Bool
  | .ptr none, .ptr b => some b.isNone
  | .ptr (some _), .ptr none => some false
  | _, _ => none
def eqNil : Nat → AV → AV → Option Bool
  | 0, .slc none _ _ _ _, .slc b _ _ _ _ => some b.isNone
  | 0, .slc (some _) _ _ _ _, .slc none _ _ _ _ => some false
  | 1, .map none, .map b => some b.isNone
  | 1, .map (some _), .map none => some false
  | 2, .nilfn, .nilfn => some true
  | 2, .nilfn, .fn .. => some false
  | 2, .fn .., .nilfn => some false
  | _, _, _ => none
def fillC (e : Env) : List AV → List (Nat × Nat × AO) → Option (List AV)
  | z, [] => some z
  | z, (off, n, x) :: ps =>
    match (x.ev e).cells with
    | some cs => if cs.length = n ∧ off + n ≤ z.length then fillC e (z.take off ++ cs ++ z.drop (off + n)) ps else none
    | none => none
def partC (l : List AV) (off : Nat) : Option Nat → Option AV
  | none => l[off]?
  | some n => if off + n ≤ l.length then some (.agg ((l.drop off).take n)) else none
def bound (x : Option AV) (d most : Nat) : Option Nat :=
  match x with
  | none => some d
  | some (.int _ i) => if 0 ≤ i ∧ i ≤ (most : Int) then some i.toNat else none
  | some _ => none
def bounds3 (len cap : Nat) (lo hi mx : Option AV) : Option (Nat × Nat × Nat) := do
  let m ← bound mx cap cap
  let h ← bound hi len m
  if mx.isSome && hi.isNone then none else
  let l ← bound lo 0 h
  some (l, h, m)
def moved (a : Nat × Nat) (l sz : Nat) : Nat × Nat := (a.1, a.2 + l * sz)
structure Loc where
  rd : List Nat
  f : List ABlk → Option (AV × List (Nat × ABlk) × Option ABlk)
def Loc.val (v : Option AV) : Loc := ⟨[], fun _ => v.map fun v => (v, [], none)⟩
def Loc.no : Loc := ⟨[], fun _ => none⟩
def ABlk.row : ABlk → Option (List AV)
  | .cells l _ => some l
  | _ => none
def splice (l : List AV) (off : Nat) (new : List AV) : List AV := l.take off ++ new ++ l.drop (off + new.length)
def findE (ag : Bool) (ks : List Leaf) (k : AV) : List AEnt → Nat → Option (Option (Nat × AV))
  | [], _ => some none
  | x :: es, i => match eqAV ag ks k x.key with
    | some true => some (some (i, x.val))
    | some false => findE ag ks k es (i + 1)
    | none => none
def keyOk (ag : Bool) (ks : List Leaf) (k : AV) : Bool := eqAV ag ks k k == some true
def mmStep (mx : Bool) (k : IntKind) (acc : Option Int) (v : AV) : Option Int :=
  match acc, v with
  | some x, .int k' y => if k' = k then some (bif mx then (if y > x then y else x) else (if y < x then y else x)) else none
  | _, _ => none
def minmax (mx : Bool) : List AV → Option AV
  | .int k a :: l => (l.foldl (mmStep mx k) (some a)).map (.int k)
  | _ => none
def room : Nat := 70368744177664
def opLoc (o : AOp) (e : Env) : Loc :=
  match o with
  | .mv x => .val (some (x.ev e))
  | .nilchk x => .val (match x.ev e with | .ptr (some a) => some (.ptr (some a)) | _ => none)
  | .pick c a b => .val (match c.ev e with | .bool true => some (a.ev e) | .bool false => some (b.ev e) | _ => none)
  | .build z ps => .val ((fillC e z ps).map .agg)
  | .bin op x y => .val (binAV op (x.ev e) (y.ev e))
  | .eqf neg ag ks x y => .val ((eqAV ag ks (x.ev e) (y.ev e)).map fun b => .bool (b != neg))
  | .eqp neg x y => .val ((eqPtr (x.ev e) (y.ev e)).map fun b => .bool (b != neg))
  | .eqn neg kd x y => .val ((eqNil kd (x.ev e) (y.ev e)).map fun b => .bool (b != neg))
  | .un op x => .val (unAV op (x.ev e))
  | .conv k x => .val (match x.ev e with | .int _ n => some (.int k (k.wrap n)) | _ => none)
  | .convS x => .val (match x.ev e with | .str n => some (.str n) | _ => none)
  | .mkfn g first caps => .val (some (.fn (.func g) (first.map (·.ev e)) (caps.map (·.ev e))))
  | .mkif t x => .val (some (.iface t (x.ev e)))
  | .slcS x lo hi => .val (match x.ev e with
    | .str s => (bounds3 s.size s.size (lo.map (·.ev e)) (hi.map (·.ev e)) none).map fun (l, h, _) => .str (s.extract l h)
    | _ => none)
  | .slc sz x lo hi mx => .val (match x.ev e with
    | .slc a len cap ex es => (bounds3 len cap (lo.map (·.ev e)) (hi.map (·.ev e)) (mx.map (·.ev e))).bind fun (l, h, m) =>
        match a with
        | none => some (.slc none (h - l) (m - l) (ex || mx.isSome) es)
        | some a => bif Nat.beq es 0 || Nat.beq es sz then some (.slc (some (moved a l sz)) (h - l) (m - l) (ex || mx.isSome) es) else none
    | _ => none)
  | .slcA n sz x lo hi mx => .val (match x.ev e with
    | .ptr (some a) => (bounds3 n n (lo.map (·.ev e)) (hi.map (·.ev e)) (mx.map (·.ev e))).bind fun (l, h, m) =>
        some (.slc (some (moved a l sz)) (h - l) (m - l) true 0)
    | _ => none)
  | .faddr off x => .val (match x.ev e with | .ptr (some a) => some (.ptr (some (a.1, a.2 + off))) | _ => none)
  | .field off n x => .val (match x.ev e with | .agg l => partC l off n | _ => none)
  | .iaddrA n sz x i => .val (match x.ev e, i.ev e with
    | .ptr (some a), .int _ j => if 0 ≤ j ∧ j < (n : Int) then some (.ptr (some (moved a j.toNat sz))) else none
    | _, _ => none)
  | .iaddrS sz x i => .val (match x.ev e, i.ev e with
    | .slc (some a) len _ _ _, .int _ j => if 0 ≤ j ∧ j < (len : Int) then some (.ptr (some (moved a j.toNat sz))) else none
    | _, _ => none)
  | .idxA n sz m x i => .val (match x.ev e, i.ev e with
    | .agg l, .int _ j => if 0 ≤ j ∧ j < (n : Int) then partC l (j.toNat * sz) m else none
    | _, _ => none)
  | .idxS x i => .val (match x.ev e, i.ev e with
    | .str s, .int _ j => if 0 ≤ j then (s[j.toNat]?).map fun b => .int .u8 b.toNat else none
    | _, _ => none)
  | .ext x i => .val (match x.ev e with | .tup l => l[i]? | _ => none)
  | .len x => .val (match x.ev e with
    | .slc _ n _ _ _ => some (.int .i64 n)
    | _ => none)
  | .lenS x => .val (match x.ev e with
    | .str s => some (.int .i64 s.size)
    | _ => none)
  | .lenC n => .val (some (.int .i64 n))
  | .mnx mx l => .val (minmax mx (l.map (·.ev e)))
  | .lenM x => match x.ev e with
    | .map none => .val (some (.int .i64 0))
    | .map (some r) => ⟨[r], fun
      | [.map es _] => some (.int .i64 es.length, [], none)
      | _ => none⟩
    | _ => .no
  | .alloc z => ⟨[], fun _ => some (.undef, [], some (.cells z true))⟩
  | .box x => match (x.ev e).cells with
    | some l => ⟨[], fun _ => some (.undef, [], some (.cells l true))⟩
    | none => .no
  | .bslice z n sz ps => match fillC e z ps with
    | some l => ⟨[], fun _ => some (.slc none n n true sz, [], some (.cells l true))⟩
    | none => .no
  | .mkmap => ⟨[], fun _ => some (.map none, [], some (.map [] 0))⟩
  | .mkslc z bytes len cap => match len.ev e, cap.ev e with
    | .int .i64 l, .int .i64 c =>
      if 0 ≤ l ∧ l ≤ c ∧ (bytes : Int) * c ≤ room then ⟨[], fun _ => some (.slc none l.toNat c.toNat true z.length, [], some (.cells ((List.replicate c.toNat z).flatten) true))⟩ else .no
    | _, _ => .no
  | .load n a => match a.ev e with
    | .ptr (some (b, o)) => ⟨[b], fun
      | [.cells l _] => (partC l o n).map fun v => (v, [], none)
      | _ => none⟩
    | _ => .no
  | .store n a v => match a.ev e, (v.ev e).cells with
    | .ptr (some (b, o)), some cs => if cs.length = n then ⟨[b], fun
      | [.cells l true] => if o + n ≤ l.length then some (.undef, [(b, .cells (splice l o cs) true)], none) else none
      | _ => none⟩ else .no
    | _, _ => .no
  | .look ag ks z m k ok => match m.ev e with
    | .map none => .val (if keyOk ag ks (k.ev e) then some (bif ok then .tup [z, .bool false] else z) else none)
    | .map (some r) => ⟨[r], fun
      | [.map es _] => if keyOk ag ks (k.ev e) then (findE ag ks (k.ev e) es 0).map fun
          | some (_, v) => (bif ok then .tup [v, .bool true] else v, [], none)
          | none => (bif ok then .tup [z, .bool false] else z, [], none) else none
      | _ => none⟩
    | _ => .no
  | .mapup ag ks m k v => match m.ev e with
    | .map (some r) => ⟨[r], fun
      | [.map es c] => if keyOk ag ks (k.ev e) then (findE ag ks (k.ev e) es 0).map fun
          | some (i, _) => (.undef, [(r, .map (es.modify i fun x => { x with key := k.ev e, val := v.ev e }) c)], none)
          | none => (.undef, [(r, .map (es ++ [⟨k.ev e, v.ev e, c⟩]) (c + 1))], none) else none
      | _ => none⟩
    | _ => .no
  | .ment ag ks z m k => match m.ev e with
    | .map (some r) => ⟨[r], fun
      | [.map es c] => if keyOk ag ks (k.ev e) then (findE ag ks (k.ev e) es 0).map fun
          | some (i, v) => (.tup [v, .int .i64 (((es[i]?).map (·.born)).getD 0 : Nat)], [(r, .map (es.modify i fun x => { x with key := k.ev e }) c)], none)
          | none => (.tup [z, .int .i64 (c : Nat)], [(r, .map (es ++ [⟨k.ev e, z, c⟩]) (c + 1))], none) else none
      | _ => none⟩
    | _ => .no
  | .mest m s v => match m.ev e, s.ev e with
    | .map (some r), .int _ b => ⟨[r], fun
      | [.map es c] => match es.findIdx? (fun x => decide ((x.born : Int) = b)) with
          | some i => some (.undef, [(r, .map (es.modify i fun x => { x with val := v.ev e }) c)], none)
          | none => none
      | _ => none⟩
    | _, _ => .no
  | .del ag ks m k => match m.ev e with
    | .map none => .val (if keyOk ag ks (k.ev e) then some (.tup []) else none)
    | .map (some r) => ⟨[r], fun
      | [.map es c] => if keyOk ag ks (k.ev e) then (findE ag ks (k.ev e) es 0).map fun
          | some (i, _) => (.tup [], [(r, .map (es.eraseIdx i) c)], none)
          | none => (.tup [], [(r, .map es c)], none) else none
      | _ => none⟩
    | _ => .no
  | .rangeM x => match x.ev e with
    | .map none => ⟨[], fun _ => some (.undef, [], some (.iter none 0 [] 0))⟩
    | .map (some r) => ⟨[r], fun
      | [.map _ c] => some (.undef, [], some (.iter (some r) c [] c))
      | _ => none⟩
    | _ => .no
  | .app sz bytes s x => match s.ev e, x.ev e with
    | .slc sa sl sc sx es, .slc xa xl _ _ _ =>
      if (3 * (sl + xl) + 2000) * bytes ≤ room then
        if xl = 0 then .val (some (.slc sa sl sc sx es)) else
        match sa, xa with
        | none, some (xb, xo) => if sl = 0 then ⟨[xb], fun
            | [.cells l _] => if xo + xl * sz ≤ l.length then some (.slc none xl xl false sz, [], some (.cells ((l.drop xo).take (xl * sz)) true)) else none
            | _ => none⟩ else .no
        | some (sb, so), some (xb, xo) => ⟨[sb, xb], fun
            | [.cells l own, .cells l' _] =>
              if so + sl * sz ≤ l.length ∧ xo + xl * sz ≤ l'.length ∧ ((sx = true ∧ sl = sc) ∨ (own = true ∧ es = sz)) then
                some (.slc none (sl + xl) (sl + xl) false sz, bif sx && Nat.beq sl sc then [] else [(sb, .dead)],
                  some (.cells ((l.drop so).take (sl * sz) ++ (l'.drop xo).take (xl * sz)) true)) else none
            | _ => none⟩
        | _, _ => .no
      else .no
    | _, _ => .no
  | .copy sz d s => match d.ev e, s.ev e with
    | .slc (some (db, dz)) dl _ _ _, .slc (some (sb, so)) sl _ _ _ => ⟨[db, sb], fun
      | [.cells l true, .cells l' _] =>
        if dz + min sl dl * sz ≤ l.length ∧ so + min sl dl * sz ≤ l'.length then
          some (.int .i64 (min sl dl : Nat), [(db, .cells (splice l dz ((l'.drop so).take (min sl dl * sz))) true)], none) else none
      | _ => none⟩
    | .slc none _ _ _ _, .slc _ _ _ _ _ => .val (some (.int .i64 0))
    | .slc _ _ _ _ _, .slc none _ _ _ _ => .val (some (.int .i64 0))
    | _, _ => .no
  | .clrS z x => match x.ev e with
    | .slc none _ _ _ _ => .val (some (.tup []))
    | .slc (some (b, o)) n _ _ _ => if n = 0 then .val (some (.tup [])) else ⟨[b], fun
      | [.cells l true] => if o + n * z.length ≤ l.length then some (.tup [], [(b, .cells (splice l o ((List.replicate n z).flatten)) true)], none) else none
      | _ => none⟩
    | _ => .no
  | .clrM x => match x.ev e with
    | .map none => .val (some (.tup []))
    | .map (some r) => ⟨[r], fun
      | [.map _ c] => some (.tup [], [(r, .map [] c)], none)
      | _ => none⟩
    | _ => .no
  | .next _ _ | .call _ _ | .bad => .no
def atNew (b : Nat) : AV → AV
  | .undef => .ptr (some (b, 0))
  | .slc _ n c ex es => .slc (some (b, 0)) n c ex es
  | .map _ => .map (some b)
  | v => v
def getAll (h : H) : List Nat → Option (List ABlk)
  | [] => some []
  | b :: l => match h.get b, getAll h l with
    | some x, some xs => some (x :: xs)
    | _, _ => none
inductive FP where
  | loc (rd wr : List Nat) (nw : Option Nat)
  | call (lo : Nat) (quiet : Bool)
  | big
  deriving Inhabited
def apartL (a b : List Nat) : Bool := a.all fun x => !b.contains x
def FP.none : FP → Bool
  | .loc [] [] Option.none => true
  | _ => false
def FP.compat (f g : FP) : Bool :=
  f.none || g.none ||
  match f, g with
  | .loc r w n, .loc r' w' n' => apartL (w ++ n.toList) (r' ++ w' ++ n'.toList) && apartL (w' ++ n'.toList) r
  | .loc r [] Option.none, .call lo q => q && r.all (Nat.blt · lo)
  | .call lo q, .loc r [] Option.none => q && r.all (Nat.blt · lo)
  | .call _ _, .loc [] [] (some _) => true
  | _, _ => false
def Loc.run (l : Loc) (aid : Nat) (h : H) : Option (AV × H × FP) :=
  match getAll h l.rd with
  | none => none
  | some bs =>
    match l.f bs with
    | none => none
    | some (v, ups, none) => some (v, h.puts ups, .loc l.rd (ups.map (·.1)) none)
    | some (v, ups, some x) => some (atNew aid v, (h.puts ups).new aid x, .loc l.rd (ups.map (·.1)) (some aid))
inductive EX where
  | normal | ret
  | exit (id : Nat)
  deriving DecidableEq, Inhabited
abbrev St := Env × H
abbrev Ex := Option Nat → AC → Env → H → T (EX × Env × H)
def resOne (e : Env) (h : H) : ARes → Option AV
  | .tmp t => some (e.get t)
  | .cell t n => match e.get t with
    | .ptr (some (b, o)) => match h.get b with
      | some (.cells l _) => partC l o n
      | _ => none
    | _ => none
def resAll (e : Env) (h : H) : List ARes → Option (List AV)
  | [] => some []
  | r :: rs => match resOne e h r, resAll e h rs with
    | some v, some vs => some (v :: vs)
    | _, _ => none
def tupOf : List AV → AV
  | [v] => v
  | l => .tup l
def zipPut (e : Env) : List Nat → List AV → Option Env
  | [], [] => some e
  | t :: ts, v :: vs => zipPut (PT.set e t v) ts vs
  | _, _ => none
def roundEnd (l : Nat) (x : EX) (h : H) : T (AV × H) :=
  match h.get l with
  | some (.loop .busy _ env ps asg body) => match x with
    | .normal => .ret (.bool true, h.put l (.loop .ready none env ps asg body))
    | .ret => .ret (.bool false, h.put l (.loop .done (some .ret) env ps asg body))
    | .exit id => .ret (.bool false, h.put l (.loop .done (some (.exit id)) env ps asg body))
  | _ => .fail
def callF (tbl : Nat → Option AFn) (ex : Ex) (f : AV) (args : List AV) (h : H) : T (AV × H) :=
  match f with
  | .fn (.func g) first caps =>
    match tbl g with
    | none => .fail
    | some fn =>
      bif Nat.ble ((first ++ args) ++ caps).length fn.nt then
        (ex none fn.body (Env.ofArgs ((first ++ args) ++ caps)) h).bind fun (x, e, h) =>
          match x with
          | .exit _ => .fail
          | _ => T.ofOpt ((resAll e h fn.res).map fun vs => (tupOf vs, h))
      else .fail
  | .fn (.yield l) [] [] =>
    match h.get l with
    | some (.loop .ready _ env ps asg body) =>
      match zipPut env ps args with
      | none => .fail
      | some e => (ex (some l) asg e h).bind fun (x, e, h) =>
        match x with
        | .normal =>
          match h.get l with
          | some (.loop .ready p env ps asg body') => (ex (some l) body e (h.put l (.loop .busy p env ps asg body'))).bind fun (x, _, h) => roundEnd l x h
          | _ => .fail
        | _ => .fail
    | _ => .fail
  | _ => .fail
def candidates (es : List AEnt) (since : Nat) (seen : List Nat) : List (Option AEnt) :=
  let left := es.filter fun x => !seen.contains x.born
  let old := left.filter (·.born < since)
  let new := left.filter (fun x => !(x.born < since))
  (if old.isEmpty then [none] else []) ++ (old ++ new).map some
def nextS (it : AV) (h : H) : T (AV × H) :=
  match it with
  | .ptr (some (r, 0)) =>
    match h.get r with
    | some (.iter none _ _ _) => .ret (.tup [.bool false], h)
    | some (.iter (some m) since seen last) =>
      match h.get m with
      | some (.map es clock) =>
        if !seen.isEmpty && !es.isEmpty && es.all (fun x => !(x.born < last)) then .fail else
        .ask (candidates es since seen).length fun i =>
          match (candidates es since seen)[i]? with
          | some (some x) => .ret (.tup [.bool true, x.key, x.val], h.put r (.iter (some m) since (seen ++ [x.born]) clock))
          | some none => .ret (.tup [.bool false], h)
          | none => .fail
      | _ => .fail
    | _ => .fail
  | _ => .fail
def entF (it : AV) (h : H) : Option AV :=
  match it with
  | .ptr (some (r, 0)) =>
    match h.get r with
    | some (.iter (some m) _ seen last) =>
      match seen.getLast?, h.get m with
      | some b, some (.map es clock) => bif Nat.beq clock last then (es.find? fun x => Nat.beq x.born b).map fun x => .tup [x.key, x.val] else none
      | _, _ => none
    | _ => none
  | _ => none
def nextF (ent : Bool) (it : AV) (h : H) : T (AV × H) :=
  match ent with
  | true => T.ofOpt ((entF it h).map fun v => (v, h))
  | false => nextS it h
inductive Kind where
  | skip
  | loc (l : Loc)
  | call (f : AV) (args : List AV)
  | next (ent : Bool) (it : AV)
  | bad
def AOp.kind (op : AOp) (e : Env) : Kind :=
  match op with
  | .call f args => .call (f.ev e) (args.map (·.ev e))
  | .next ent it => .next ent (it.ev e)
  | op => .loc (opLoc op e)
def AOper.kind (o : AOper) (e : Env) : Kind :=
  match o.guard with
  | none => o.op.kind e
  | some (t, want) => match e.get t with
    | .bool b => bif b == want then o.op.kind e else .skip
    | .tup [] => .skip
    | _ => .bad
def Kind.run (call : AV → List AV → H → T (AV × H)) (aid : Nat) (k : Kind) (h : H) : T (AV × H × FP) :=
  match k with
  | .skip => .ret (.tup [], h, .loc [] [] none)
  | .loc l => T.ofOpt (l.run aid h)
  | .call f args =>
    (call f args { h with wmin := h.next }).bind fun (v, h') =>
      .ret (v, { h' with wmin := min h.wmin h'.wmin }, .call h.next (Nat.ble h.next h'.wmin))
  | .next ent it => (nextF ent it h).bind fun (v, h') => .ret (v, h', .big)
  | .bad => .fail
def stepG (call : AV → List AV → H → T (AV × H)) (aid : Nat) (o : AOper) (s : St) : T (St × FP) :=
  ((o.kind s.1).run call aid s.2).bind fun (v, h, fp) => .ret ((s.1.put o.dst v, h), fp)
def runSeq (call : AV → List AV → H → T (AV × H)) : List AOper → St → T St
  | [], s => .ret s
  | o :: l, s => (stepG call s.2.next o s).bind fun (s, _) => runSeq call l s
def okWith (uno : List (Nat × Nat)) (fs : PT FP) (i : Nat) (fp : FP) : Bool :=
  uno.all fun (a, b) =>
    (bif Nat.beq a i then (match fs.get b with | some g => fp.compat g | none => true) else true) &&
    (bif Nat.beq b i then (match fs.get a with | some g => g.compat fp | none => true) else true)
def step1 (call : AV → List AV → H → T (AV × H)) (base : Nat) (ops : List AOper) (uno : List (Nat × Nat)) (i : Nat) (s : St) (fs : PT FP) : T (St × PT FP) :=
  match ops[i]? with
  | none => .fail
  | some o => (stepG call (base + i) o s).bind fun (s, fp) => bif okWith uno fs i fp then .ret (s, fs.set i fp) else .fail
def runFP (call : AV → List AV → H → T (AV × H)) (base : Nat) (ops : List AOper) (uno : List (Nat × Nat)) : List Nat → St → PT FP → T St
  | [], s, _ => .ret s
  | i :: l, s, fs => (step1 call base ops uno i s fs).bind fun (s, fs) => runFP call base ops uno l s fs
def runDraw (call : AV → List AV → H → T (AV × H)) (ops : List AOper) (uno : List (Nat × Nat)) (s : St) : T St :=
  runFP call s.2.next ops uno (List.range ops.length) (s.1, { s.2 with next := s.2.next + ops.length }) .nil
def step (tbl : Nat → Option AFn) (ex : Ex) : Ex := fun rnd c e h =>
  match c with
  | .skip => .ret (.normal, e, h)
  | .seq a b => (ex rnd a e h).bind fun (x, e, h) => match x with
    | .normal => ex rnd b e h
    | x => .ret (x, e, h)
  | .cond c a b => match c.ev e with
    | .bool t => bif t then ex rnd a e h else ex rnd b e h
    | _ => .fail
  | .block id b => (ex rnd b e h).bind fun (x, e, h) => match x with
    | .exit id' => bif Nat.beq id' id then .ret (.normal, e, h) else .ret (.exit id', e, h)
    | x => .ret (x, e, h)
  | .loop b => (ex rnd b e h).bind fun (x, e, h) => match x with
    | .normal => ex rnd (.loop b) e h
    | x => .ret (x, e, h)
  | .scope b => ex rnd b e h
  | .exit id => .ret (.exit id, e, h)
  | .ret => .ret (.ret, e, h)
  | .region ops => (runSeq (callF tbl ex) ops (e, h)).bind fun s => .ret (.normal, s.1, s.2)
  | .draw ops uno => (runDraw (callF tbl ex) ops uno (e, h)).bind fun s => .ret (.normal, s.1, s.2)
  | .rangeF f ps asg body =>
    match (match rnd with | none => true | some l => match h.get l with | some (.loop ..) => true | _ => false) && (f.ev e).isFunc with
    | false => .fail
    | true =>
      (callF tbl ex (f.ev e) [.fn (.yield h.next) [] []] (h.new h.next (.loop .ready none e ps asg body))).bind fun (_, h') =>
        match h'.get h.next with
        | some (.loop .busy ..) => .fail
        | some (.loop _ pend env ps asg body) =>
          match pend with
          | none => .ret (.normal, e, h'.put h.next (.loop .exhausted pend env ps asg body))
          | some c => ex rnd c e (h'.put h.next (.loop .exhausted pend env ps asg body))
        | _ => .fail
  | .bad => .fail
def exec (tbl : Nat → Option AFn) : Nat → Ex
  | 0 => fun _ _ _ _ => .fail
  | n + 1 => step tbl (exec tbl n)
end Go.Ax
end
section
namespace Go.Ax
def liftS : Value → Option AV
  | .bool b => some (.bool b)
  | .int k n => some (.int k n)
  | .string s => some (.str s)
  | .pointer none => some (.ptr none)
  | .slice none 0 0 => some (.slc none 0 0 true 0)
  | .map none => some (.map none)
  | .nilFunc => some .nilfn
  | .nilIface => some .nilif
  | _ => none
def liftD (v : Value) : AV := (liftS v).getD .undef
def okL : List Value → Bool
  | [] => true
  | v :: l => bif (liftS v).isSome then okL l else false
def liftL (l : List Value) : Option (List AV) := bif okL l then some (l.map liftD) else none
def liftV : Value → Option AV
  | .agg cs => (liftL cs.toList).map .agg
  | v => liftS v
def ao : Operand → AO
  | .tmp t => .tmp t
  | .const v => .const ((liftV v).getD .undef)
  | .func f => .func f
  | .global _ => .const .undef
section
variable (P : Program)
def sz (t : TypeId) : Option Nat := (P.info? t).map (·.size)
def agn (t : TypeId) : Option (Option Nat) :=
  match P.underlying t with
  | some (.struct _) | some (.array _ _) => (sz P t).map some
  | some _ => some none
  | none => none
def zeroL (t : TypeId) : Option (List AV) :=
  match P.info? t with
  | some i => match i.zero with
    | some z => match liftV z with
      | some a => a.cells
      | none => none
    | none => none
  | none => none
def zeroA (t : TypeId) : Option AV :=
  match P.info? t with
  | some i => match i.zero with
    | some z => liftV z
    | none => none
  | none => none
def leavesF (leaves : TypeId → Option (List Leaf)) : List Field → Nat → Option (List Leaf)
  | [], _ => some []
  | f :: fs, off => match leaves f.type, leavesF leaves fs (off + (sz P f.type).getD 0) with
    | some a, some b => if f.name ≠ "_" ∧ f.offset = off ∧ sz P f.type = some a.length ∧ (agn P f.type = some none → a.length = 1) then some (a ++ b) else none
    | _, _ => none
def leaves : Nat → TypeId → Option (List Leaf)
  | 0, _ => none
  | d + 1, t => match P.underlying t with
    | some .bool => some [.bool]
    | some (.int _) => some [.int]
    | some .string => some [.str]
    | some (.struct fs) => if P.stoodInHeld t then none else leavesF P (leaves d) fs.toList 0
    | some (.array n e) => match leaves d e with
      | some l => if sz P e = some l.length ∧ (agn P e = some none → l.length = 1) then some ((List.replicate n l).flatten) else none
      | none => none
    | _ => none
def keyKind (t : TypeId) : Option (Bool × List Leaf) :=
  match leaves P 8 t, agn P t with
  | some l, some a => some (a.isSome, l)
  | _, _ => none
def eqOp (neg : Bool) (t : TypeId) (x y : AO) : AOp :=
  match P.underlying t with
  | some (.int _) | some .string => .bin (bif neg then .neq else .eql) x y
  | some .bool => .eqf neg false [.bool] x y
  | some (.struct _) | some (.array _ _) => match leaves P 8 t with
    | some l => if P.eqGuardType P.depth t then .bad else .eqf neg true l x y
    | none => .bad
  | some (.pointer e) => match sz P e with
    | some (_ + 1) => .eqp neg x y
    | _ => .bad
  | some (.slice _) => .eqn neg 0 x y
  | some (.map _ _) => .eqn neg 1 x y
  | some (.func _ _ _) => .eqn neg 2 x y
  | _ => .bad
def partsOf (place : Nat → Option (Nat × Nat)) : List (Nat × Operand) → Option (List (Nat × Nat × AO))
  | [] => some []
  | (i, x) :: l => match place i, partsOf place l with
    | some (off, n), some r => some ((off, n, ao x) :: r)
    | _, _ => none
def fieldSz (f : Field) : Option (Nat × Nat) := (sz P f.type).map fun n => (f.offset, n)
def callOp (c : Call) : AOp :=
  match c.callee with
  | .value f => .call (ao f) (c.args.toList.map ao)
  | .invoke _ _ => .bad
  | .builtin b =>
    let u := (c.argTypes[0]?).bind P.underlying
    match b, c.args.toList with
    | .len, [x] => match u with
      | some .string => .lenS (ao x)
      | some (.slice _) => .len (ao x)
      | some (.map _ _) => .lenM (ao x)
      | some (.array n _) => .lenC n
      | _ => .bad
    | .append, [s, x] => match u with
      | some (.slice e) => match P.info? e with
        | some i => match (c.argTypes[1]?).bind P.underlying with
          | some (.slice _) => match zeroL P e with
            | some z => if 0 < i.size ∧ z.length = i.size ∧ 0 < i.bytes then .app i.size i.bytes (ao s) (ao x) else .bad
            | none => .bad
          | _ => .bad
        | none => .bad
      | _ => .bad
    | .copy, [d, s] => match u, (c.argTypes[1]?).bind P.underlying with
      | some (.slice e), some (.slice _) => match sz P e with
        | some n => .copy n (ao d) (ao s)
        | none => .bad
      | _, _ => .bad
    | .clear, [x] => match u with
      | some (.slice e) => match zeroL P e, sz P e with
        | some z, some n => if z.length = n then .clrS z (ao x) else .bad
        | _, _ => .bad
      | some (.map _ _) => .clrM (ao x)
      | _ => .bad
    | .delete, [m, k] => match u with
      | some (.map kt _) => match keyKind P kt with
        | some (ag, l) => .del ag l (ao m) (ao k)
        | none => .bad
      | _ => .bad
    | .min, l => .mnx false (l.map ao)
    | .max, l => .mnx true (l.map ao)
    | _, _ => .bad
def compOp (o : Oper) : AOp :=
  match o.op with
  | .move x | .assign x => .mv (ao x)
  | .pick c a b => .pick (ao c) (ao a) (ao b)
  | .alloc t => match zeroL P t with
    | some z => .alloc z
    | none => .bad
  | .box _ x => .box (ao x)
  | .build t ps => match zeroL P t, P.underlying t with
    | some z, some (.struct fs) =>
      if fs.all fun f => (sz P f.type).isSome then
        match partsOf (fun i => (fs[i]?).bind (fieldSz P)) ps.toList with
        | some l => .build z l
        | none => .bad
      else .bad
    | some z, some (.array _ e) => match sz P e with
      | some n => match partsOf (fun i => some (i * n, n)) ps.toList with
        | some l => .build z l
        | none => .bad
      | none => .bad
    | _, _ => .bad
  | .buildSlice t len ps => match P.underlying t with
    | some (.slice e) => match zeroL P e, sz P e with
      | some z, some n => if z.length = n ∧ 0 < n ∧ len * n ≤ 1024 then
          match partsOf (fun i => some (i * n, n)) ps.toList with
          | some l => .bslice ((List.replicate len z).flatten) len n l
          | none => .bad
        else .bad
      | _, _ => .bad
    | _ => .bad
  | .load t a => match agn P t with
    | some n => .load n (ao a)
    | none => .bad
  | .store t a v => match sz P t with
    | some n => .store n (ao a) (ao v)
    | none => .bad
  | .nilCheck x => .nilchk (ao x)
  | .binOp op t x y _ => match op with
    | .eql => eqOp P false t (ao x) (ao y)
    | .neq => eqOp P true t (ao x) (ao y)
    | op => .bin op (ao x) (ao y)
  | .unOp op _ x => .un op (ao x)
  | .convert s d x => match P.underlying s, P.underlying d with
    | some (.int _), some (.int k) => .conv k (ao x)
    | some .string, some .string => .convS (ao x)
    | _, _ => .bad
  | .makeFunc (.func g) first caps => .mkfn g (first.toList.map ao) (caps.toList.map ao)
  | .makeInterface t x => match P.underlying t with
    | some (.interface _) => .bad
    | some _ => .mkif t (ao x)
    | none => .bad
  | .makeMap _ none => .mkmap
  | .makeSlice t l c => match P.underlying t with
    | some (.slice e) => match P.info? e, zeroL P e with
      | some i, some z => if z.length = i.size ∧ 0 < i.size ∧ 0 < i.bytes then .mkslc z i.bytes (ao l) (ao c) else .bad
      | _, _ => .bad
    | _ => .bad
  | .slice t x lo hi mx => match P.underlying t with
    | some .string => match mx with
      | none => .slcS (ao x) (lo.map ao) (hi.map ao)
      | some _ => .bad
    | some (.slice e) => match sz P e with
      | some n => .slc n (ao x) (lo.map ao) (hi.map ao) (mx.map ao)
      | none => .bad
    | some (.array k e) => match sz P e with
      | some n => .slcA k n (ao x) (lo.map ao) (hi.map ao) (mx.map ao)
      | none => .bad
    | _ => .bad
  | .fieldAddr t x i => match P.underlying t with
    | some (.struct fs) => match fs[i]? with
      | some f => match sz P f.type with
        | some (_ + 1) => .faddr f.offset (ao x)
        | _ => .bad
      | none => .bad
    | _ => .bad
  | .field t x i => match P.underlying t with
    | some (.struct fs) => match fs[i]? with
      | some f => match agn P f.type with
        | some n => .field f.offset n (ao x)
        | none => .bad
      | none => .bad
    | _ => .bad
  | .indexAddr t x i => match P.underlying t with
    | some (.array n e) => match sz P e with
      | some s => .iaddrA n s (ao x) (ao i)
      | none => .bad
    | some (.slice e) => match sz P e with
      | some s => .iaddrS s (ao x) (ao i)
      | none => .bad
    | _ => .bad
  | .index t x i => match P.underlying t with
    | some (.array n e) => match sz P e, agn P e with
      | some s, some m => .idxA n s m (ao x) (ao i)
      | _, _ => .bad
    | some .string => .idxS (ao x) (ao i)
    | _ => .bad
  | .lookup t m k ok => match P.underlying t with
    | some (.map kt et) => match keyKind P kt, zeroA P et with
      | some (ag, l), some z => .look ag l z (ao m) (ao k) ok
      | _, _ => .bad
    | _ => .bad
  | .mapUpdate t m k v | .insert t m k v => match P.underlying t with
    | some (.map kt _) => match keyKind P kt with
      | some (ag, l) => .mapup ag l (ao m) (ao k) (ao v)
      | none => .bad
    | _ => .bad
  | .mapEntry t m k => match P.underlying t with
    | some (.map kt et) => match keyKind P kt, zeroA P et with
      | some (ag, l), some z => .ment ag l z (ao m) (ao k)
      | _, _ => .bad
    | _ => .bad
  | .entryStore _ m s v => .mest (ao m) (ao s) (ao v)
  | .range t x => match P.underlying t with
    | some (.map _ _) => .rangeM (ao x)
    | _ => .bad
  | .next it false => .next false (ao it)
  | .entry it => .next true (ao it)
  | .extract x i => .ext (ao x) i
  | .call c => callOp P c
  | _ => .bad
def compOper (nt : Nat) (ops : Array Oper) (o : Oper) : AOper :=
  let op := match o.dst with
    | none => compOp P o
    | some t => bif Nat.blt t nt then compOp P o else .bad
  match o.guard with
  | none => ⟨o.dst, op, none⟩
  | some (j, want) => match (ops[j]?).bind (·.dst) with
    | some t => ⟨o.dst, op, some (t, want)⟩
    | none => ⟨o.dst, .bad, none⟩
end
def AO.tmps : AO → List Nat
  | .tmp t => [t]
  | _ => []
def optTmps (x : Option AO) : List Nat := (x.map AO.tmps).getD []
def AOp.tmps : AOp → List Nat
  | .mv x | .nilchk x | .box x | .load _ x | .un _ x | .conv _ x | .convS x | .mkif _ x | .faddr _ x | .field _ _ x | .rangeM x | .next _ x | .ext x _ | .len x | .lenS x | .lenM x | .clrS _ x | .clrM x => x.tmps
  | .pick c a b => c.tmps ++ a.tmps ++ b.tmps
  | .alloc _ | .mkmap | .lenC _ | .bad => []
  | .build _ ps | .bslice _ _ _ ps => ps.flatMap fun p => p.2.2.tmps
  | .store _ x y | .bin _ x y | .eqf _ _ _ x y | .eqp _ x y | .eqn _ _ x y | .ment _ _ _ x y | .mkslc _ _ x y | .iaddrA _ _ x y | .iaddrS _ x y | .idxA _ _ _ x y | .idxS x y | .look _ _ _ x y _ | .del _ _ x y
  | .app _ _ x y | .copy _ x y => x.tmps ++ y.tmps
  | .mapup _ _ x y z | .mest x y z => x.tmps ++ y.tmps ++ z.tmps
  | .mkfn _ l l' => l.flatMap AO.tmps ++ l'.flatMap AO.tmps
  | .slcS x a b => x.tmps ++ optTmps a ++ optTmps b
  | .slc _ x a b c | .slcA _ _ x a b c => x.tmps ++ optTmps a ++ optTmps b ++ optTmps c
  | .call f l => f.tmps ++ l.flatMap AO.tmps
  | .mnx _ l => l.flatMap AO.tmps
def AOper.reads (o : AOper) : List Nat := o.op.tmps ++ (match o.guard with | some (t, _) => [t] | none => [])
def AOper.apart (x y : AOper) : Bool :=
  (match x.dst with | none => true | some t => !y.reads.contains t && !(y.dst == some t)) &&
  (match y.dst with | none => true | some t => !x.reads.contains t)
def AOp.isPure : AOp → Bool
  | .mv _ | .nilchk _ | .pick .. | .build .. | .bin .. | .eqf .. | .eqp .. | .eqn .. | .un .. | .conv .. | .convS _ | .mkfn .. | .mkif .. | .slcS .. | .slc .. | .slcA .. | .faddr .. | .field ..
  | .iaddrA .. | .iaddrS .. | .idxA .. | .idxS .. | .ext .. | .len _ | .lenS _ | .lenC _ | .mnx .. => true
  | _ => false
def bindsAny (e : Edge) : Bool := Region.binds .any e
def befores : List Oper → Nat → List Nat → Option (List Nat)
  | [], _, acc => some acc
  | o :: l, i, acc =>
    if o.after.all fun e => !bindsAny e || Nat.blt e.on i then
      befores l (i + 1) (acc ++ [o.after.foldl (fun s e => bif bindsAny e then s ||| 2 ^ e.on ||| acc.getD e.on 0 else s) 0])
    else none
def isBefore (b : List Nat) (i j : Nat) : Bool := (b.getD j 0).testBit i
def pairsU (b : List Nat) (n : Nat) : List (Nat × Nat) :=
  (List.range n).flatMap fun j => ((List.range j).filter fun i => !isBefore b i j).map fun i => (i, j)
def pairOk (ops : List AOper) (p : Nat × Nat) : Bool :=
  match ops[p.1]?, ops[p.2]? with
  | some x, some y => x.apart y
  | _, _ => false
def AOp.isRead : AOp → Bool
  | .load .. | .look .. | .lenM _ => true
  | _ => false
def zeroEq : AV → AV → Bool
  | .int k a, .int k' b => decide (k = k') && decide (a = b)
  | _, _ => false
def AOp.isEL : AOp → AOp → Bool
  | .look ag ks z (.tmp m) (.tmp k) false, .ment ag' ks' z' (.tmp m') (.tmp k') => (ag == ag') && decide (ks = ks') && zeroEq z z' && (ks.all fun k => decide (k ≠ .str)) && decide (m = m') && decide (k = k')
  | _, _ => false
def pairLoud (ops : List AOper) (p : Nat × Nat) : Bool :=
  match ops[p.1]?, ops[p.2]? with
  | some x, some y => !(x.op.isPure || y.op.isPure || (x.op.isRead && y.op.isRead) || x.op.isEL y.op)
  | _, _ => true
section
variable (P : Program)
def compDraw (nt : Nat) (ops : Array Oper) : AC :=
  let l := ops.toList.map (compOper P nt ops)
  match befores ops.toList 0 [] with
  | none => .bad
  | some b =>
    let u := pairsU b l.length
    bif u.all (pairOk l) then .draw l (u.filter (pairLoud l)) else .bad
def comp (nt : Nat) : Code → AC
  | .skip | .label _ => .skip
  | .seq a b => .seq (comp nt a) (comp nt b)
  | .cond c a b => .cond (ao c) (comp nt a) (comp nt b)
  | .block id b => .block id (comp nt b)
  | .loop b => .loop (comp nt b)
  | .scope b => .scope (comp nt b)
  | .exit id => .exit id
  | .ret => .ret
  | .region _ ops draw => bif draw then compDraw P nt ops else .region (ops.toList.map (compOper P nt ops))
  | .rangeFunc f ps asg body => bif ps.toList.all (Nat.blt · nt) then .rangeF (ao f) ps.toList (comp nt asg) (comp nt body) else .bad
  | _ => .bad
def compRes : ResultVar → Option ARes
  | .tmp t => some (.tmp t)
  | .cell a t => (agn P t).map fun n => .cell a n
def compResL : List ResultVar → Option (List ARes)
  | [] => some []
  | r :: rs => match compRes P r, compResL rs with
    | some x, some xs => some (x :: xs)
    | _, _ => none
def compF (f : Func) : Option AFn :=
  match f.body, compResL P f.results.toList with
  | some c, some rs => if f.name == "runtime.NumGoroutine" then none else some ⟨f.ntmps, rs, comp P f.ntmps c⟩
  | _, _ => none
end
end Go.Ax
end
section
namespace Go.Ax
def look1 : List (Nat × AFn) → Nat → Option AFn
  | [], _ => none
  | (k, f) :: l, n => bif Nat.beq n k then some f else look1 l n
abbrev AO.t (n : Nat) : AO := .tmp n
abbrev AOper.o (d : Nat) (op : AOp) : AOper := ⟨some d, op, none⟩
abbrev AOper.m (d t : Nat) : AOper := ⟨some d, .mv (.tmp t), none⟩
abbrev AOper.l (d t : Nat) : AOper := ⟨some d, .load none (.tmp t), none⟩
abbrev AO.i (n : Int) : AO := .const (.int .i64 n)
abbrev AO.b (x : Bool) : AO := .const (.bool x)
abbrev AOper.y (d t : Nat) (op : AOp) : AOper := ⟨some d, op, some (t, true)⟩
abbrev AOper.n (d t : Nat) (op : AOp) : AOper := ⟨some d, op, some (t, false)⟩
abbrev AOper.e (d t n : Nat) : AOper := ⟨some d, .ext (.tmp t) n, none⟩
abbrev AOper.f (d n t : Nat) : AOper := ⟨some d, .faddr n (.tmp t), none⟩
abbrev AOper.a (d n t : Nat) : AOper := ⟨some d, .load (some n) (.tmp t), none⟩
abbrev AOper.s (n a v : Nat) : AOper := ⟨none, .store n (.tmp a) (.tmp v), none⟩
end Go.Ax
end
