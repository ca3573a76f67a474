/-
  The loaded code read for the abstract machine: sizes, offsets and zeros are looked up once. (Definitions alone.)
-/
import Derived.Test.YtmhbmnonichopaaXA0
namespace Go.Ax

def liftS : Value → Option AV
  | .bool b => some (.bool b)
  | .int k n => some (.int k n)
  | .string s => some (.str s)
  | .pointer none => some (.ptr none)
  | .slice none 0 0 => some (.slc none 0 0 true 0)
  | .map none => some (.map none)
  | .nilFunc => some .nilfn
  | .nilIface => some .nilif
  | _ => none
def liftD (v : Value) : AV := (liftS v).getD .undef
def okL : List Value → Bool
  | [] => true
  | v :: l => bif (liftS v).isSome then okL l else false
def liftL (l : List Value) : Option (List AV) := bif okL l then some (l.map liftD) else none
def liftV : Value → Option AV
  | .agg cs => (liftL cs.toList).map .agg
  | v => liftS v

def ao : Operand → AO
  | .tmp t => .tmp t
  | .const v => .const ((liftV v).getD .undef)
  | .func f => .func f
  | .global _ => .const .undef

section
variable (P : Program)
def sz (t : TypeId) : Option Nat := (P.info? t).map (·.size)
/-- a type's reading in a variable: none: one cell -/
def agn (t : TypeId) : Option (Option Nat) :=
  match P.underlying t with
  | some (.struct _) | some (.array _ _) => (sz P t).map some
  | some _ => some none
  | none => none
def zeroL (t : TypeId) : Option (List AV) :=
  match P.info? t with
  | some i => match i.zero with
    | some z => match liftV z with
      | some a => a.cells
      | none => none
    | none => none
  | none => none
def zeroA (t : TypeId) : Option AV :=
  match P.info? t with
  | some i => match i.zero with
    | some z => liftV z
    | none => none
  | none => none

/-- the leaves of a type that is compared -/
def leavesF (leaves : TypeId → Option (List Leaf)) : List Field → Nat → Option (List Leaf)
  | [], _ => some []
  | f :: fs, off => match leaves f.type, leavesF leaves fs (off + (sz P f.type).getD 0) with
    | some a, some b => if f.name ≠ "_" ∧ f.offset = off ∧ sz P f.type = some a.length ∧ (agn P f.type = some none → a.length = 1) then some (a ++ b) else none
    | _, _ => none
def leaves : Nat → TypeId → Option (List Leaf)
  | 0, _ => none
  | d + 1, t => match P.underlying t with
    | some .bool => some [.bool]
    | some (.int _) => some [.int]
    | some .string => some [.str]
    | some (.struct fs) => if P.stoodInHeld t then none else leavesF P (leaves d) fs.toList 0
    | some (.array n e) => match leaves d e with
      | some l => if sz P e = some l.length ∧ (agn P e = some none → l.length = 1) then some ((List.replicate n l).flatten) else none
      | none => none
    | _ => none
def keyKind (t : TypeId) : Option (Bool × List Leaf) :=
  match leaves P 8 t, agn P t with
  | some l, some a => some (a.isSome, l)
  | _, _ => none

def eqOp (neg : Bool) (t : TypeId) (x y : AO) : AOp :=
  match P.underlying t with
  | some (.int _) | some .string => .bin (bif neg then .neq else .eql) x y
  | some .bool => .eqf neg false [.bool] x y
  | some (.struct _) | some (.array _ _) => match leaves P 8 t with
    | some l => if P.eqGuardType P.depth t then .bad else .eqf neg true l x y
    | none => .bad
  | some (.pointer e) => match sz P e with
    | some (_ + 1) => .eqp neg x y
    | _ => .bad
  | some (.slice _) => .eqn neg 0 x y
  | some (.map _ _) => .eqn neg 1 x y
  | some (.func _ _ _) => .eqn neg 2 x y
  | _ => .bad

def partsOf (place : Nat → Option (Nat × Nat)) : List (Nat × Operand) → Option (List (Nat × Nat × AO))
  | [] => some []
  | (i, x) :: l => match place i, partsOf place l with
    | some (off, n), some r => some ((off, n, ao x) :: r)
    | _, _ => none

def fieldSz (f : Field) : Option (Nat × Nat) := (sz P f.type).map fun n => (f.offset, n)

def callOp (c : Call) : AOp :=
  match c.callee with
  | .value f => .call (ao f) (c.args.toList.map ao)
  | .invoke _ _ => .bad
  | .builtin b =>
    let u := (c.argTypes[0]?).bind P.underlying
    match b, c.args.toList with
    | .len, [x] => match u with
      | some .string => .lenS (ao x)
      | some (.slice _) => .len (ao x)
      | some (.map _ _) => .lenM (ao x)
      | some (.array n _) => .lenC n
      | _ => .bad
    | .append, [s, x] => match u with
      | some (.slice e) => match P.info? e with
        | some i => match (c.argTypes[1]?).bind P.underlying with
          | some (.slice _) => match zeroL P e with
            | some z => if 0 < i.size ∧ z.length = i.size ∧ 0 < i.bytes then .app i.size i.bytes (ao s) (ao x) else .bad
            | none => .bad
          | _ => .bad
        | none => .bad
      | _ => .bad
    | .copy, [d, s] => match u, (c.argTypes[1]?).bind P.underlying with
      | some (.slice e), some (.slice _) => match sz P e with
        | some n => .copy n (ao d) (ao s)
        | none => .bad
      | _, _ => .bad
    | .clear, [x] => match u with
      | some (.slice e) => match zeroL P e, sz P e with
        | some z, some n => if z.length = n then .clrS z (ao x) else .bad
        | _, _ => .bad
      | some (.map _ _) => .clrM (ao x)
      | _ => .bad
    | .delete, [m, k] => match u with
      | some (.map kt _) => match keyKind P kt with
        | some (ag, l) => .del ag l (ao m) (ao k)
        | none => .bad
      | _ => .bad
    | .min, l => .mnx false (l.map ao)
    | .max, l => .mnx true (l.map ao)
    | _, _ => .bad

def compOp (o : Oper) : AOp :=
  match o.op with
  | .move x | .assign x => .mv (ao x)
  | .pick c a b => .pick (ao c) (ao a) (ao b)
  | .alloc t => match zeroL P t with
    | some z => .alloc z
    | none => .bad
  | .box _ x => .box (ao x)
  | .build t ps => match zeroL P t, P.underlying t with
    | some z, some (.struct fs) =>
      if fs.all fun f => (sz P f.type).isSome then
        match partsOf (fun i => (fs[i]?).bind (fieldSz P)) ps.toList with
        | some l => .build z l
        | none => .bad
      else .bad
    | some z, some (.array _ e) => match sz P e with
      | some n => match partsOf (fun i => some (i * n, n)) ps.toList with
        | some l => .build z l
        | none => .bad
      | none => .bad
    | _, _ => .bad
  | .buildSlice t len ps => match P.underlying t with
    | some (.slice e) => match zeroL P e, sz P e with
      | some z, some n => if z.length = n ∧ 0 < n ∧ len * n ≤ 1024 then
          match partsOf (fun i => some (i * n, n)) ps.toList with
          | some l => .bslice ((List.replicate len z).flatten) len n l
          | none => .bad
        else .bad
      | _, _ => .bad
    | _ => .bad
  | .load t a => match agn P t with
    | some n => .load n (ao a)
    | none => .bad
  | .store t a v => match sz P t with
    | some n => .store n (ao a) (ao v)
    | none => .bad
  | .nilCheck x => .nilchk (ao x)
  | .binOp op t x y _ => match op with
    | .eql => eqOp P false t (ao x) (ao y)
    | .neq => eqOp P true t (ao x) (ao y)
    | op => .bin op (ao x) (ao y)
  | .unOp op _ x => .un op (ao x)
  | .convert s d x => match P.underlying s, P.underlying d with
    | some (.int _), some (.int k) => .conv k (ao x)
    | some .string, some .string => .convS (ao x)
    | _, _ => .bad
  | .makeFunc (.func g) first caps => .mkfn g (first.toList.map ao) (caps.toList.map ao)
  | .makeInterface t x => match P.underlying t with
    | some (.interface _) => .bad
    | some _ => .mkif t (ao x)
    | none => .bad
  | .makeMap _ none => .mkmap
  | .makeSlice t l c => match P.underlying t with
    | some (.slice e) => match P.info? e, zeroL P e with
      | some i, some z => if z.length = i.size ∧ 0 < i.size ∧ 0 < i.bytes then .mkslc z i.bytes (ao l) (ao c) else .bad
      | _, _ => .bad
    | _ => .bad
  | .slice t x lo hi mx => match P.underlying t with
    | some .string => match mx with
      | none => .slcS (ao x) (lo.map ao) (hi.map ao)
      | some _ => .bad
    | some (.slice e) => match sz P e with
      | some n => .slc n (ao x) (lo.map ao) (hi.map ao) (mx.map ao)
      | none => .bad
    | some (.array k e) => match sz P e with
      | some n => .slcA k n (ao x) (lo.map ao) (hi.map ao) (mx.map ao)
      | none => .bad
    | _ => .bad
  | .fieldAddr t x i => match P.underlying t with
    | some (.struct fs) => match fs[i]? with
      | some f => match sz P f.type with
        | some (_ + 1) => .faddr f.offset (ao x)
        | _ => .bad
      | none => .bad
    | _ => .bad
  | .field t x i => match P.underlying t with
    | some (.struct fs) => match fs[i]? with
      | some f => match agn P f.type with
        | some n => .field f.offset n (ao x)
        | none => .bad
      | none => .bad
    | _ => .bad
  | .indexAddr t x i => match P.underlying t with
    | some (.array n e) => match sz P e with
      | some s => .iaddrA n s (ao x) (ao i)
      | none => .bad
    | some (.slice e) => match sz P e with
      | some s => .iaddrS s (ao x) (ao i)
      | none => .bad
    | _ => .bad
  | .index t x i => match P.underlying t with
    | some (.array n e) => match sz P e, agn P e with
      | some s, some m => .idxA n s m (ao x) (ao i)
      | _, _ => .bad
    | some .string => .idxS (ao x) (ao i)
    | _ => .bad
  | .lookup t m k ok => match P.underlying t with
    | some (.map kt et) => match keyKind P kt, zeroA P et with
      | some (ag, l), some z => .look ag l z (ao m) (ao k) ok
      | _, _ => .bad
    | _ => .bad
  | .mapUpdate t m k v | .insert t m k v => match P.underlying t with
    | some (.map kt _) => match keyKind P kt with
      | some (ag, l) => .mapup ag l (ao m) (ao k) (ao v)
      | none => .bad
    | _ => .bad
  | .mapEntry t m k => match P.underlying t with
    | some (.map kt et) => match keyKind P kt, zeroA P et with
      | some (ag, l), some z => .ment ag l z (ao m) (ao k)
      | _, _ => .bad
    | _ => .bad
  | .entryStore _ m s v => .mest (ao m) (ao s) (ao v)
  | .range t x => match P.underlying t with
    | some (.map _ _) => .rangeM (ao x)
    | _ => .bad
  | .next it false => .next (ao it)
  | .extract x i => .ext (ao x) i
  | .call c => callOp P c
  | _ => .bad

def compOper (nt : Nat) (ops : Array Oper) (o : Oper) : AOper :=
  let op := match o.dst with
    | none => compOp P o
    | some t => bif Nat.blt t nt then compOp P o else .bad
  match o.guard with
  | none => ⟨o.dst, op, none⟩
  | some (j, want) => match (ops[j]?).bind (·.dst) with
    | some t => ⟨o.dst, op, some (t, want)⟩
    | none => ⟨o.dst, .bad, none⟩
end

/-! ### Which operations have no order -/
def AO.tmps : AO → List Nat
  | .tmp t => [t]
  | _ => []
def optTmps (x : Option AO) : List Nat := (x.map AO.tmps).getD []
/-- what an operation reads -/
def AOp.tmps : AOp → List Nat
  | .mv x | .nilchk x | .box x | .load _ x | .un _ x | .conv _ x | .convS x | .mkif _ x | .faddr _ x | .field _ _ x | .rangeM x | .next x | .ext x _ | .len x | .lenS x | .lenM x | .clrS _ x | .clrM x => x.tmps
  | .pick c a b => c.tmps ++ a.tmps ++ b.tmps
  | .alloc _ | .mkmap | .lenC _ | .bad => []
  | .build _ ps | .bslice _ _ _ ps => ps.flatMap fun p => p.2.2.tmps
  | .store _ x y | .bin _ x y | .eqf _ _ _ x y | .eqp _ x y | .eqn _ _ x y | .ment _ _ _ x y | .mkslc _ _ x y | .iaddrA _ _ x y | .iaddrS _ x y | .idxA _ _ _ x y | .idxS x y | .look _ _ _ x y _ | .del _ _ x y
  | .app _ _ x y | .copy _ x y => x.tmps ++ y.tmps
  | .mapup _ _ x y z | .mest x y z => x.tmps ++ y.tmps ++ z.tmps
  | .mkfn _ l l' => l.flatMap AO.tmps ++ l'.flatMap AO.tmps
  | .slcS x a b => x.tmps ++ optTmps a ++ optTmps b
  | .slc _ x a b c | .slcA _ _ x a b c => x.tmps ++ optTmps a ++ optTmps b ++ optTmps c
  | .call f l => f.tmps ++ l.flatMap AO.tmps
  | .mnx _ l => l.flatMap AO.tmps
def AOper.reads (o : AOper) : List Nat := o.op.tmps ++ (match o.guard with | some (t, _) => [t] | none => [])
/-- neither writes what the other one reads or writes -/
def AOper.apart (x y : AOper) : Bool :=
  (match x.dst with | none => true | some t => !y.reads.contains t && !(y.dst == some t)) &&
  (match y.dst with | none => true | some t => !x.reads.contains t)
/-- looks at temporaries alone -/
def AOp.isPure : AOp → Bool
  | .mv _ | .nilchk _ | .pick .. | .build .. | .bin .. | .eqf .. | .eqp .. | .eqn .. | .un .. | .conv .. | .convS _ | .mkfn .. | .mkif .. | .slcS .. | .slc .. | .slcA .. | .faddr .. | .field ..
  | .iaddrA .. | .iaddrS .. | .idxA .. | .idxS .. | .ext .. | .len _ | .lenS _ | .lenC _ | .mnx .. => true
  | _ => false

def bindsAny (e : Edge) : Bool := Region.binds .any e
/-- what is before each operation, as bits; none: an edge to a later one -/
def befores : List Oper → Nat → List Nat → Option (List Nat)
  | [], _, acc => some acc
  | o :: l, i, acc =>
    if o.after.all fun e => !bindsAny e || Nat.blt e.on i then
      befores l (i + 1) (acc ++ [o.after.foldl (fun s e => bif bindsAny e then s ||| 2 ^ e.on ||| acc.getD e.on 0 else s) 0])
    else none
def isBefore (b : List Nat) (i j : Nat) : Bool := (b.getD j 0).testBit i
/-- the pairs without an order -/
def pairsU (b : List Nat) (n : Nat) : List (Nat × Nat) :=
  (List.range n).flatMap fun j => ((List.range j).filter fun i => !isBefore b i j).map fun i => (i, j)
def pairOk (ops : List AOper) (p : Nat × Nat) : Bool :=
  match ops[p.1]?, ops[p.2]? with
  | some x, some y => x.apart y
  | _, _ => false
def AOp.isRead : AOp → Bool
  | .load .. | .look .. | .lenM _ => true
  | _ => false
def pairLoud (ops : List AOper) (p : Nat × Nat) : Bool :=
  match ops[p.1]?, ops[p.2]? with
  | some x, some y => !(x.op.isPure || y.op.isPure || (x.op.isRead && y.op.isRead))
  | _, _ => true

section
variable (P : Program)
def compDraw (nt : Nat) (ops : Array Oper) : AC :=
  let l := ops.toList.map (compOper P nt ops)
  match befores ops.toList 0 [] with
  | none => .bad
  | some b =>
    let u := pairsU b l.length
    bif u.all (pairOk l) then .draw l (u.filter (pairLoud l)) else .bad

def comp (nt : Nat) : Code → AC
  | .skip | .label _ => .skip
  | .seq a b => .seq (comp nt a) (comp nt b)
  | .cond c a b => .cond (ao c) (comp nt a) (comp nt b)
  | .block id b => .block id (comp nt b)
  | .loop b => .loop (comp nt b)
  | .scope b => .scope (comp nt b)
  | .exit id => .exit id
  | .ret => .ret
  | .region _ ops draw => bif draw then compDraw P nt ops else .region (ops.toList.map (compOper P nt ops))
  | .rangeFunc f ps asg body => bif ps.toList.all (Nat.blt · nt) then .rangeF (ao f) ps.toList (comp nt asg) (comp nt body) else .bad
  | _ => .bad

def compRes : ResultVar → Option ARes
  | .tmp t => some (.tmp t)
  | .cell a t => (agn P t).map fun n => .cell a n
def compResL : List ResultVar → Option (List ARes)
  | [] => some []
  | r :: rs => match compRes P r, compResL rs with
    | some x, some xs => some (x :: xs)
    | _, _ => none

def compF (f : Func) : Option AFn :=
  match f.body, compResL P f.results.toList with
  | some c, some rs => if f.name == "runtime.NumGoroutine" then none else some ⟨f.ntmps, rs, comp P f.ntmps c⟩
  | _, _ => none
end
end Go.Ax
