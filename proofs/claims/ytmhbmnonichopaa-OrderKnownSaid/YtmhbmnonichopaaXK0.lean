/-
  A strict machine, made for the kernel's reckoning: rows are a list and what has been written over it; each case is told apart by a recursor at once. (Definitions alone.)
-/
import Derived.Test.YtmhbmnonichopaaXA0
namespace Go.Ax

inductive FB where
  | cells (n : Nat) (base : List AV) (t : PT AV) (own : Bool)
  | other (x : ABlk)
structure HK where
  next : Nat
  wmin : Nat
  m : PT FB
namespace PT
def map {α β : Type} (f : α → β) : PT α → PT β
  | .nil => .nil
  | .node v l r => .node (v.map f) (l.map f) (r.map f)
end PT
/-- a list with what has been written over it -/
def merge (t : PT AV) : Nat → List AV → List AV
  | _, [] => []
  | i, x :: l => (t.get i).getD x :: merge t (i + 1) l
def FB.abs : FB → ABlk
  | .cells _ base t own => .cells (merge t 0 base) own
  | .other x => x
def HK.abs (h : HK) : H := ⟨h.next, h.wmin, h.m.map FB.abs⟩

namespace K
noncomputable section
def bf (c a b : Bool) : Bool := @Bool.rec (fun _ => Bool) b a c
def fN (n : Nat) (k : Nat → Bool) : Bool := @Nat.rec (fun _ => Bool) (k 0) (fun m _ => k (Nat.succ m)) n
def fI (n : Int) (k : Int → Bool) : Bool := @Int.rec (fun _ => Bool) (fun n => fN n fun n => k (.ofNat n)) (fun n => fN n fun n => k (.negSucc n)) n
def fB (b : Bool) (k : Bool → Bool) : Bool := @Bool.rec (fun _ => Bool) (k false) (k true) b
def oC {α : Type} (o : Option α) (n : Bool) (s : α → Bool) : Bool := @Option.rec α (fun _ => Bool) n s o
def lC {α : Type} (l : List α) (n : Bool) (c : α → List α → Bool) : Bool := @List.rec α (fun _ => Bool) n (fun x l _ => c x l) l
def pC {α β : Type} (p : α × β) (k : α → β → Bool) : Bool := @Prod.rec α β (fun _ => Bool) k p
def fA (a : Option (Nat × Nat)) (k : Option (Nat × Nat) → Bool) : Bool := oC a (k none) fun p => pC p fun b o => fN b fun b => fN o fun o => k (some (b, o))
/-- a value whose parts are reckoned, reckoned itself -/
def fV (v : AV) (k : AV → Bool) : Bool := @AV.casesOn (fun _ => Bool) v (k .undef) (fun b => k (.bool b)) (fun kd n => k (.int kd n)) (fun s => k (.str s)) (fun a => k (.ptr a)) (fun a n c ex es => k (.slc a n c ex es))
  (fun r => k (.map r)) (fun f a b => k (.fn f a b)) (k .nilfn) (fun t v => k (.iface t v)) (k .nilif) (fun l => k (.agg l)) (fun l => k (.tup l))
/-- a value of one cell with its parts -/
def fS (v : AV) (k : AV → Bool) : Bool := @AV.casesOn (fun _ => Bool) v (k .undef) (fun b => fB b fun b => k (.bool b)) (fun kd n => fI n fun n => k (.int kd n)) (fun s => k (.str s)) (fun a => fA a fun a => k (.ptr a))
  (fun a n c ex es => fA a fun a => fN n fun n => fN c fun c => fB ex fun ex => fN es fun es => k (.slc a n c ex es))
  (fun r => oC r (k (.map none)) fun r => fN r fun r => k (.map (some r))) (fun f a b => k (.fn f a b)) (k .nilfn) (fun t v => k (.iface t v)) (k .nilif) (fun l => k (.agg l)) (fun l => k (.tup l))
/-- at most n of a list's values with their parts -/
def fL : Nat → List AV → (List AV → Bool) → Bool := @Nat.rec (fun _ => List AV → (List AV → Bool) → Bool) (fun l k => k l) fun _ ih l k => lC l (k []) fun v l => fS v fun v => ih l fun l => k (v :: l)
/-- a value with all its parts, but for long rows -/
def fW (v : AV) (k : AV → Bool) : Bool := @AV.casesOn (fun _ => Bool) v (k .undef) (fun b => fB b fun b => k (.bool b)) (fun kd n => fI n fun n => k (.int kd n)) (fun s => k (.str s)) (fun a => fA a fun a => k (.ptr a))
  (fun a n c ex es => fA a fun a => fN n fun n => fN c fun c => fB ex fun ex => fN es fun es => k (.slc a n c ex es))
  (fun r => oC r (k (.map none)) fun r => fN r fun r => k (.map (some r))) (fun f a b => k (.fn f a b)) (k .nilfn) (fun t v => k (.iface t v)) (k .nilif) (fun l => fL 40 l fun l => k (.agg l)) (fun l => fL 40 l fun l => k (.tup l))

def getP {α : Type} (t : PT α) (i : Nat) : Option α := @PT.rec α (fun _ => Nat → Option α) (fun _ => none) (fun v _ _ ihl ihr i => @Bool.rec (fun _ => Option α)
  (@Bool.rec (fun _ => Option α) (ihr (Nat.sub (Nat.div i 2) 1)) (ihl (Nat.div i 2)) (Nat.beq (Nat.mod i 2) 1)) v (Nat.beq i 0)) t i
def getE (e : Env) (i : Nat) : AV := @PT.rec AV (fun _ => Nat → AV) (fun _ => .undef) (fun v _ _ ihl ihr i => @Bool.rec (fun _ => AV)
  (@Bool.rec (fun _ => AV) (ihr (Nat.sub (Nat.div i 2) 1)) (ihl (Nat.div i 2)) (Nat.beq (Nat.mod i 2) 1)) (@Option.rec AV (fun _ => AV) .undef (fun a => a) v) (Nat.beq i 0)) e i
def setF {α : Type} : Nat → PT α → Nat → α → (PT α → Bool) → Bool := @Nat.rec (fun _ => PT α → Nat → α → (PT α → Bool) → Bool) (fun t _ _ k => k t) fun _ ih t i a k =>
  @PT.rec α (fun _ => Bool)
    (bf (Nat.beq i 0) (k (.node (some a) .nil .nil)) (bf (Nat.beq (Nat.mod i 2) 1) (ih .nil (Nat.div i 2) a fun t => k (.node none t .nil)) (ih .nil (Nat.sub (Nat.div i 2) 1) a fun t => k (.node none .nil t))))
    (fun v l r _ _ => bf (Nat.beq i 0) (k (.node (some a) l r)) (bf (Nat.beq (Nat.mod i 2) 1) (ih l (Nat.div i 2) a fun t => k (.node v t r)) (ih r (Nat.sub (Nat.div i 2) 1) a fun t => k (.node v l t)))) t
def setP {α : Type} (t : PT α) (i : Nat) (a : α) (k : PT α → Bool) : Bool := setF (Nat.succ i) t i a k

abbrev KV := AV → HK → FP → Bool
abbrev CfK := AV → List AV → HK → (AV → HK → Bool) → Bool
abbrev OpR := CfK → Env → Nat → HK → KV → Bool
def hC (h : HK) (k : Nat → Nat → PT FB → Bool) : Bool := @HK.rec (fun _ => Bool) k h
def get (h : HK) (b : Nat) : Option FB := getP h.m b
def put (h : HK) (b : Nat) (x : FB) (k : HK → Bool) : Bool := hC h fun n w m => setP m b x fun m => fN (@Bool.rec (fun _ => Nat) b w (Nat.ble w b)) fun w => k ⟨n, w, m⟩
def new (h : HK) (b : Nat) (x : FB) (k : HK → Bool) : Bool := hC h fun n w m => setP m b x fun m => fN (@Bool.rec (fun _ => Nat) n (Nat.succ b) (Nat.ble n (Nat.succ b))) fun n => k ⟨n, w, m⟩
def lenK (l : List AV) (n : Nat) (k : Nat → Bool) : Bool := @List.rec AV (fun _ => Nat → Bool) (fun n => k n) (fun _ _ ih n => fN (Nat.succ n) ih) l n
def ofK (x : ABlk) (k : FB → Bool) : Bool := match x with
  | .cells l own => lenK l 0 fun n => k (.cells n l .nil own)
  | x => k (.other x)
def puts (h : HK) (l : List (Nat × ABlk)) (k : HK → Bool) : Bool := @List.rec (Nat × ABlk) (fun _ => HK → Bool) (fun h => k h) (fun p _ ih h => pC p fun b x => ofK x fun x => put h b x ih) l h
def all (h : HK) : List Nat → Option (List ABlk) := @List.rec Nat (fun _ => Option (List ABlk)) (some []) fun b _ ih => @Option.rec FB (fun _ => Option (List ABlk)) none (fun x => @Option.rec (List ABlk) (fun _ => Option (List ABlk)) none (fun xs => some (x.abs :: xs)) ih) (get h b)
def fp0 : FP := .loc [] [] none
/-- an operation of memory, as it is told -/
def gen (l : Loc) (aid : Nat) (h : HK) (k : KV) : Bool := oC (all h l.rd) false fun bs => oC (l.f bs) false fun r => pC r fun v r => pC r fun ups nw =>
  puts h ups fun h => oC nw (fW v fun v => k v h (.loc l.rd (ups.map (·.1)) none)) fun x => ofK x fun x => new h aid x fun h => fW (atNew aid v) fun v => k v h (.loc l.rd (ups.map (·.1)) (some aid))
def gOp (op : AOp) : OpR := fun _ e aid h k => gen (opLoc op e) aid h k

def ev : AO → Env → AV := @AO.rec (fun _ => Env → AV) (fun t e => getE e t) (fun v _ => v) (fun f _ => .fn (.func f) [] [])
def evs (e : Env) (l : List AO) (k : List AV → Bool) : Bool := @List.rec AO (fun _ => (List AV → Bool) → Bool) (fun k => k []) (fun x _ ih k => fV (ev x e) fun v => ih fun l => k (v :: l)) l k
def vPtr (v : AV) (k : Nat → Nat → Bool) : Bool := @AV.casesOn (fun _ => Bool) v false (fun _ => false) (fun _ _ => false) (fun _ => false) (fun a => oC a false fun p => pC p k) (fun _ _ _ _ _ => false) (fun _ => false) (fun _ _ _ => false) false (fun _ _ => false) false (fun _ => false) (fun _ => false)
def vInt (v : AV) (k : IntKind → Int → Bool) : Bool := @AV.casesOn (fun _ => Bool) v false (fun _ => false) k (fun _ => false) (fun _ => false) (fun _ _ _ _ _ => false) (fun _ => false) (fun _ _ _ => false) false (fun _ _ => false) false (fun _ => false) (fun _ => false)
def vBool (v : AV) (k : Bool → Bool) : Bool := @AV.casesOn (fun _ => Bool) v false k (fun _ _ => false) (fun _ => false) (fun _ => false) (fun _ _ _ _ _ => false) (fun _ => false) (fun _ _ _ => false) false (fun _ _ => false) false (fun _ => false) (fun _ => false)
def vSlc (v : AV) (k : Nat → Nat → Nat → Bool) : Bool := @AV.casesOn (fun _ => Bool) v false (fun _ => false) (fun _ _ => false) (fun _ => false) (fun _ => false) (fun a n _ _ _ => oC a false fun p => pC p fun b o => k b o n) (fun _ => false) (fun _ _ _ => false) false (fun _ _ => false) false (fun _ => false) (fun _ => false)
def natOf (n : Int) (k : Nat → Bool) : Bool := @Int.rec (fun _ => Bool) k (fun _ => false) n

def oMv (x : AO) : OpR := fun _ e _ h k => fV (ev x e) fun v => k v h fp0
def oNilchk (x : AO) : OpR := fun _ e _ h k => vPtr (ev x e) fun b o => k (.ptr (some (b, o))) h fp0
def oPick (c a b : AO) : OpR := fun _ e _ h k => vBool (ev c e) fun t => bf t (fV (ev a e) fun v => k v h fp0) (fV (ev b e) fun v => k v h fp0)
def oFaddr (off : Nat) (x : AO) : OpR := fun _ e _ h k => vPtr (ev x e) fun b o => fN (Nat.add o off) fun o => k (.ptr (some (b, o))) h fp0
def oIaddrS (sz : Nat) (x i : AO) : OpR := fun _ e _ h k => vSlc (ev x e) fun b o n => vInt (ev i e) fun _ j => natOf j fun j => bf (Nat.blt j n) (fN (Nat.add o (Nat.mul j sz)) fun o => k (.ptr (some (b, o))) h fp0) false
def oIaddrA (n sz : Nat) (x i : AO) : OpR := fun _ e _ h k => vPtr (ev x e) fun b o => vInt (ev i e) fun _ j => natOf j fun j => bf (Nat.blt j n) (fN (Nat.add o (Nat.mul j sz)) fun o => k (.ptr (some (b, o))) h fp0) false
/-- n cells of a row from o on -/
def colK (t : PT AV) (n : Nat) (l : List AV) (o : Nat) (k : List AV → Bool) : Bool := @Nat.rec (fun _ => List AV → Nat → (List AV → Bool) → Bool) (fun _ _ k => k [])
  (fun _ ih l o k => lC l false fun x l => oC (getP t o) (fS x fun v => ih l (Nat.succ o) fun r => k (v :: r)) fun v => fV v fun v => ih l (Nat.succ o) fun r => k (v :: r)) n l o k
def oLoad (n : Option Nat) (a : AO) : OpR := fun _ e _ h k => vPtr (ev a e) fun b o => oC (get h b) false fun x => @FB.rec (fun _ => Bool) (fun m base t _ => oC n
  (oC (getP t o) (lC (base.drop o) false fun v _ => fS v fun v => k v h (.loc [b] [] none)) fun v => bf (Nat.blt o m) (fV v fun v => k v h (.loc [b] [] none)) false)
  fun n => bf (Nat.ble (Nat.add o n) m) (colK t n (base.drop o) o fun l => k (.agg l) h (.loc [b] [] none)) false) (fun _ => false) x
def sets (l : List AV) (t : PT AV) (o : Nat) (k : PT AV → Nat → Bool) : Bool := @List.rec AV (fun _ => PT AV → Nat → Bool) (fun t o => k t o) (fun v _ ih t o => fV v fun v => setP t o v fun t => ih t (Nat.succ o)) l t o
def oStore (n : Nat) (a v : AO) : OpR := fun _ e _ h k => vPtr (ev a e) fun b o => oC ((ev v e).cells) false fun cs => lenK cs 0 fun cn => bf (Nat.beq cn n)
  (oC (get h b) false fun x => @FB.rec (fun _ => Bool) (fun m base t own => bf own (bf (bf (Nat.beq o 0) (Nat.beq n m) false) (put h b (.cells m cs .nil true) fun h => k .undef h (.loc [b] [b] none))
    (bf (Nat.ble (Nat.add o n) m) (sets cs t o fun t _ => put h b (.cells m base t true) fun h => k .undef h (.loc [b] [b] none)) false)) false) (fun _ => false) x) false
def clrK (z : List AV) (n : Nat) (t : PT AV) (o : Nat) (k : PT AV → Bool) : Bool := @Nat.rec (fun _ => PT AV → Nat → Bool) (fun t _ => k t) (fun _ ih t o => sets z t o ih) n t o
def oClrS (z : List AV) (x : AO) : OpR := fun c e aid h k => @AV.casesOn (fun _ => Bool) (ev x e) false (fun _ => false) (fun _ _ => false) (fun _ => false) (fun _ => false) (fun a n _ _ _ => oC a (k (.tup []) h fp0) fun p => pC p fun b o => bf (Nat.beq n 0) (k (.tup []) h fp0)
  (oC (get h b) false fun x => @FB.rec (fun _ => Bool) (fun m base t own => bf own (lenK z 0 fun zn => bf (Nat.ble (Nat.add o (Nat.mul n zn)) m) (clrK z n t o fun t => put h b (.cells m base t true) fun h => k (.tup []) h (.loc [b] [b] none)) false) false) (fun _ => false) x))
  (fun _ => false) (fun _ _ _ => false) false (fun _ _ => false) false (fun _ => false) (fun _ => false)
/-- parts laid into a row of zn cells -/
def fillK (e : Env) (zn : Nat) (ps : List (Nat × Nat × AO)) (z : List AV) (k : List AV → Bool) : Bool := @List.rec (Nat × Nat × AO) (fun _ => List AV → Bool) k
  (fun p _ ih z => pC p fun off q => pC q fun n x => oC ((ev x e).cells) false fun cs => lenK cs 0 fun cn => bf (bf (Nat.beq cn n) (Nat.ble (Nat.add off n) zn) false) (ih (z.take off ++ cs ++ z.drop (Nat.add off n))) false) ps z
def oBuild (z : List AV) (ps : List (Nat × Nat × AO)) : OpR := fun _ e _ h k => lenK z 0 fun zn => fillK e zn ps z fun l => fL 40 l fun l => k (.agg l) h fp0

def isI64 : IntKind → Bool := @IntKind.rec (fun _ => Bool) false false false true false false false false
def gBin (op : BinOp) (x y : AV) (k : AV → Bool) : Bool := oC (binAV op x y) false fun v => fS v k
/-- two numbers of int64 that are not negative; else: as it is told -/
def two (op : BinOp) (f : Nat → Nat → (AV → Bool) → Bool → Bool) (x y : AV) (k : AV → Bool) : Bool :=
  @AV.casesOn (fun _ => Bool) x false (fun _ => false) (fun kd a => bf (isI64 kd) (@Int.rec (fun _ => Bool) (fun a => vInt y fun kd' b => bf (isI64 kd') (@Int.rec (fun _ => Bool) (fun b => f a b k (gBin op x y k)) (fun _ => gBin op x y k) b) (gBin op x y k)) (fun _ => gBin op x y k) a) (gBin op x y k))
    (fun _ => gBin op x y k) (fun _ => false) (fun _ _ _ _ _ => false) (fun _ => false) (fun _ _ _ => false) false (fun _ _ => false) false (fun _ => false) (fun _ => false)
def mx64 : Nat := 9223372036854775807
def bAdd := two .add fun a b k g => bf (Nat.ble (Nat.add a b) mx64) (fN (Nat.add a b) fun n => k (.int .i64 (.ofNat n))) g
def bSub := two .sub fun a b k g => bf (Nat.ble b a) (bf (Nat.ble a mx64) (fN (Nat.sub a b) fun n => k (.int .i64 (.ofNat n))) g) g
def bMul := two .mul fun a b k g => bf (Nat.ble (Nat.mul a b) mx64) (fN (Nat.mul a b) fun n => k (.int .i64 (.ofNat n))) g
def bEql := two .eql fun a b k _ => fB (Nat.beq a b) fun t => k (.bool t)
def bNeq := two .neq fun a b k _ => bf (Nat.beq a b) (k (.bool false)) (k (.bool true))
def bLss := two .lss fun a b k _ => fB (Nat.blt a b) fun t => k (.bool t)
def bLeq := two .leq fun a b k _ => fB (Nat.ble a b) fun t => k (.bool t)
def bGtr := two .gtr fun a b k _ => fB (Nat.blt b a) fun t => k (.bool t)
def bGeq := two .geq fun a b k _ => fB (Nat.ble b a) fun t => k (.bool t)
def binD : BinOp → AV → AV → (AV → Bool) → Bool := @BinOp.rec (fun _ => AV → AV → (AV → Bool) → Bool) bAdd bSub bMul (gBin .quo) (gBin .rem) (gBin .and) (gBin .or) (gBin .xor) (gBin .shl) (gBin .shr) (gBin .andNot) bEql bNeq bLss bLeq bGtr bGeq
def oBin (op : BinOp) (x y : AO) : OpR := fun _ e _ h k => binD op (ev x e) (ev y e) fun v => k v h fp0
def oUn (op : UnOp) (x : AO) : OpR := fun _ e _ h k => oC (unAV op (ev x e)) false fun v => fS v fun v => k v h fp0
def oLen (x : AO) : OpR := fun _ e _ h k => @AV.casesOn (fun _ => Bool) (ev x e) false (fun _ => false) (fun _ _ => false) (fun _ => false) (fun _ => false) (fun _ n _ _ _ => k (.int .i64 (.ofNat n)) h fp0) (fun _ => false) (fun _ _ _ => false) false (fun _ _ => false) false (fun _ => false) (fun _ => false)
def oExt (x : AO) (i : Nat) : OpR := fun _ e _ h k => @AV.casesOn (fun _ => Bool) (ev x e) false (fun _ => false) (fun _ _ => false) (fun _ => false) (fun _ => false) (fun _ _ _ _ _ => false) (fun _ => false) (fun _ _ _ => false) false (fun _ _ => false) false (fun _ => false) (fun l => oC (l[i]?) false fun v => fV v fun v => k v h fp0)
def oMkfn (g : FuncId) (first caps : List AO) : OpR := fun _ e _ h k => evs e first fun first => evs e caps fun caps => k (.fn (.func g) first caps) h fp0
def oAlloc (z : List AV) : OpR := fun _ _ aid h k => lenK z 0 fun n => new h aid (.cells n z .nil true) fun h => k (.ptr (some (aid, 0))) h (.loc [] [] (some aid))
def oBox (x : AO) : OpR := fun _ e aid h k => oC ((ev x e).cells) false fun cs => lenK cs 0 fun n => new h aid (.cells n cs .nil true) fun h => k (.ptr (some (aid, 0))) h (.loc [] [] (some aid))
def oCall (f : AO) (args : List AO) : OpR := fun call e _ h k => hC h fun n w m => fV (ev f e) fun f => evs e args fun args => call f args ⟨n, n, m⟩ fun v h' => hC h' fun n' w' m' => fN (@Bool.rec (fun _ => Nat) w' w (Nat.ble w w')) fun w2 => k v ⟨n', w2, m'⟩ (.call n (Nat.ble n w'))
def allBelow (p : Nat → Bool) : Nat → Bool := @Nat.rec (fun _ => Bool) true fun i r => bf (p i) r false
def oNext (it : AO) : OpR := fun _ e _ h k => vPtr (ev it e) fun r o => bf (Nat.beq o 0) (oC (get h r) false fun x => match x with
  | .other (.iter none _ _ _) => k (.tup [.bool false]) h .big
  | .other (.iter (some m) since seen last) => oC (get h m) false fun y => match y with
    | .other (.map es clock) => bf (!seen.isEmpty && !es.isEmpty && es.all (fun x => !(x.born < last))) false (bf (Nat.blt 0 (candidates es since seen).length)
        (allBelow (fun i => oC ((candidates es since seen)[i]?) false fun c => oC c (k (.tup [.bool false]) h .big) fun x => put h r (.other (.iter (some m) since (seen ++ [x.born]) clock)) fun h => k (.tup [.bool true, x.key, x.val]) h .big) (candidates es since seen).length) false)
    | _ => false
  | _ => false) false
def opD : AOp → OpR := @AOp.rec (fun _ => OpR) oMv oNilchk oPick oAlloc oBox oBuild (fun z n sz ps => gOp (.bslice z n sz ps)) oLoad oStore oBin (fun a b c d e => gOp (.eqf a b c d e)) (fun a b c => gOp (.eqp a b c)) (fun a b c d => gOp (.eqn a b c d)) oUn
  (fun a b => gOp (.conv a b)) (fun a => gOp (.convS a)) oMkfn (fun a b => gOp (.mkif a b)) (gOp .mkmap) (fun a b c d => gOp (.mkslc a b c d)) (fun a b c => gOp (.slcS a b c)) (fun a b c d e => gOp (.slc a b c d e)) (fun a b c d e f => gOp (.slcA a b c d e f)) oFaddr
  (fun a b c => gOp (.field a b c)) oIaddrA oIaddrS (fun a b c d e => gOp (.idxA a b c d e)) (fun a b => gOp (.idxS a b)) (fun a b c d e f => gOp (.look a b c d e f)) (fun a b c d e => gOp (.mapup a b c d e)) (fun a b c d => gOp (.del a b c d)) (fun a b c d e => gOp (.ment a b c d e))
  (fun a b c => gOp (.mest a b c)) (fun a => gOp (.rangeM a)) oNext oExt oCall oLen (fun a => gOp (.lenS a)) (fun a => gOp (.lenM a)) (fun a => gOp (.lenC a)) (fun a b c d => gOp (.app a b c d)) (fun a b c => gOp (.copy a b c)) oClrS (fun a => gOp (.clrM a)) (fun a b => gOp (.mnx a b)) (gOp .bad)

def putE (d : Option Nat) (e : Env) (v : AV) (k : Env → Bool) : Bool := oC d (k e) fun t => setP e t v k
def stepK (call : CfK) (aid : Nat) (o : AOper) (e : Env) (h : HK) (k : Env → HK → FP → Bool) : Bool := @AOper.rec (fun _ => Bool) (fun d op g => oC g (opD op call e aid h fun v h fp => putE d e v fun e => k e h fp)
  fun p => pC p fun t want => vBool (getE e t) fun b => bf (bf b want (bf want false true)) (opD op call e aid h fun v h fp => putE d e v fun e => k e h fp) (putE d e .undef fun e => k e h fp0)) o
def seqK (call : CfK) (l : List AOper) (e : Env) (h : HK) (k : Env → HK → Bool) : Bool := @List.rec AOper (fun _ => Env → HK → Bool) (fun e h => k e h) (fun o _ ih e h => stepK call h.next o e h fun e h _ => ih e h) l e h
def drawK (call : CfK) (base : Nat) (uno : List (Nat × Nat)) (l : List AOper) (i : Nat) (e : Env) (h : HK) (fs : PT FP) (k : Env → HK → Bool) : Bool :=
  @List.rec AOper (fun _ => Nat → Env → HK → PT FP → Bool) (fun _ e h _ => k e h) (fun o _ ih i e h fs => fN (Nat.add base i) fun aid => stepK call aid o e h fun e h fp => bf (okWith uno fs i fp) (setP fs i fp fun fs => ih (Nat.succ i) e h fs) false) l i e h fs
/-- where no pair is to be looked at -/
def draw0K (call : CfK) (base : Nat) (l : List AOper) (i : Nat) (e : Env) (h : HK) (k : Env → HK → Bool) : Bool :=
  @List.rec AOper (fun _ => Nat → Env → HK → Bool) (fun _ e h => k e h) (fun o _ ih i e h => fN (Nat.add base i) fun aid => stepK call aid o e h fun e h _ => ih (Nat.succ i) e h) l i e h

abbrev KX := EX → Env → HK → Bool
abbrev ExK := Option Nat → AC → Env → HK → KX → Bool
def xC (x : EX) (n r : Bool) (s : Nat → Bool) : Bool := @EX.rec (fun _ => Bool) n r s x
def resOneK (e : Env) (h : HK) (r : ARes) (k : AV → Bool) : Bool := @ARes.rec (fun _ => Bool) (fun t => fV (getE e t) k) (fun t n => vPtr (getE e t) fun b o => oC (get h b) false fun x => match x.abs with
  | .cells l _ => oC (partC l o n) false fun v => fW v k
  | _ => false) r
def resAllK (e : Env) (h : HK) (l : List ARes) (k : List AV → Bool) : Bool := @List.rec ARes (fun _ => (List AV → Bool) → Bool) (fun k => k []) (fun r _ ih k => resOneK e h r fun v => ih fun vs => k (v :: vs)) l k
def putsE (l : List AV) (i : Nat) (e : Env) (k : Env → Bool) : Bool := @List.rec AV (fun _ => Nat → Env → Bool) (fun _ e => k e) (fun v _ ih i e => fV v fun v => setP e i v fun e => ih (Nat.succ i) e) l i e
def zipK (e : Env) (ps : List Nat) (l : List AV) (k : Env → Bool) : Bool := @List.rec Nat (fun _ => Env → List AV → Bool) (fun e l => lC l (k e) fun _ _ => false) (fun t _ ih e l => lC l false fun v l => setP e t v fun e => ih e l) ps e l
def roundEndK (l : Nat) (x : EX) (h : HK) (k : AV → HK → Bool) : Bool := oC (get h l) false fun y => match y with
  | .other (.loop .busy _ env ps asg body) => xC x (put h l (.other (.loop .ready none env ps asg body)) fun h => k (.bool true) h) (put h l (.other (.loop .done (some .ret) env ps asg body)) fun h => k (.bool false) h)
      fun id => put h l (.other (.loop .done (some (.exit id)) env ps asg body)) fun h => k (.bool false) h
  | _ => false
def callFn (tbl : Nat → Option AFn) (ex : ExK) (args : List AV) (h : HK) (k : AV → HK → Bool) (g : Nat) (first caps : List AV) : Bool := oC (tbl g) false fun fn => @AFn.rec (fun _ => Bool) (fun nt res body =>
  bf (Nat.ble ((first ++ args) ++ caps).length nt) (putsE ((first ++ args) ++ caps) 0 .nil fun e => ex none body e h fun x e h => xC x (resAllK e h res fun vs => fV (tupOf vs) fun v => k v h) (resAllK e h res fun vs => fV (tupOf vs) fun v => k v h) fun _ => false) false) fn
def callYield (ex : ExK) (args : List AV) (h : HK) (k : AV → HK → Bool) (l : Nat) : Bool := oC (get h l) false fun y => match y with
  | .other (.loop .ready _ env ps asg body) => zipK env ps args fun e => ex (some l) asg e h fun x e h => xC x (oC (get h l) false fun y => match y with
      | .other (.loop .ready p env ps asg body') => put h l (.other (.loop .busy p env ps asg body')) fun h => ex (some l) body e h fun x _ h => roundEndK l x h k
      | _ => false) false fun _ => false
  | _ => false
def callK (tbl : Nat → Option AFn) (ex : ExK) : CfK := fun f args h k => match f with
  | .fn (.func g) first caps => callFn tbl ex args h k g first caps
  | .fn (.yield l) [] [] => callYield ex args h k l
  | _ => false
def isLoop (h : HK) (rnd : Option Nat) : Bool := oC rnd true fun l => oC (get h l) false fun y => match y with
  | .other (.loop ..) => true
  | _ => false
abbrev CD := (Nat → Option AFn) → ExK → Option Nat → Env → HK → KX → Bool
def xSkip : CD := fun _ _ _ e h k => k .normal e h
def xSeq (a b : AC) : CD := fun _ ex rnd e h k => ex rnd a e h fun x e h => xC x (ex rnd b e h k) (k .ret e h) fun id => k (.exit id) e h
def xCond (c : AO) (a b : AC) : CD := fun _ ex rnd e h k => vBool (ev c e) fun t => bf t (ex rnd a e h k) (ex rnd b e h k)
def xBlock (id : Nat) (b : AC) : CD := fun _ ex rnd e h k => ex rnd b e h fun x e h => xC x (k .normal e h) (k .ret e h) fun id' => bf (Nat.beq id' id) (k .normal e h) (k (.exit id') e h)
def xLoop (b : AC) : CD := fun _ ex rnd e h k => ex rnd b e h fun x e h => xC x (ex rnd (.loop b) e h k) (k .ret e h) fun id => k (.exit id) e h
def xRegion (ops : List AOper) : CD := fun tbl ex _ e h k => seqK (callK tbl ex) ops e h fun e h => k .normal e h
def xDraw (ops : List AOper) (uno : List (Nat × Nat)) : CD := fun tbl ex _ e h k => hC h fun n w m => fN (Nat.add n ops.length) fun n' => lC uno (draw0K (callK tbl ex) n ops 0 e ⟨n', w, m⟩ fun e h => k .normal e h) fun _ _ => drawK (callK tbl ex) n uno ops 0 e ⟨n', w, m⟩ .nil fun e h => k .normal e h
def xEnd (ex : ExK) (rnd : Option Nat) (e : Env) (k : KX) (n : Nat) (h' : HK) : Bool := oC (get h' n) false fun y => match y with
  | .other (.loop .busy ..) => false
  | .other (.loop _ pend env ps asg body) => put h' n (.other (.loop .exhausted pend env ps asg body)) fun h => oC pend (k .normal e h) fun c => ex rnd c e h k
  | _ => false
def xGo (tbl : Nat → Option AFn) (ex : ExK) (rnd : Option Nat) (f : AO) (e : Env) (k : KX) (n : Nat) (h1 : HK) : Bool := fV (ev f e) fun fv => callK tbl ex fv [.fn (.yield n) [] []] h1 fun _ h' => xEnd ex rnd e k n h'
def xRange (f : AO) (ps : List Nat) (asg body : AC) : CD := fun tbl ex rnd e h k => bf (isLoop h rnd && (ev f e).isFunc) (hC h fun n w m => new ⟨n, w, m⟩ n (.other (.loop .ready none e ps asg body)) fun h1 => xGo tbl ex rnd f e k n h1) false
def codeD : AC → CD := @AC.rec (fun _ => CD) xSkip (fun a b _ _ => xSeq a b) (fun c a b _ _ => xCond c a b) (fun id b _ => xBlock id b) (fun b _ => xLoop b) (fun b _ => fun _ ex rnd e h k => ex rnd b e h k) (fun id => fun _ _ _ e h k => k (.exit id) e h) (fun _ _ _ e h k => k .ret e h) xRegion xDraw
  (fun f ps asg body _ _ => xRange f ps asg body) (fun _ _ _ _ _ _ => false)
def exec (tbl : Nat → Option AFn) : Nat → ExK := @Nat.rec (fun _ => ExK) (fun _ _ _ _ _ => false) fun _ ih rnd c e h k => codeD c tbl ih rnd e h k
def isTr (v : AV) : Bool := vBool v fun b => b
/-- a run of a function without arguments that ends in true -/
def run (tbl : Nat → Option AFn) (n g : Nat) : Bool := callK tbl (exec tbl n) (.fn (.func g) [] []) [] ⟨0, 0, .nil⟩ fun v _ => isTr v
end
end K
end Go.Ax
