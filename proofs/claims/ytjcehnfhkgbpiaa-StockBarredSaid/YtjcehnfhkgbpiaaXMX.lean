/-
  The machine's operations over a function of temporaries; more rounds tell the same.
  Judgements over the machine's runs: what holds at each end, told over a function of temporaries and a list of blocks.
  Judgements over code: sequences, conditions, blocks, loops, calls of functions.
  Operations on numbers and rows, in the judgements.
  Judgements: ranges over functions.
  Judgements: rows of numbers that are written.
  Judgements: loops that leave most temporaries alone; rows of any things that lie in cells.
  Judgements: maps, told by lists of keys and values.
  Judgements: short words for the arguments of rules that are found by search.
  Arguments that are read alone: rows of numbers and of pairs, laid for the abstract machine.
  Judgements: blocks in another order, ranges over functions, known comparisons, parts of rows, whole rows appended; operations that say which blocks they touch.
  Judgements: more rules and small facts that every chapter needs.
-/
import Derived.Test.YtjcehnfhkgbpiaaXMK
import Derived.Test.YtjcehnfhkgbpiaaXMC
import Derived.IntWalk
import Derived.Test.YtjcehnfhkgbpiaaXMD
import Derived.ChangeSlices
import Derived.ChangeArms
import Derived.WideShapes
import Derived.OpenShut
set_option linter.unusedVariables false
set_option linter.unusedSimpArgs false
section
namespace Go.Ax
namespace T
variable {α β : Type}
def sub (x y : T α) : Prop := ∀ Q : α → Prop, x.all Q → y.all Q
theorem sub.refl (x : T α) : sub x x := fun _ h => h
theorem sub.trans {x y z : T α} (h : sub x y) (k : sub y z) : sub x z := fun Q hx => k Q (h Q hx)
theorem sub.fail (y : T α) : sub .fail y := fun _ h => h.elim
theorem sub.bind {x y : T α} {f g : α → T β} (h : sub x y) (k : ∀ a, sub (f a) (g a)) : sub (x.bind f) (y.bind g) := fun Q hx =>
  (all_bind _ _).2 (h _ (all_mono (fun a ha => k a Q ha) ((all_bind _ _).1 hx)))
theorem all_fuel {P : Nat → α → Prop} (hm : ∀ n m a, n ≤ m → P n a → P m a) {x : T α} (h : x.all fun a => ∃ n, P n a) : ∃ n, x.all (P n) := by
  induction x with
  | ret a => exact h
  | fail => exact h.elim
  | ask n k ih =>
    have h2 : ∀ i, ∃ N, i < n → (k i).all (P N) := fun i => by
      by_cases hi : i < n
      · obtain ⟨N, hN⟩ := ih i (h.2 i hi); exact ⟨N, fun _ => hN⟩
      · exact ⟨0, fun h => absurd h hi⟩
    have h3 : ∀ m, m ≤ n → ∃ N, ∀ i, i < m → (k i).all (P N) := by
      intro m
      induction m with
      | zero => exact fun _ => ⟨0, fun i hi => absurd hi (Nat.not_lt_zero i)⟩
      | succ m ihm =>
        intro hm'
        obtain ⟨N, hN⟩ := ihm (Nat.le_of_succ_le hm')
        obtain ⟨M, hM⟩ := h2 m
        refine ⟨max N M, fun i hi => ?_⟩
        by_cases he : i = m
        · subst he; exact all_mono (fun a ha => hm _ _ a (Nat.le_max_right _ _) ha) (hM hm')
        · exact all_mono (fun a ha => hm _ _ a (Nat.le_max_left _ _) ha) (hN i (by omega))
    obtain ⟨N, hN⟩ := h3 n (Nat.le_refl n)
    exact ⟨N, h.1, hN⟩
end T
def Ex.sub (ex ex' : Ex) : Prop := ∀ rnd c e h, T.sub (ex rnd c e h) (ex' rnd c e h)
def Cf.sub (f g : AV → List AV → H → T (AV × H)) : Prop := ∀ v l h, T.sub (f v l h) (g v l h)
theorem callF_sub {tbl : Nat → Option AFn} {ex ex' : Ex} (hx : Ex.sub ex ex') : Cf.sub (callF tbl ex) (callF tbl ex') := by
  intro f args h
  unfold callF
  split
  · split
    · exact T.sub.refl _
    · generalize Nat.ble _ _ = b
      cases b
      · exact T.sub.refl _
      · exact T.sub.bind (hx _ _ _ _) fun _ => T.sub.refl _
  · split
    · split
      · exact T.sub.refl _
      · refine T.sub.bind (hx _ _ _ _) fun ⟨x, e, h⟩ => ?_
        cases x with
        | normal =>
          dsimp only
          split
          · exact T.sub.bind (hx _ _ _ _) fun _ => T.sub.refl _
          · exact T.sub.refl _
        | ret => exact T.sub.refl _
        | exit id => exact T.sub.refl _
    · exact T.sub.refl _
  · exact T.sub.refl _
theorem kind_sub {f g : AV → List AV → H → T (AV × H)} (hf : Cf.sub f g) (aid : Nat) (k : Kind) (h : H) : T.sub (k.run f aid h) (k.run g aid h) := by
  cases k with
  | call v l => exact T.sub.bind (hf _ _ _) fun _ => T.sub.refl _
  | _ => exact T.sub.refl _
theorem stepG_sub {f g : AV → List AV → H → T (AV × H)} (hf : Cf.sub f g) (aid : Nat) (o : AOper) (s : St) : T.sub (stepG f aid o s) (stepG g aid o s) :=
  T.sub.bind (kind_sub hf _ _ _) fun _ => T.sub.refl _
theorem runSeq_sub {f g : AV → List AV → H → T (AV × H)} (hf : Cf.sub f g) : ∀ (l : List AOper) (s : St), T.sub (runSeq f l s) (runSeq g l s)
  | [], _ => T.sub.refl _
  | _ :: l, _ => T.sub.bind (stepG_sub hf _ _ _) fun _ => runSeq_sub hf l _
theorem runFP_sub {f g : AV → List AV → H → T (AV × H)} (hf : Cf.sub f g) (base : Nat) (ops : List AOper) (uno : List (Nat × Nat)) : ∀ (l : List Nat) (s : St) (fs : PT FP), T.sub (runFP f base ops uno l s fs) (runFP g base ops uno l s fs)
  | [], _, _ => T.sub.refl _
  | i :: l, s, fs => by
    refine T.sub.bind ?_ fun _ => runFP_sub hf base ops uno l _ _
    unfold step1
    split
    · exact T.sub.refl _
    · exact T.sub.bind (stepG_sub hf _ _ _) fun _ => T.sub.refl _
theorem step_sub {tbl : Nat → Option AFn} {ex ex' : Ex} (hx : Ex.sub ex ex') : Ex.sub (step tbl ex) (step tbl ex') := by
  intro rnd c e h
  cases c with
  | skip | exit | ret | bad => exact T.sub.refl _
  | seq a b =>
    refine T.sub.bind (hx _ _ _ _) fun ⟨x, e, h⟩ => ?_
    cases x <;> first | exact hx _ _ _ _ | exact T.sub.refl _
  | cond c a b =>
    simp only [step]
    split
    · rename_i t _
      cases t
      · exact hx _ _ _ _
      · exact hx _ _ _ _
    · exact T.sub.refl _
  | block id b => exact T.sub.bind (hx _ _ _ _) fun _ => T.sub.refl _
  | loop b =>
    refine T.sub.bind (hx _ _ _ _) fun ⟨x, e, h⟩ => ?_
    cases x <;> first | exact hx _ _ _ _ | exact T.sub.refl _
  | scope b => exact hx _ _ _ _
  | region ops => exact T.sub.bind (runSeq_sub (callF_sub hx) _ _) fun _ => T.sub.refl _
  | draw ops uno => exact T.sub.bind (runFP_sub (callF_sub hx) _ _ _ _ _ _) fun _ => T.sub.refl _
  | rangeF f ps asg body =>
    simp only [step]
    split
    · exact T.sub.refl _
    · refine T.sub.bind (callF_sub hx _ _ _) fun ⟨v, h'⟩ => ?_
      dsimp only
      split
      · exact T.sub.refl _
      · split
        · exact T.sub.refl _
        · exact hx _ _ _ _
      · exact T.sub.refl _
theorem exec_sub (tbl : Nat → Option AFn) : ∀ n, Ex.sub (exec tbl n) (exec tbl (n + 1))
  | 0 => fun _ _ _ _ => T.sub.fail _
  | n + 1 => step_sub (exec_sub tbl n)
theorem exec_le (tbl : Nat → Option AFn) {n m : Nat} (h : n ≤ m) : Ex.sub (exec tbl n) (exec tbl m) := by
  induction h with
  | refl => exact fun _ _ _ _ => T.sub.refl _
  | step _ ih => exact fun r c e h => (ih r c e h).trans (exec_sub tbl _ r c e h)
abbrev FE := Nat → AV
def setE (E : FE) (t : Nat) (v : AV) : FE := fun j => bif Nat.beq j t then v else E j
def fput (E : FE) : Option Nat → AV → FE
  | none, _ => E
  | some t, v => setE E t v
def argE : List AV → FE
  | [], _ => .undef
  | a :: _, 0 => a
  | _ :: l, t + 1 => argE l t
def Env.fn (e : Env) : FE := fun t => e.get t
theorem Env.fn_put (e : Env) (d : Option Nat) (v : AV) : (e.put d v).fn = fput e.fn d v := by
  cases d with
  | none => rfl
  | some t =>
    funext j
    show (e.put (some t) v).get j = bif Nat.beq j t then v else e.get j
    rw [Env.get_put_some]
    by_cases h : j = t
    · subst h; rw [if_pos rfl, Nat.beq_refl]; rfl
    · rw [if_neg h]; have : Nat.beq j t = false := by cases hb : Nat.beq j t with | false => rfl | true => exact absurd (Nat.eq_of_beq_eq_true hb) h
      rw [this]; rfl
theorem Env.get_puts (l : List AV) : ∀ (e : Env) (i j : Nat), (Env.puts e i l).get j = if i ≤ j ∧ j < i + l.length then (l[j - i]?).getD .undef else e.get j := by
  induction l with
  | nil => intro e i j; simp only [Env.puts, List.length_nil]; rw [if_neg (by omega)]
  | cons a l ih =>
    intro e i j
    simp only [Env.puts, List.length_cons]
    rw [ih]
    by_cases h1 : i + 1 ≤ j ∧ j < i + 1 + l.length
    · rw [if_pos h1, if_pos (by omega)]
      obtain ⟨k, rfl⟩ : ∃ k, j = i + 1 + k := ⟨j - (i + 1), by omega⟩
      have e1 : i + 1 + k - (i + 1) = k := by omega
      have e2 : i + 1 + k - i = k + 1 := by omega
      rw [e1, e2]; rfl
    · rw [if_neg h1]
      have h2 : Env.get (PT.set e i a) j = if j = i then a else e.get j := Env.get_put_some e i j a
      rw [h2]
      by_cases h3 : j = i
      · subst h3; rw [if_pos rfl, if_pos (by omega)]; simp
      · rw [if_neg h3, if_neg (by omega)]
theorem argE_get : ∀ (l : List AV) (j : Nat), argE l j = (l[j]?).getD .undef
  | [], _ => rfl
  | _ :: _, 0 => rfl
  | _ :: l, j + 1 => argE_get l j
theorem Env.fn_ofArgs (l : List AV) : (Env.ofArgs l).fn = argE l := by
  funext j
  show (Env.puts .nil 0 l).get j = argE l j
  rw [Env.get_puts, argE_get]
  by_cases h : j < l.length
  · rw [if_pos (by omega)]; rfl
  · rw [if_neg (by omega), List.getElem?_eq_none (by omega)]; rfl
def xev (E : FE) : AO → AV
  | .tmp t => E t
  | .const v => v
  | .func f => .fn (.func f) [] []
theorem ev_eq' (e : Env) (x : AO) : x.ev e = xev e.fn x := by cases x <;> rfl
def fillF (E : FE) : List AV → List (Nat × Nat × AO) → Option (List AV)
  | z, [] => some z
  | z, (off, n, x) :: ps =>
    match (xev E x).cells with
    | some cs => if cs.length = n ∧ off + n ≤ z.length then fillF E (z.take off ++ cs ++ z.drop (off + n)) ps else none
    | none => none
theorem fill_eq (e : Env) : ∀ (z : List AV) (ps : List (Nat × Nat × AO)), fillC e z ps = fillF e.fn z ps
  | _, [] => rfl
  | z, (off, n, x) :: ps => by
    simp only [fillC, fillF, ev_eq', fill_eq e]
    rfl
def opLocF (o : AOp) (E : FE) : Loc :=
  match o with
  | .mv x => .val (some (xev E x))
  | .nilchk x => .val (match xev E x with | .ptr (some a) => some (.ptr (some a)) | _ => none)
  | .pick c a b => .val (match xev E c with | .bool true => some (xev E a) | .bool false => some (xev E b) | _ => none)
  | .build z ps => .val ((fillF E z ps).map .agg)
  | .bin op x y => .val (binAV op (xev E x) (xev E y))
  | .eqf neg ag ks x y => .val ((eqAV ag ks (xev E x) (xev E y)).map fun b => .bool (b != neg))
  | .eqp neg x y => .val ((eqPtr (xev E x) (xev E y)).map fun b => .bool (b != neg))
  | .eqn neg kd x y => .val ((eqNil kd (xev E x) (xev E y)).map fun b => .bool (b != neg))
  | .un op x => .val (unAV op (xev E x))
  | .conv k x => .val (match xev E x with | .int _ n => some (.int k (k.wrap n)) | _ => none)
  | .convS x => .val (match xev E x with | .str n => some (.str n) | _ => none)
  | .mkfn g first caps => .val (some (.fn (.func g) (first.map (xev E ·)) (caps.map (xev E ·))))
  | .mkif t x => .val (some (.iface t (xev E x)))
  | .slcS x lo hi => .val (match xev E x with
    | .str s => (bounds3 s.size s.size (lo.map (xev E ·)) (hi.map (xev E ·)) none).map fun (l, h, _) => .str (s.extract l h)
    | _ => none)
  | .slc sz x lo hi mx => .val (match xev E x with
    | .slc a len cap ex es => (bounds3 len cap (lo.map (xev E ·)) (hi.map (xev E ·)) (mx.map (xev E ·))).bind fun (l, h, m) =>
        match a with
        | none => some (.slc none (h - l) (m - l) (ex || mx.isSome) es)
        | some a => bif Nat.beq es 0 || Nat.beq es sz then some (.slc (some (moved a l sz)) (h - l) (m - l) (ex || mx.isSome) es) else none
    | _ => none)
  | .slcA n sz x lo hi mx => .val (match xev E x with
    | .ptr (some a) => (bounds3 n n (lo.map (xev E ·)) (hi.map (xev E ·)) (mx.map (xev E ·))).bind fun (l, h, m) =>
        some (.slc (some (moved a l sz)) (h - l) (m - l) true 0)
    | _ => none)
  | .faddr off x => .val (match xev E x with | .ptr (some a) => some (.ptr (some (a.1, a.2 + off))) | _ => none)
  | .field off n x => .val (match xev E x with | .agg l => partC l off n | _ => none)
  | .iaddrA n sz x i => .val (match xev E x, xev E i with
    | .ptr (some a), .int _ j => if 0 ≤ j ∧ j < (n : Int) then some (.ptr (some (moved a j.toNat sz))) else none
    | _, _ => none)
  | .iaddrS sz x i => .val (match xev E x, xev E i with
    | .slc (some a) len _ _ _, .int _ j => if 0 ≤ j ∧ j < (len : Int) then some (.ptr (some (moved a j.toNat sz))) else none
    | _, _ => none)
  | .idxA n sz m x i => .val (match xev E x, xev E i with
    | .agg l, .int _ j => if 0 ≤ j ∧ j < (n : Int) then partC l (j.toNat * sz) m else none
    | _, _ => none)
  | .idxS x i => .val (match xev E x, xev E i with
    | .str s, .int _ j => if 0 ≤ j then (s[j.toNat]?).map fun b => .int .u8 b.toNat else none
    | _, _ => none)
  | .ext x i => .val (match xev E x with | .tup l => l[i]? | _ => none)
  | .len x => .val (match xev E x with
    | .slc _ n _ _ _ => some (.int .i64 n)
    | _ => none)
  | .lenS x => .val (match xev E x with
    | .str s => some (.int .i64 s.size)
    | _ => none)
  | .lenC n => .val (some (.int .i64 n))
  | .mnx mx l => .val (minmax mx (l.map (xev E ·)))
  | .lenM x => match xev E x with
    | .map none => .val (some (.int .i64 0))
    | .map (some r) => ⟨[r], fun
      | [.map es _] => some (.int .i64 es.length, [], none)
      | _ => none⟩
    | _ => .no
  | .alloc z => ⟨[], fun _ => some (.undef, [], some (.cells z true))⟩
  | .box x => match (xev E x).cells with
    | some l => ⟨[], fun _ => some (.undef, [], some (.cells l true))⟩
    | none => .no
  | .bslice z n sz ps => match fillF E z ps with
    | some l => ⟨[], fun _ => some (.slc none n n true sz, [], some (.cells l true))⟩
    | none => .no
  | .mkmap => ⟨[], fun _ => some (.map none, [], some (.map [] 0))⟩
  | .mkslc z bytes len cap => match xev E len, xev E cap with
    | .int .i64 l, .int .i64 c =>
      if 0 ≤ l ∧ l ≤ c ∧ (bytes : Int) * c ≤ room then ⟨[], fun _ => some (.slc none l.toNat c.toNat true z.length, [], some (.cells ((List.replicate c.toNat z).flatten) true))⟩ else .no
    | _, _ => .no
  | .load n a => match xev E a with
    | .ptr (some (b, o)) => ⟨[b], fun
      | [.cells l _] => (partC l o n).map fun v => (v, [], none)
      | _ => none⟩
    | _ => .no
  | .store n a v => match xev E a, (xev E v).cells with
    | .ptr (some (b, o)), some cs => if cs.length = n then ⟨[b], fun
      | [.cells l true] => if o + n ≤ l.length then some (.undef, [(b, .cells (splice l o cs) true)], none) else none
      | _ => none⟩ else .no
    | _, _ => .no
  | .look ag ks z m k ok => match xev E m with
    | .map none => .val (if keyOk ag ks (xev E k) then some (bif ok then .tup [z, .bool false] else z) else none)
    | .map (some r) => ⟨[r], fun
      | [.map es _] => if keyOk ag ks (xev E k) then (findE ag ks (xev E k) es 0).map fun
          | some (_, v) => (bif ok then .tup [v, .bool true] else v, [], none)
          | none => (bif ok then .tup [z, .bool false] else z, [], none) else none
      | _ => none⟩
    | _ => .no
  | .mapup ag ks m k v => match xev E m with
    | .map (some r) => ⟨[r], fun
      | [.map es c] => if keyOk ag ks (xev E k) then (findE ag ks (xev E k) es 0).map fun
          | some (i, _) => (.undef, [(r, .map (es.modify i fun x => { x with key := xev E k, val := xev E v }) c)], none)
          | none => (.undef, [(r, .map (es ++ [⟨xev E k, xev E v, c⟩]) (c + 1))], none) else none
      | _ => none⟩
    | _ => .no
  | .ment ag ks z m k => match xev E m with
    | .map (some r) => ⟨[r], fun
      | [.map es c] => if keyOk ag ks (xev E k) then (findE ag ks (xev E k) es 0).map fun
          | some (i, v) => (.tup [v, .int .i64 (((es[i]?).map (·.born)).getD 0 : Nat)], [(r, .map (es.modify i fun x => { x with key := xev E k }) c)], none)
          | none => (.tup [z, .int .i64 (c : Nat)], [(r, .map (es ++ [⟨xev E k, z, c⟩]) (c + 1))], none) else none
      | _ => none⟩
    | _ => .no
  | .mest m s v => match xev E m, xev E s with
    | .map (some r), .int _ b => ⟨[r], fun
      | [.map es c] => match es.findIdx? (fun x => decide ((x.born : Int) = b)) with
          | some i => some (.undef, [(r, .map (es.modify i fun x => { x with val := xev E v }) c)], none)
          | none => none
      | _ => none⟩
    | _, _ => .no
  | .del ag ks m k => match xev E m with
    | .map none => .val (if keyOk ag ks (xev E k) then some (.tup []) else none)
    | .map (some r) => ⟨[r], fun
      | [.map es c] => if keyOk ag ks (xev E k) then (findE ag ks (xev E k) es 0).map fun
          | some (i, _) => (.tup [], [(r, .map (es.eraseIdx i) c)], none)
          | none => (.tup [], [(r, .map es c)], none) else none
      | _ => none⟩
    | _ => .no
  | .rangeM x => match xev E x with
    | .map none => ⟨[], fun _ => some (.undef, [], some (.iter none 0 [] 0))⟩
    | .map (some r) => ⟨[r], fun
      | [.map _ c] => some (.undef, [], some (.iter (some r) c [] c))
      | _ => none⟩
    | _ => .no
  | .app sz bytes s x => match xev E s, xev E x with
    | .slc sa sl sc sx es, .slc xa xl _ _ _ =>
      if (3 * (sl + xl) + 2000) * bytes ≤ room then
        if xl = 0 then .val (some (.slc sa sl sc sx es)) else
        match sa, xa with
        | none, some (xb, xo) => if sl = 0 then ⟨[xb], fun
            | [.cells l _] => if xo + xl * sz ≤ l.length then some (.slc none xl xl false sz, [], some (.cells ((l.drop xo).take (xl * sz)) true)) else none
            | _ => none⟩ else .no
        | some (sb, so), some (xb, xo) => ⟨[sb, xb], fun
            | [.cells l own, .cells l' _] =>
              if so + sl * sz ≤ l.length ∧ xo + xl * sz ≤ l'.length ∧ ((sx = true ∧ sl = sc) ∨ (own = true ∧ es = sz)) then
                some (.slc none (sl + xl) (sl + xl) false sz, bif sx && Nat.beq sl sc then [] else [(sb, .dead)],
                  some (.cells ((l.drop so).take (sl * sz) ++ (l'.drop xo).take (xl * sz)) true)) else none
            | _ => none⟩
        | _, _ => .no
      else .no
    | _, _ => .no
  | .copy sz d s => match xev E d, xev E s with
    | .slc (some (db, dz)) dl _ _ _, .slc (some (sb, so)) sl _ _ _ => ⟨[db, sb], fun
      | [.cells l true, .cells l' _] =>
        if dz + min sl dl * sz ≤ l.length ∧ so + min sl dl * sz ≤ l'.length then
          some (.int .i64 (min sl dl : Nat), [(db, .cells (splice l dz ((l'.drop so).take (min sl dl * sz))) true)], none) else none
      | _ => none⟩
    | .slc none _ _ _ _, .slc _ _ _ _ _ => .val (some (.int .i64 0))
    | .slc _ _ _ _ _, .slc none _ _ _ _ => .val (some (.int .i64 0))
    | _, _ => .no
  | .clrS z x => match xev E x with
    | .slc none _ _ _ _ => .val (some (.tup []))
    | .slc (some (b, o)) n _ _ _ => if n = 0 then .val (some (.tup [])) else ⟨[b], fun
      | [.cells l true] => if o + n * z.length ≤ l.length then some (.tup [], [(b, .cells (splice l o ((List.replicate n z).flatten)) true)], none) else none
      | _ => none⟩
    | _ => .no
  | .clrM x => match xev E x with
    | .map none => .val (some (.tup []))
    | .map (some r) => ⟨[r], fun
      | [.map _ c] => some (.tup [], [(r, .map [] c)], none)
      | _ => none⟩
    | _ => .no
  | .next _ _ | .call _ _ | .bad => .no
theorem opLoc_eq (o : AOp) (e : Env) : opLoc o e = opLocF o e.fn := by
  cases o <;> simp only [opLoc, opLocF, ev_eq', fill_eq] <;> rfl
end Go.Ax
end
section
namespace Go.Ax
abbrev Hp := List (Nat × ABlk)
structure Has (h : H) (F : Hp) : Prop where
  get : ∀ p ∈ F, h.get p.1 = some p.2
  lt : ∀ p ∈ F, p.1 < h.next
  nd : (F.map (·.1)).Nodup
theorem Has.sub {h : H} {F F' : Hp} (k : Has h F) (hs : F'.Sublist F) : Has h F' :=
  ⟨fun p hp => k.get p (hs.subset hp), fun p hp => k.lt p (hs.subset hp), k.nd.sublist (hs.map _)⟩
theorem Has.wmin {h : H} {F : Hp} (k : Has h F) (w : Nat) : Has { h with wmin := w } F := ⟨k.get, k.lt, k.nd⟩
theorem Has.nil (h : H) : Has h [] := ⟨fun _ h => (by cases h), fun _ h => (by cases h), List.Pairwise.nil⟩
theorem Has.new {h : H} {F : Hp} (k : Has h F) {b : Nat} (x : ABlk) (hb : ∀ p ∈ F, p.1 ≠ b) : Has (h.new b x) ((b, x) :: F) := by
  refine ⟨fun p hp => ?_, fun p hp => ?_, ?_⟩
  · rw [H.get_new]
    rcases List.mem_cons.1 hp with rfl | hp
    · rw [if_pos rfl]
    · rw [if_neg (hb p hp)]; exact k.get p hp
  · show p.1 < max h.next (b + 1)
    rcases List.mem_cons.1 hp with rfl | hp
    · show b < _; omega
    · have := k.lt p hp; omega
  · refine List.nodup_cons.2 ⟨?_, k.nd⟩
    intro hm
    obtain ⟨p, hp, he⟩ := List.mem_map.1 hm
    exact hb p hp he
inductive Upd : Hp → Nat → ABlk → ABlk → Hp → Prop
  | head {F b x y} : Upd ((b, x) :: F) b x y ((b, y) :: F)
  | tail {p F b x y F'} : Upd F b x y F' → Upd (p :: F) b x y (p :: F')
inductive Rem : Hp → Nat → ABlk → Hp → Prop
  | head {F b x} : Rem ((b, x) :: F) b x F
  | tail {p F b x F'} : Rem F b x F' → Rem (p :: F) b x (p :: F')
theorem Upd.app {G F : Hp} {b : Nat} {x y : ABlk} {F' : Hp} (h : Upd F b x y F') : Upd (G ++ F) b x y (G ++ F') := by
  induction G with
  | nil => exact h
  | cons p G ih => exact .tail ih
theorem Upd.ids {F b x y F'} (h : Upd F b x y F') : F'.map (·.1) = F.map (·.1) := by
  induction h with
  | head => rfl
  | tail _ ih => simp only [List.map_cons, ih]
theorem Upd.mem {F b x y F'} (h : Upd F b x y F') : (b, x) ∈ F := by
  induction h with
  | head => exact List.mem_cons_self ..
  | tail _ ih => exact List.mem_cons_of_mem _ ih
theorem Upd.cases {F b x y F'} (h : Upd F b x y F') (nd : (F.map (·.1)).Nodup) : ∀ p ∈ F', p = (b, y) ∨ (p ∈ F ∧ p.1 ≠ b) := by
  induction h with
  | head =>
    intro p hp
    rcases List.mem_cons.1 hp with rfl | hp
    · exact .inl rfl
    · refine .inr ⟨List.mem_cons_of_mem _ hp, fun he => ?_⟩
      exact (List.nodup_cons.1 nd).1 (List.mem_map.2 ⟨p, hp, he⟩)
  | @tail q F b x y F' hu ih =>
    intro p hp
    rcases List.mem_cons.1 hp with rfl | hp
    · refine .inr ⟨List.mem_cons_self .., fun he => ?_⟩
      exact (List.nodup_cons.1 nd).1 (List.mem_map.2 ⟨(b, x), hu.mem, he.symm⟩)
    · rcases ih (List.nodup_cons.1 nd).2 p hp with h1 | ⟨h1, h2⟩
      · exact .inl h1
      · exact .inr ⟨List.mem_cons_of_mem _ h1, h2⟩
theorem Has.put {h : H} {F F' : Hp} {b : Nat} {x y : ABlk} (k : Has h F) (hu : Upd F b x y F') : Has (h.put b y) F' := by
  have hc := hu.cases k.nd
  refine ⟨fun p hp => ?_, fun p hp => ?_, hu.ids ▸ k.nd⟩
  · rw [H.get_put]
    rcases hc p hp with rfl | ⟨h1, h2⟩
    · rw [if_pos rfl]
    · rw [if_neg h2]; exact k.get p h1
  · rcases hc p hp with rfl | ⟨h1, _⟩
    · exact k.lt (b, x) hu.mem
    · exact k.lt p h1
theorem Rem.mem {F b x F'} (h : Rem F b x F') : (b, x) ∈ F := by
  induction h with
  | head => exact List.mem_cons_self ..
  | tail _ ih => exact List.mem_cons_of_mem _ ih
theorem Rem.sub {F b x F'} (h : Rem F b x F') : F'.Sublist F := by
  induction h with
  | head => exact List.sublist_cons_self ..
  | tail _ ih => exact ih.cons_cons _
theorem Rem.ne {F b x F'} (h : Rem F b x F') (nd : (F.map (·.1)).Nodup) : ∀ p ∈ F', p.1 ≠ b := by
  induction h with
  | head => exact fun p hp he => (List.nodup_cons.1 nd).1 (List.mem_map.2 ⟨p, hp, he⟩)
  | @tail q F b x F' hr ih =>
    intro p hp
    rcases List.mem_cons.1 hp with rfl | hp
    · exact fun he => (List.nodup_cons.1 nd).1 (List.mem_map.2 ⟨(b, x), hr.mem, he.symm⟩)
    · exact ih (List.nodup_cons.1 nd).2 p hp
theorem Has.rem {h : H} {F F' : Hp} {b : Nat} {x y : ABlk} (k : Has h F) (hr : Rem F b x F') : Has (h.put b y) F' := by
  have k' := k.sub hr.sub
  refine ⟨fun p hp => ?_, k'.lt, k'.nd⟩
  rw [H.get_put, if_neg (hr.ne k.nd p hp)]
  exact k'.get p hp
def New (n : Nat) (F F' : Hp) : Prop := ∀ p ∈ F', (∃ q ∈ F, q.1 = p.1) ∨ n ≤ p.1
theorem New.refl (n : Nat) (F : Hp) : New n F F := fun p hp => .inl ⟨p, hp, rfl⟩
theorem New.sub {n : Nat} {F F' F'' : Hp} (h : New n F F') (hs : F''.Sublist F') : New n F F'' := fun p hp => h p (hs.subset hp)
theorem New.trans {n m : Nat} {F F' F'' : Hp} (h : New n F F') (k : New m F' F'') (hn : n ≤ m) : New n F F'' := fun p hp => by
  rcases k p hp with ⟨q, hq, he⟩ | hm
  · rw [← he]; exact h q hq
  · exact .inr (Nat.le_trans hn hm)
structure End (lo n : Nat) (F : Hp) (h : H) (F' : Hp) : Prop where
  has : Has h F'
  next : n ≤ h.next
  wmin : lo ≤ h.wmin
  new : New n F F'
theorem End.trans {lo n m : Nat} {F F' F'' : Hp} {h h' : H} (a : End lo n F h F') (b : End lo m F' h' F'') (hm : h.next ≤ m) : End lo n F h' F'' :=
  ⟨b.has, Nat.le_trans a.next (Nat.le_trans hm b.next), b.wmin, a.new.trans b.new (Nat.le_trans a.next hm)⟩
inductive Cls where
  | n | r | call | a | x
  | own (l : List Nat)
def FPc (bd : Nat) (fp : FP) : Cls → Prop
  | .n => fp = .loc [] [] none
  | .r => ∃ rd, fp = .loc rd [] none ∧ ∀ b ∈ rd, b < bd
  | .call => ∃ l, fp = .call l true ∧ bd ≤ l
  | .a => ∃ b, fp = .loc [] [] (some b) ∧ bd ≤ b
  | .x => True
  | .own l => ∃ r w n, fp = .loc r w n ∧ ∀ b ∈ r ++ w ++ n.toList, b ∈ l
theorem apart_iff {l l' : List Nat} : apartL l l' = true ↔ ∀ x ∈ l, x ∉ l' := by
  simp [apartL, List.all_eq_true]
def okP : Cls → Cls → Bool
  | .n, _ => true
  | _, .n => true
  | .r, .r => true
  | .r, .call => true
  | .call, .r => true
  | .call, .a => true
  | .r, .a => true
  | .a, .r => true
  | .own l, .own l' => apartL l l'
  | _, _ => false
theorem all_lt {rd : List Nat} {bd l : Nat} (h : ∀ b ∈ rd, b < bd) (hl : bd ≤ l) : rd.all (Nat.blt · l) = true := by
  rw [List.all_eq_true]
  intro b hb
  have := h b hb
  exact Nat.ble_eq_true_of_le (by omega : b + 1 ≤ l)
theorem okP_ok {bd : Nat} {f g : FP} {cf cg : Cls} (hf : FPc bd f cf) (hg : FPc bd g cg) (h : okP cf cg = true) : f.compat g = true := by
  have hn : ∀ {f g : FP}, f = .loc [] [] none → f.compat g = true := by
    rintro f g rfl
    show (true || _ || _) = true
    rfl
  have hn' : ∀ {f g : FP}, g = .loc [] [] none → f.compat g = true := by
    rintro f g rfl
    show (f.none || true || _) = true
    rw [Bool.or_true]; rfl
  revert h
  cases cf with
  | n => exact fun _ => hn hf
  | x => cases cg with
    | n => exact fun _ => hn' hg
    | _ => exact fun h => nomatch h
  | a => cases cg with
    | n => exact fun _ => hn' hg
    | r =>
      intro _
      obtain ⟨b, rfl, h2⟩ := hf; obtain ⟨r1, rfl, h1⟩ := hg
      have e1 : apartL [b] r1 = true := by
        simp only [apartL, List.all_cons, List.all_nil, Bool.and_true, Bool.not_eq_true', List.contains_eq_mem, decide_eq_false_iff_not]
        exact fun hb => by have := h1 b hb; omega
      show (_ || _ || (apartL [b] (r1 ++ [] ++ []) && apartL [] [])) = true
      rw [List.append_nil, List.append_nil, e1]
      exact Bool.or_true _
    | _ => exact fun h => nomatch h
  | r => cases cg with
    | n => exact fun _ => hn' hg
    | r =>
      intro _
      obtain ⟨r1, rfl, _⟩ := hf; obtain ⟨r2, rfl, _⟩ := hg
      show (_ || _ || true) = true
      exact Bool.or_true _
    | call =>
      intro _
      obtain ⟨r1, rfl, h1⟩ := hf; obtain ⟨l, rfl, h2⟩ := hg
      show (_ || _ || (true && r1.all (Nat.blt · l))) = true
      rw [all_lt h1 h2]
      exact Bool.or_true _
    | a =>
      intro _
      obtain ⟨r1, rfl, h1⟩ := hf; obtain ⟨b, rfl, h2⟩ := hg
      have e1 : apartL [b] r1 = true := by
        simp only [apartL, List.all_cons, List.all_nil, Bool.and_true, Bool.not_eq_true', List.contains_eq_mem, decide_eq_false_iff_not]
        exact fun hb => by have := h1 b hb; omega
      show (_ || _ || (apartL [] ([] ++ [] ++ [b]) && apartL ([] ++ [b]) r1)) = true
      rw [show ([] ++ [b] : List Nat) = [b] from rfl, e1]
      exact Bool.or_true _
    | _ => exact fun h => nomatch h
  | call => cases cg with
    | n => exact fun _ => hn' hg
    | r =>
      intro _
      obtain ⟨l, rfl, h2⟩ := hf; obtain ⟨r1, rfl, h1⟩ := hg
      show (_ || _ || (true && r1.all (Nat.blt · l))) = true
      rw [all_lt h1 h2]
      exact Bool.or_true _
    | a =>
      intro _
      obtain ⟨l, rfl, _⟩ := hf; obtain ⟨b, rfl, _⟩ := hg
      show (_ || _ || true) = true
      exact Bool.or_true _
    | _ => exact fun h => nomatch h
  | own l => cases cg with
    | n => exact fun _ => hn' hg
    | own l' =>
      intro h
      have h : apartL l l' = true := h
      rw [apart_iff] at h
      obtain ⟨r, w, n, rfl, h1⟩ := hf
      obtain ⟨r', w', n', rfl, h2⟩ := hg
      have e1 : apartL (w ++ n.toList) (r' ++ w' ++ n'.toList) = true := by
        rw [apart_iff]
        intro x hx hx'
        refine h x (h1 x ?_) (h2 x hx')
        simp only [List.mem_append] at hx ⊢
        rcases hx with hx | hx
        · exact .inl (.inr hx)
        · exact .inr hx
      have e2 : apartL (w' ++ n'.toList) r = true := by
        rw [apart_iff]
        intro x hx hx'
        refine h x (h1 x ?_) (h2 x ?_)
        · simp only [List.mem_append]; exact .inl (.inl hx')
        · simp only [List.mem_append] at hx ⊢
          rcases hx with hx | hx
          · exact .inl (.inr hx)
          · exact .inr hx
      show (_ || _ || (apartL (w ++ n.toList) (r' ++ w' ++ n'.toList) && apartL (w' ++ n'.toList) r)) = true
      rw [e1, e2]
      exact Bool.or_true _
    | _ => exact fun h => nomatch h
def okC (uno : List (Nat × Nat)) (cs : List Cls) (i : Nat) (c : Cls) : Bool :=
  uno.all fun (a, b) =>
    (bif Nat.beq a i then (match cs[b]? with | some g => okP c g | none => true) else true) &&
    (bif Nat.beq b i then (match cs[a]? with | some g => okP g c | none => true) else true)
def FsOk (bd : Nat) (fs : PT FP) (cs : List Cls) : Prop := ∀ j g, fs.get j = some g → ∃ c, cs[j]? = some c ∧ FPc bd g c
theorem okC_ok {bd : Nat} {uno : List (Nat × Nat)} {cs : List Cls} {fs : PT FP} {i : Nat} {fp : FP} {c : Cls} (hs : FsOk bd fs cs) (hf : FPc bd fp c) (h : okC uno cs i c = true) : okWith uno fs i fp = true := by
  unfold okWith
  unfold okC at h
  rw [List.all_eq_true] at h ⊢
  rintro ⟨a, b⟩ hp
  have h1 := h (a, b) hp
  simp only [Bool.and_eq_true] at h1 ⊢
  refine ⟨?_, ?_⟩
  · cases ha : Nat.beq a i with
    | false => rfl
    | true =>
      have h2 := h1.1
      rw [ha] at h2
      simp only [cond_true] at h2 ⊢
      cases hg : fs.get b with
      | none => rfl
      | some g =>
        obtain ⟨d, hd, hF⟩ := hs b g hg
        rw [hd] at h2
        exact okP_ok hf hF h2
  · cases ha : Nat.beq b i with
    | false => rfl
    | true =>
      have h2 := h1.2
      rw [ha] at h2
      simp only [cond_true] at h2 ⊢
      cases hg : fs.get a with
      | none => rfl
      | some g =>
        obtain ⟨d, hd, hF⟩ := hs a g hg
        rw [hd] at h2
        exact okP_ok hF hf h2
section
variable (tbl : Nat → Option AFn)
structure W1 (lo bd : Nat) (o : AOper) (E : FE) (F : Hp) (R : FE → Hp → Cls → Prop) : Prop where
  run : ∀ (e : Env) (h : H) (aid : Nat), e.fn = E → Has h F → (∀ p ∈ F, p.1 ≠ aid) → lo ≤ aid → lo ≤ h.next → lo ≤ h.wmin → bd ≤ aid → bd ≤ h.next →
    ∃ n, (stepG (callF tbl (exec tbl n)) aid o (e, h)).all fun r => ∃ F' c, Has r.1.2 F' ∧ h.next ≤ r.1.2.next ∧ lo ≤ r.1.2.wmin ∧ FPc bd r.2 c ∧
      (∀ p ∈ F', (∃ q ∈ F, q.1 = p.1) ∨ p.1 = aid ∨ h.next ≤ p.1) ∧ R r.1.1.fn F' c
structure Wo (lo : Nat) (ops : List AOper) (E : FE) (F : Hp) (Q : FE → Hp → Prop) : Prop where
  run : ∀ (e : Env) (h : H), e.fn = E → Has h F → lo ≤ h.next → lo ≤ h.wmin →
    ∃ n, (runSeq (callF tbl (exec tbl n)) ops (e, h)).all fun s => ∃ F', End lo h.next F s.2 F' ∧ Q s.1.fn F'
structure Wd (lo bd : Nat) (uno : List (Nat × Nat)) (cs : List Cls) (rest : List AOper) (E : FE) (F : Hp) (Q : FE → Hp → Prop) : Prop where
  run : ∀ (base : Nat) (ops : List AOper), ops.drop cs.length = rest → base = bd → ∀ (e : Env) (h : H) (fs : PT FP), e.fn = E → Has h F →
    (∀ k, cs.length ≤ k → k < ops.length → ∀ p ∈ F, p.1 ≠ base + k) → lo ≤ base → base + ops.length ≤ h.next → lo ≤ h.wmin → FsOk bd fs cs →
    ∃ n, (runFP (callF tbl (exec tbl n)) base ops uno (List.range' cs.length rest.length) (e, h) fs).all fun s => ∃ F', Has s.2 F' ∧ h.next ≤ s.2.next ∧ lo ≤ s.2.wmin ∧
      (∀ p ∈ F', (∃ q ∈ F, q.1 = p.1) ∨ base ≤ p.1) ∧ Q s.1.fn F'
structure Ws (lo : Nat) (rnd : Option Nat) (c : AC) (E : FE) (F : Hp) (Q : EX → FE → Hp → Prop) : Prop where
  run : ∀ (e : Env) (h : H), e.fn = E → Has h F → lo ≤ h.next → lo ≤ h.wmin →
    ∃ n, (exec tbl n rnd c e h).all fun r => ∃ F', End lo h.next F r.2.2 F' ∧ Q r.1 r.2.1.fn F'
structure Fn (lo : Nat) (f : AV) (args : List AV) (F : Hp) (Q : AV → Hp → Prop) : Prop where
  run : ∀ (h : H), Has h F → lo ≤ h.next → lo ≤ h.wmin → ∃ n, (callF tbl (exec tbl n) f args h).all fun r => ∃ F', End lo h.next F r.2 F' ∧ Q r.1 F'
end
variable {tbl : Nat → Option AFn} {lo bd : Nat} {rnd : Option Nat} {E : FE} {F : Hp}
theorem Fn.mono {f : AV} {args : List AV} {Q Q' : AV → Hp → Prop} (hq : ∀ v F', Q v F' → Q' v F') (h : Fn tbl lo f args F Q) : Fn tbl lo f args F Q' := ⟨fun h0 a b c => by
  obtain ⟨n, hn⟩ := h.run h0 a b c
  exact ⟨n, T.all_mono (fun r ⟨F', e, q⟩ => ⟨F', e, hq _ _ q⟩) hn⟩⟩
theorem Ws.mono {c : AC} {Q Q' : EX → FE → Hp → Prop} (hq : ∀ r E' F', Q r E' F' → Q' r E' F') (h : Ws tbl lo rnd c E F Q) : Ws tbl lo rnd c E F Q' := ⟨fun e h0 a b c d => by
  obtain ⟨n, hn⟩ := h.run e h0 a b c d
  exact ⟨n, T.all_mono (fun r ⟨F', e, q⟩ => ⟨F', e, hq _ _ _ q⟩) hn⟩⟩
theorem Ws.weak {F' : Hp} {c : AC} {Q : EX → FE → Hp → Prop} (hs : F'.Sublist F) (h : Ws tbl lo rnd c E F' Q) : Ws tbl lo rnd c E F Q := ⟨fun e h0 a b c d => by
  obtain ⟨n, hn⟩ := h.run e h0 a (b.sub hs) c d
  refine ⟨n, T.all_mono (fun r ⟨F'', e, q⟩ => ⟨F'', ⟨e.has, e.next, e.wmin, fun p hp => ?_⟩, q⟩) hn⟩
  rcases e.new p hp with ⟨q, hq, he⟩ | h
  · exact .inl ⟨q, hs.subset hq, he⟩
  · exact .inr h⟩
theorem End.refl {h : H} (k : Has h F) (hw : lo ≤ h.wmin) : End lo h.next F h F := ⟨k, Nat.le_refl _, hw, New.refl _ _⟩
def isLoc : AOp → Bool
  | .call .. | .next .. => false
  | _ => true
theorem kind_loc {op : AOp} (h : isLoc op = true) (e : Env) : op.kind e = .loc (opLocF op e.fn) := by
  cases op <;> first | exact congrArg Kind.loc (opLoc_eq _ e) | cases h
theorem W1.loc {d : Option Nat} {op : AOp} {R : FE → Hp → Cls → Prop} (hl : isLoc op = true)
    (k : ∀ (h : H) (aid : Nat), Has h F → (∀ p ∈ F, p.1 ≠ aid) → lo ≤ aid → lo ≤ h.wmin → bd ≤ aid → ∃ v h' fp F' c, (opLocF op E).run aid h = some (v, h', fp) ∧ Has h' F' ∧ h.next ≤ h'.next ∧ lo ≤ h'.wmin ∧
      FPc bd fp c ∧ (∀ p ∈ F', (∃ q ∈ F, q.1 = p.1) ∨ p.1 = aid ∨ h.next ≤ p.1) ∧ R (fput E d v) F' c) : W1 tbl lo bd ⟨d, op, none⟩ E F R := by
  refine ⟨fun e h aid he hF ha hlo _ hw hba _ => ?_⟩
  obtain ⟨v, h', fp, F', c, hr, h1, h2, h3, h4, h5, h6⟩ := k h aid hF ha hlo hw hba
  refine ⟨0, ?_⟩
  have e1 : AOper.kind ⟨d, op, none⟩ e = .loc (opLocF op E) := by rw [← he]; exact kind_loc hl e
  simp only [stepG, e1, Kind.run, hr, T.ofOpt, T.bind, T.all]
  refine ⟨F', c, h1, h2, h3, h4, h5, ?_⟩
  rw [Env.fn_put, he]
  exact h6
theorem W1.val {d : Option Nat} {op : AOp} {R : FE → Hp → Cls → Prop} {v : AV} (hv : opLocF op E = .val (some v)) (k : R (fput E d v) F .n) (hl : isLoc op = true := by rfl) : W1 tbl lo bd ⟨d, op, none⟩ E F R :=
  W1.loc hl fun h _ hF _ _ hw _ => ⟨v, h, .loc [] [] none, F, .n, by rw [hv]; rfl, hF, Nat.le_refl _, hw, rfl, fun p hp => .inl ⟨p, hp, rfl⟩, k⟩
theorem W1.split {d : Option Nat} {op : AOp} {R : FE → Hp → Cls → Prop} {b : Bool} (hv : opLocF op E = .val (some (.bool b))) (ht : b = true → R (fput E d (.bool true)) F .n) (hf : b = false → R (fput E d (.bool false)) F .n) (hl : isLoc op = true := by rfl) : W1 tbl lo bd ⟨d, op, none⟩ E F R :=
  W1.val hv (by cases b; exact hf rfl; exact ht rfl) hl
theorem W1.dec {d : Option Nat} {op : AOp} {R : FE → Hp → Cls → Prop} {p : Prop} [Decidable p] (hv : opLocF op E = .val (some (.bool (decide p)))) (ht : p → R (fput E d (.bool true)) F .n) (hf : ¬p → R (fput E d (.bool false)) F .n) (hl : isLoc op = true := by rfl) : W1 tbl lo bd ⟨d, op, none⟩ E F R :=
  W1.split hv (fun h => ht (of_decide_eq_true h)) (fun h => hf (of_decide_eq_false h)) hl
theorem W1.wrap {d : Option Nat} {op : AOp} {R : FE → Hp → Cls → Prop} {kd : IntKind} {z : Int} (hv : opLocF op E = .val (some (.int kd (kd.wrap z)))) (hz : kd.wrap z = z) (k : R (fput E d (.int kd z)) F .n) (hl : isLoc op = true := by rfl) : W1 tbl lo bd ⟨d, op, none⟩ E F R :=
  W1.val hv (by rw [hz]; exact k) hl
theorem W1.new {d : Option Nat} {op : AOp} {R : FE → Hp → Cls → Prop} {v : AV} {x : ABlk} (hv : opLocF op E = ⟨[], fun _ => some (v, [], some x)⟩) (k : ∀ b, lo ≤ b → R (fput E d (atNew b v)) ((b, x) :: F) .a) (hl : isLoc op = true := by rfl) : W1 tbl lo bd ⟨d, op, none⟩ E F R :=
  W1.loc hl fun h aid hF ha hlo hw hba => ⟨_, h.new aid x, .loc [] [] (some aid), (aid, x) :: F, .a, by rw [hv]; rfl, hF.new x ha, by show h.next ≤ max h.next (aid + 1); omega, hw, ⟨aid, rfl, hba⟩,
    fun p hp => by
      rcases List.mem_cons.1 hp with rfl | hp
      · exact .inr (.inl rfl)
      · exact .inl ⟨p, hp, rfl⟩, k aid hlo⟩
theorem W1.rd {d : Option Nat} {op : AOp} {R : FE → Hp → Cls → Prop} {b : Nat} {f : List ABlk → Option (AV × List (Nat × ABlk) × Option ABlk)} {x : ABlk} {v : AV} (hv : opLocF op E = ⟨[b], f⟩) (hm : (b, x) ∈ F) (hf : f [x] = some (v, [], none)) (k : R (fput E d v) F .x) (hl : isLoc op = true := by rfl) : W1 tbl lo bd ⟨d, op, none⟩ E F R :=
  W1.loc hl fun h _ hF _ _ hw _ => ⟨v, h, .loc [b] [] none, F, .x, by rw [hv]; simp only [Loc.run, getAll, hF.get _ hm, hf]; rfl, hF, Nat.le_refl _, hw, trivial, fun p hp => .inl ⟨p, hp, rfl⟩, k⟩
theorem W1.rdR {d : Option Nat} {op : AOp} {R : FE → Hp → Cls → Prop} {b : Nat} {f : List ABlk → Option (AV × List (Nat × ABlk) × Option ABlk)} {x : ABlk} {v : AV} (hv : opLocF op E = ⟨[b], f⟩) (hm : (b, x) ∈ F) (hf : f [x] = some (v, [], none)) (hb : b < bd) (k : R (fput E d v) F .r) (hl : isLoc op = true := by rfl) : W1 tbl lo bd ⟨d, op, none⟩ E F R :=
  W1.loc hl fun h _ hF _ _ hw _ => ⟨v, h, .loc [b] [] none, F, .r, by rw [hv]; simp only [Loc.run, getAll, hF.get _ hm, hf]; rfl, hF, Nat.le_refl _, hw, ⟨[b], rfl, fun c hc => by rw [List.mem_singleton.1 hc]; exact hb⟩, fun p hp => .inl ⟨p, hp, rfl⟩, k⟩
theorem W1.wr {d : Option Nat} {op : AOp} {R : FE → Hp → Cls → Prop} {b : Nat} {f : List ABlk → Option (AV × List (Nat × ABlk) × Option ABlk)} {x y : ABlk} {v : AV} {F' : Hp} (hv : opLocF op E = ⟨[b], f⟩) (hu : Upd F b x y F') (hf : f [x] = some (v, [(b, y)], none)) (hb : lo ≤ b) (k : R (fput E d v) F' .x) (hl : isLoc op = true := by rfl) : W1 tbl lo bd ⟨d, op, none⟩ E F R :=
  W1.loc hl fun h _ hF _ _ hw _ => ⟨v, h.put b y, .loc [b] [b] none, F', .x, by rw [hv]; simp only [Loc.run, getAll, hF.get _ hu.mem, hf]; rfl, hF.put hu, Nat.le_refl _, by show lo ≤ min h.wmin b; omega, trivial,
    fun p hp => by
      have h1 : p.1 ∈ F.map (·.1) := by rw [← hu.ids]; exact List.mem_map.2 ⟨p, hp, rfl⟩
      obtain ⟨q, hq, he⟩ := List.mem_map.1 h1
      exact .inl ⟨q, hq, he⟩, k⟩
theorem W1.load {d : Option Nat} {R : FE → Hp → Cls → Prop} {n : Option Nat} {a : AO} {b o : Nat} {l : List AV} {own : Bool} {v : AV} (ha : xev E a = .ptr (some (b, o))) (hm : (b, .cells l own) ∈ F) (hv : partC l o n = some v) (k : R (fput E d v) F .x) : W1 tbl lo bd ⟨d, .load n a, none⟩ E F R := by
  refine W1.rd (b := b) (x := .cells l own) (f := fun | [.cells l _] => (partC l o n).map fun v => (v, [], none) | _ => none) ?_ hm ?_ k
  · simp only [opLocF, ha] <;> rfl
  · simp only [hv, Option.map_some]
theorem W1.loadR {d : Option Nat} {R : FE → Hp → Cls → Prop} {n : Option Nat} {a : AO} {b o : Nat} {l : List AV} {own : Bool} {v : AV} (ha : xev E a = .ptr (some (b, o))) (hm : (b, .cells l own) ∈ F) (hv : partC l o n = some v) (hb : b < bd) (k : R (fput E d v) F .r) : W1 tbl lo bd ⟨d, .load n a, none⟩ E F R := by
  refine W1.rdR (b := b) (x := .cells l own) (f := fun | [.cells l _] => (partC l o n).map fun v => (v, [], none) | _ => none) ?_ hm ?_ hb k
  · simp only [opLocF, ha] <;> rfl
  · simp only [hv, Option.map_some]
theorem W1.store {d : Option Nat} {R : FE → Hp → Cls → Prop} {n : Nat} {a v : AO} {b o : Nat} {l cs : List AV} {F' : Hp} (ha : xev E a = .ptr (some (b, o))) (hc : (xev E v).cells = some cs) (hn : cs.length = n) (hu : Upd F b (.cells l true) (.cells (splice l o cs) true) F') (ho : o + n ≤ l.length) (hb : lo ≤ b) (k : R (fput E d .undef) F' .x) : W1 tbl lo bd ⟨d, .store n a v, none⟩ E F R := by
  refine W1.wr (b := b) (x := .cells l true) (y := .cells (splice l o cs) true) (f := fun | [.cells l true] => if o + n ≤ l.length then some (.undef, [(b, .cells (splice l o cs) true)], none) else none | _ => none) ?_ hu ?_ hb k
  · simp only [opLocF, ha, hc, if_pos hn] <;> rfl
  · simp only [if_pos ho]
theorem W1.iaddr {d : Option Nat} {R : FE → Hp → Cls → Prop} {sz : Nat} {x i : AO} {b o len cap es : Nat} {ex : Bool} {kd : IntKind} {j : Nat} (hx : xev E x = .slc (some (b, o)) len cap ex es) (hi : xev E i = .int kd (j : Nat)) (hj : j < len) (k : R (fput E d (.ptr (some (b, o + j * sz)))) F .n) : W1 tbl lo bd ⟨d, .iaddrS sz x i, none⟩ E F R := by
  refine W1.val (v := .ptr (some (b, o + j * sz))) ?_ k
  simp only [opLocF, hx, hi, if_pos (show (0 : Int) ≤ (j : Int) ∧ (j : Int) < (len : Int) by omega)]
  rfl
theorem W1.skip {d : Option Nat} {op : AOp} {R : FE → Hp → Cls → Prop} {t : Nat} {w b : Bool} (hg : E t = .bool b) (hw : (b == w) = false) (k : R (fput E d (.tup [])) F .n) : W1 tbl lo bd ⟨d, op, some (t, w)⟩ E F R := by
  refine ⟨fun e h aid he hF _ _ _ hw' _ _ => ?_⟩
  refine ⟨0, ?_⟩
  have e1 : AOper.kind ⟨d, op, some (t, w)⟩ e = .skip := by
    simp only [AOper.kind, show e.get t = .bool b by rw [← hg, ← he]; rfl, hw, cond_false]
  simp only [stepG, e1, Kind.run, T.bind, T.all]
  refine ⟨F, .n, hF, Nat.le_refl _, hw', rfl, fun p hp => .inl ⟨p, hp, rfl⟩, ?_⟩
  rw [Env.fn_put, he]
  exact k
theorem W1.skip2 {d : Option Nat} {op : AOp} {R : FE → Hp → Cls → Prop} {t : Nat} {w : Bool} (hg : E t = .tup []) (k : R (fput E d (.tup [])) F .n) : W1 tbl lo bd ⟨d, op, some (t, w)⟩ E F R := by
  refine ⟨fun e h aid he hF _ _ _ hw' _ _ => ?_⟩
  refine ⟨0, ?_⟩
  have e1 : AOper.kind ⟨d, op, some (t, w)⟩ e = .skip := by
    simp only [AOper.kind, show e.get t = .tup [] by rw [← hg, ← he]; rfl]
  simp only [stepG, e1, Kind.run, T.bind, T.all]
  refine ⟨F, .n, hF, Nat.le_refl _, hw', rfl, fun p hp => .inl ⟨p, hp, rfl⟩, ?_⟩
  rw [Env.fn_put, he]
  exact k
theorem W1.go {d : Option Nat} {op : AOp} {R : FE → Hp → Cls → Prop} {t : Nat} {w b : Bool} (hg : E t = .bool b) (hw : (b == w) = true) (k : W1 tbl lo bd ⟨d, op, none⟩ E F R) : W1 tbl lo bd ⟨d, op, some (t, w)⟩ E F R := by
  refine ⟨fun e h aid he => ?_⟩
  have e1 : AOper.kind ⟨d, op, some (t, w)⟩ e = AOper.kind ⟨d, op, none⟩ e := by
    simp only [AOper.kind, show e.get t = .bool b by rw [← hg, ← he]; rfl, hw, cond_true]
  have := k.run e h aid he
  unfold stepG at this ⊢
  rw [e1]
  exact this
theorem W1.callM {d : Option Nat} {R : FE → Hp → Cls → Prop} {f : AO} {args : List AO} {fv : AV} {as : List AV} (hf : xev E f = fv) (ha : args.map (xev E) = as) (hc : Fn tbl lo fv as F (fun v F' => R (fput E d v) F' .x)) : W1 tbl lo bd ⟨d, .call f args, none⟩ E F R := by
  refine ⟨fun e h aid he hF _ _ hn hw _ _ => ?_⟩
  obtain ⟨n, hn'⟩ := hc.run { h with wmin := h.next } (hF.wmin _) hn hn
  refine ⟨n, ?_⟩
  have e1 : AOper.kind ⟨d, .call f args, none⟩ e = .call fv as := by
    show Kind.call (f.ev e) (args.map (·.ev e)) = _
    rw [ev_eq', he, hf, ← ha]
    congr 1
    exact List.map_congr_left fun x _ => by rw [ev_eq', he]
  unfold stepG
  rw [T.all_bind, e1]
  show ((callF tbl (exec tbl n) fv as { h with wmin := h.next }).bind _).all _
  rw [T.all_bind]
  refine T.all_mono ?_ hn'
  rintro ⟨v, h'⟩ ⟨F', hE, hR⟩
  refine ⟨F', .x, hE.has.wmin _, hE.next, ?_, trivial, fun p hp => ?_, ?_⟩
  · have : lo ≤ h'.wmin := hE.wmin
    show lo ≤ min h.wmin h'.wmin
    omega
  · rcases hE.new p hp with h1 | h1
    · exact .inl h1
    · exact .inr (.inr h1)
  · rw [Env.fn_put, he]
    exact hR
theorem W1.call {d : Option Nat} {R : FE → Hp → Cls → Prop} {f : AO} {args : List AO} {fv : AV} {as : List AV} (hf : xev E f = fv) (ha : args.map (xev E) = as) (hc : ∀ lo', lo ≤ lo' → Fn tbl lo' fv as F (fun v F' => R (fput E d v) F' .call)) : W1 tbl lo bd ⟨d, .call f args, none⟩ E F R := by
  refine ⟨fun e h aid he hF _ _ hn hw _ hbd => ?_⟩
  obtain ⟨n, hn'⟩ := (hc h.next hn).run { h with wmin := h.next } (hF.wmin _) (Nat.le_refl _) (Nat.le_refl _)
  refine ⟨n, ?_⟩
  have e1 : AOper.kind ⟨d, .call f args, none⟩ e = .call fv as := by
    show Kind.call (f.ev e) (args.map (·.ev e)) = _
    rw [ev_eq', he, hf, ← ha]
    congr 1
    exact List.map_congr_left fun x _ => by rw [ev_eq', he]
  unfold stepG
  rw [T.all_bind, e1]
  show ((callF tbl (exec tbl n) fv as { h with wmin := h.next }).bind _).all _
  rw [T.all_bind]
  refine T.all_mono ?_ hn'
  rintro ⟨v, h'⟩ ⟨F', hE, hR⟩
  have hq : h.next ≤ h'.wmin := hE.wmin
  refine ⟨F', .call, hE.has.wmin _, hE.next, ?_, ⟨h.next, ?_, hbd⟩, fun p hp => ?_, ?_⟩
  · show lo ≤ min h.wmin h'.wmin
    omega
  · show FP.call h.next (Nat.ble h.next h'.wmin) = _
    rw [Nat.ble_eq_true_of_le hq]
  · rcases hE.new p hp with h1 | h1
    · exact .inl h1
    · exact .inr (.inr h1)
  · rw [Env.fn_put, he]
    exact hR
theorem Wo.nil {Q : FE → Hp → Prop} (h : Q E F) : Wo tbl lo [] E F Q := ⟨fun e h0 he hF _ hw => ⟨0, F, End.refl hF hw, by rw [he]; exact h⟩⟩
theorem Wo.cons {o : AOper} {l : List AOper} {Q : FE → Hp → Prop} (h : W1 tbl lo 0 o E F fun E' F' _ => Wo tbl lo l E' F' Q) : Wo tbl lo (o :: l) E F Q := by
  refine ⟨fun e h0 he hF hlo hw => ?_⟩
  obtain ⟨n, hn⟩ := h.run e h0 h0.next he hF (fun p hp => Nat.ne_of_lt (hF.lt p hp)) hlo hlo hw (Nat.zero_le _) (Nat.zero_le _)
  have h1 : (stepG (callF tbl (exec tbl n)) h0.next o (e, h0)).all fun r => ∃ m, (runSeq (callF tbl (exec tbl m)) l r.1).all fun s => ∃ F', End lo h0.next F s.2 F' ∧ Q s.1.fn F' := by
    refine T.all_mono ?_ hn
    rintro ⟨⟨e1, h1⟩, fp⟩ ⟨F', c, hH, h2, h3, _, h5, h6⟩
    obtain ⟨m, hm⟩ := h6.run e1 h1 rfl hH (Nat.le_trans hlo h2) h3
    refine ⟨m, T.all_mono ?_ hm⟩
    rintro s ⟨F'', hE, hQ⟩
    refine ⟨F'', ?_, hQ⟩
    refine End.trans (h := h1) (m := h1.next) ⟨hH, h2, h3, fun p hp => ?_⟩ hE (Nat.le_refl _)
    rcases h5 p hp with h | h | h
    · exact .inl h
    · exact .inr (by omega)
    · exact .inr h
  obtain ⟨m, hm⟩ := T.all_fuel (P := fun m (r : St × FP) => (runSeq (callF tbl (exec tbl m)) l r.1).all fun (s : St) => ∃ F', End lo h0.next F s.2 F' ∧ Q s.1.fn F')
    (fun a b (r : St × FP) hab hr => runSeq_sub (callF_sub (exec_le tbl hab)) l r.1 _ hr) h1
  refine ⟨max n m, ?_⟩
  show ((stepG (callF tbl (exec tbl (max n m))) h0.next o (e, h0)).bind _).all _
  rw [T.all_bind]
  refine stepG_sub (callF_sub (exec_le tbl (Nat.le_max_left n m))) _ _ _ _ (T.all_mono ?_ hm)
  intro r hr
  exact runSeq_sub (callF_sub (exec_le tbl (Nat.le_max_right n m))) l r.1 _ hr
theorem Wd.nil {uno : List (Nat × Nat)} {cs : List Cls} {Q : FE → Hp → Prop} (h : Q E F) : Wd tbl lo bd uno cs [] E F Q :=
  ⟨fun base ops _ _ e h0 fs he hF _ _ _ hw _ => ⟨0, F, hF, Nat.le_refl _, hw, fun p hp => .inl ⟨p, hp, rfl⟩, by rw [he]; exact h⟩⟩
theorem Wd.cons {uno : List (Nat × Nat)} {cs : List Cls} {o : AOper} {l : List AOper} {Q : FE → Hp → Prop}
    (h : W1 tbl lo bd o E F fun E' F' c => ((F'.map (·.1)).Nodup → okC uno cs cs.length c = true) ∧ Wd tbl lo bd uno (cs ++ [c]) l E' F' Q) : Wd tbl lo bd uno cs (o :: l) E F Q := by
  refine ⟨fun base ops hd hb e h0 fs he hF hfr hlo hbd hw hfs => ?_⟩
  have hlen : cs.length < ops.length := by
    have := congrArg List.length hd
    rw [List.length_drop, List.length_cons] at this
    omega
  have hget : ops[cs.length]? = some o := by
    have : (ops.drop cs.length)[0]? = some o := by rw [hd]; rfl
    rw [List.getElem?_drop] at this
    exact this
  have hdl : ops.drop (cs.length + 1) = l := by
    rw [← List.drop_drop, hd]; rfl
  obtain ⟨n, hn⟩ := h.run e h0 (base + cs.length) he hF (hfr _ (Nat.le_refl _) hlen) (by omega) (by omega) hw (by omega) (by omega)
  have h1 : (step1 (callF tbl (exec tbl n)) base ops uno cs.length (e, h0) fs).all fun r => ∃ m, (runFP (callF tbl (exec tbl m)) base ops uno (List.range' (cs.length + 1) l.length) r.1 r.2).all fun s => ∃ F', Has s.2 F' ∧ h0.next ≤ s.2.next ∧ lo ≤ s.2.wmin ∧
      (∀ p ∈ F', (∃ q ∈ F, q.1 = p.1) ∨ base ≤ p.1) ∧ Q s.1.fn F' := by
    unfold step1
    rw [hget]
    show ((stepG _ _ _ _).bind _).all _
    rw [T.all_bind]
    refine T.all_mono ?_ hn
    rintro ⟨⟨e1, h1⟩, fp⟩ ⟨F', c, hH, h2, h3, h4, h5, h6, h7⟩
    show T.all _ (bif okWith uno fs cs.length fp then _ else _)
    rw [okC_ok hfs h4 (h6 hH.nd)]
    have hl1 : (cs ++ [c]).length = cs.length + 1 := by simp
    have hfs' : FsOk bd (fs.set cs.length fp) (cs ++ [c]) := by
      intro j g hj
      rw [PT.get_set] at hj
      split at hj
      · rename_i he'
        cases hj
        subst he'
        exact ⟨c, by simp, h4⟩
      · obtain ⟨d, hd, hF⟩ := hfs j g hj
        exact ⟨d, by rw [List.getElem?_append_left (List.getElem?_eq_some_iff.1 hd).1]; exact hd, hF⟩
    obtain ⟨m, hm⟩ := h7.run base ops (by rw [hl1]; exact hdl) hb e1 h1 (fs.set cs.length fp) rfl hH (fun k hk hk2 p hp => by
      rw [hl1] at hk
      rcases h5 p hp with ⟨q, hq, hqe⟩ | h | h
      · rw [← hqe]; exact hfr k (by omega) hk2 q hq
      · omega
      · omega) hlo (Nat.le_trans hbd h2) h3 hfs'
    rw [hl1] at hm
    refine ⟨m, T.all_mono ?_ hm⟩
    rintro s ⟨F'', ha, hb', hc, hd', hQ⟩
    refine ⟨F'', ha, Nat.le_trans h2 hb', hc, fun p hp => ?_, hQ⟩
    rcases hd' p hp with ⟨q, hq, hqe⟩ | h
    · rcases h5 q hq with ⟨q', hq', he'⟩ | h | h
      · exact .inl ⟨q', hq', he'.trans hqe⟩
      · exact .inr (by omega)
      · exact .inr (by omega)
    · exact .inr h
  obtain ⟨m, hm⟩ := T.all_fuel (P := fun m (r : St × PT FP) => (runFP (callF tbl (exec tbl m)) base ops uno (List.range' (cs.length + 1) l.length) r.1 r.2).all fun (s : St) => ∃ F', Has s.2 F' ∧ h0.next ≤ s.2.next ∧ lo ≤ s.2.wmin ∧
      (∀ p ∈ F', (∃ q ∈ F, q.1 = p.1) ∨ base ≤ p.1) ∧ Q s.1.fn F')
    (fun a b (r : St × PT FP) hab hr => runFP_sub (callF_sub (exec_le tbl hab)) base ops uno _ r.1 r.2 _ hr) h1
  refine ⟨max n m, ?_⟩
  rw [List.length_cons, List.range'_succ]
  show ((step1 (callF tbl (exec tbl (max n m))) base ops uno cs.length (e, h0) fs).bind _).all _
  rw [T.all_bind]
  have hs : T.sub (step1 (callF tbl (exec tbl n)) base ops uno cs.length (e, h0) fs) (step1 (callF tbl (exec tbl (max n m))) base ops uno cs.length (e, h0) fs) := by
    unfold step1
    rw [hget]
    exact T.sub.bind (stepG_sub (callF_sub (exec_le tbl (Nat.le_max_left n m))) _ _ _) fun _ => T.sub.refl _
  refine hs _ (T.all_mono ?_ hm)
  intro r hr
  exact runFP_sub (callF_sub (exec_le tbl (Nat.le_max_right n m))) base ops uno _ r.1 r.2 _ hr
end Go.Ax
end
section
namespace Go.Ax
variable {tbl : Nat → Option AFn} {lo bd : Nat} {rnd : Option Nat} {E : FE} {F : Hp}
theorem Ws.of {c : AC} {Q : EX → FE → Hp → Prop} (h : ∀ (e : Env) (h : H), e.fn = E → Has h F → lo ≤ h.next → lo ≤ h.wmin → ∃ n, (step tbl (exec tbl n) rnd c e h).all fun r => ∃ F', End lo h.next F r.2.2 F' ∧ Q r.1 r.2.1.fn F') : Ws tbl lo rnd c E F Q := ⟨fun e h0 a b c d => by
  obtain ⟨n, hn⟩ := h e h0 a b c d
  exact ⟨n + 1, hn⟩⟩
theorem Ws.skip {Q : EX → FE → Hp → Prop} (h : Q .normal E F) : Ws tbl lo rnd .skip E F Q := Ws.of fun e h0 he hF _ hw => ⟨0, F, End.refl hF hw, by rw [he]; exact h⟩
theorem Ws.exit {Q : EX → FE → Hp → Prop} {id : Nat} (h : Q (.exit id) E F) : Ws tbl lo rnd (.exit id) E F Q := Ws.of fun e h0 he hF _ hw => ⟨0, F, End.refl hF hw, by rw [he]; exact h⟩
theorem Ws.ret {Q : EX → FE → Hp → Prop} (h : Q .ret E F) : Ws tbl lo rnd .ret E F Q := Ws.of fun e h0 he hF _ hw => ⟨0, F, End.refl hF hw, by rw [he]; exact h⟩
theorem Ws.scope {b : AC} {Q : EX → FE → Hp → Prop} (h : Ws tbl lo rnd b E F Q) : Ws tbl lo rnd (.scope b) E F Q := Ws.of h.run
theorem Ws.cond {c : AO} {a b : AC} {Q : EX → FE → Hp → Prop} {t : Bool} (hc : xev E c = .bool t) (h : Ws tbl lo rnd (bif t then a else b) E F Q) : Ws tbl lo rnd (.cond c a b) E F Q := by
  refine Ws.of fun e h0 he hF hlo hw => ?_
  obtain ⟨n, hn⟩ := h.run e h0 he hF hlo hw
  refine ⟨n, ?_⟩
  have : c.ev e = .bool t := by rw [ev_eq', he]; exact hc
  simp only [step, this]
  cases t
  · exact hn
  · exact hn
theorem bind_fuel {α β : Type} {x : Nat → T α} {f : Nat → α → T β} {R : α → Prop} {Q : β → Prop} (hx : ∀ n m, n ≤ m → T.sub (x n) (x m)) (hf : ∀ a n m, n ≤ m → T.sub (f n a) (f m a))
    (h : ∃ n, (x n).all R) (k : ∀ a, R a → ∃ n, (f n a).all Q) : ∃ n, ((x n).bind (f n)).all Q := by
  obtain ⟨n, hn⟩ := h
  obtain ⟨m, hm⟩ := T.all_fuel (P := fun n a => (f n a).all Q) (fun a b r hab hr => hf r a b hab Q hr) (T.all_mono k hn)
  refine ⟨max n m, (T.all_bind _ _).2 (hx _ _ (Nat.le_max_left n m) _ (T.all_mono ?_ hm))⟩
  intro a ha
  exact hf a _ _ (Nat.le_max_right n m) _ ha
theorem ex_le {tbl : Nat → Option AFn} (rnd : Option Nat) (c : AC) (e : Env) (h : H) : ∀ n m, n ≤ m → T.sub (exec tbl n rnd c e h) (exec tbl m rnd c e h) := fun _ _ hn => exec_le tbl hn rnd c e h
theorem Ws.seq {a b : AC} {Q : EX → FE → Hp → Prop} (h : Ws tbl lo rnd a E F fun r E' F' => match r with | .normal => Ws tbl lo rnd b E' F' Q | r => Q r E' F') : Ws tbl lo rnd (.seq a b) E F Q := by
  refine Ws.of fun e h0 he hF hlo hw => ?_
  refine bind_fuel (x := fun n => exec tbl n rnd a e h0) (ex_le _ _ _ _) ?_ (h.run e h0 he hF hlo hw) ?_
  · rintro ⟨x, e, h⟩ n m hn
    cases x
    · exact ex_le _ _ _ _ _ _ hn
    · exact T.sub.refl _
    · exact T.sub.refl _
  · rintro ⟨x, e1, h1⟩ ⟨F1, hE, hq⟩
    cases x with
    | normal =>
      obtain ⟨n, hn⟩ := Ws.run hq e1 h1 rfl hE.has (Nat.le_trans hlo hE.next) hE.wmin
      exact ⟨n, T.all_mono (fun r ⟨F2, h2, q⟩ => ⟨F2, hE.trans h2 (Nat.le_refl _), q⟩) hn⟩
    | ret => exact ⟨0, F1, hE, hq⟩
    | exit id => exact ⟨0, F1, hE, hq⟩
theorem Ws.block {id : Nat} {b : AC} {Q : EX → FE → Hp → Prop} (h : Ws tbl lo rnd b E F fun r E' F' => match r with | .exit i => (bif Nat.beq i id then Q .normal E' F' else Q (.exit i) E' F') | r => Q r E' F') : Ws tbl lo rnd (.block id b) E F Q := by
  refine Ws.of fun e h0 he hF hlo hw => ?_
  refine bind_fuel (x := fun n => exec tbl n rnd b e h0) (ex_le _ _ _ _) (fun _ _ _ _ => T.sub.refl _) (h.run e h0 he hF hlo hw) ?_
  rintro ⟨x, e1, h1⟩ ⟨F1, hE, hq⟩
  refine ⟨0, ?_⟩
  cases x with
  | normal => exact ⟨F1, hE, hq⟩
  | ret => exact ⟨F1, hE, hq⟩
  | exit i =>
    show T.all _ (bif Nat.beq i id then _ else _)
    have hq : bif Nat.beq i id then Q .normal e1.fn F1 else Q (.exit i) e1.fn F1 := hq
    cases hb : Nat.beq i id
    · rw [hb] at hq; exact ⟨F1, hE, hq⟩
    · rw [hb] at hq; exact ⟨F1, hE, hq⟩
theorem Ws.region {ops : List AOper} {Q : EX → FE → Hp → Prop} (h : Wo tbl lo ops E F fun E' F' => Q .normal E' F') : Ws tbl lo rnd (.region ops) E F Q := by
  refine Ws.of fun e h0 he hF hlo hw => ?_
  obtain ⟨n, hn⟩ := h.run e h0 he hF hlo hw
  exact ⟨n, (T.all_bind _ _).2 (T.all_mono (fun _ h => h) hn)⟩
theorem Ws.draw {ops : List AOper} {uno : List (Nat × Nat)} {Q : EX → FE → Hp → Prop} (h : ∀ bd, (∀ p ∈ F, p.1 < bd) → Wd tbl lo bd uno [] ops E F fun E' F' => Q .normal E' F') : Ws tbl lo rnd (.draw ops uno) E F Q := by
  refine Ws.of fun e h0 he hF hlo hw => ?_
  obtain ⟨n, hn⟩ := (h h0.next (fun p hp => hF.lt p hp)).run h0.next ops rfl rfl e { h0 with next := h0.next + ops.length } .nil he
    ⟨hF.get, fun p hp => Nat.lt_of_lt_of_le (hF.lt p hp) (Nat.le_add_right _ _), hF.nd⟩ (fun k _ _ p hp => by have := hF.lt p hp; omega) hlo (Nat.le_refl _) hw (fun j g hj => by
      cases hj)
  refine ⟨n, ?_⟩
  show ((runDraw _ ops uno (e, h0)).bind _).all _
  rw [T.all_bind]
  unfold runDraw
  rw [List.range_eq_range']
  refine T.all_mono ?_ hn
  rintro s ⟨F', h1, h2, h3, h4, h5⟩
  refine ⟨F', ⟨h1, Nat.le_trans (Nat.le_add_right _ _) h2, h3, h4⟩, h5⟩
theorem Ws.loop {X : Type} {b : AC} {Q : EX → FE → Hp → Prop} (Inv : X → FE → Hp → Prop) (μ : X → Nat) (x0 : X) (h0 : Inv x0 E F)
    (hb : ∀ x E F, Inv x E F → Ws tbl lo rnd b E F fun r E' F' => match r with | .normal => ∃ x', Inv x' E' F' ∧ μ x' < μ x | r => Q r E' F') : Ws tbl lo rnd (.loop b) E F Q := by
  have main : ∀ n x E F, μ x < n → Inv x E F → Ws tbl lo rnd (.loop b) E F Q := by
    intro n
    induction n with
    | zero => exact fun x E F h => absurd h (Nat.not_lt_zero _)
    | succ n ih =>
      intro x E F hn hI
      refine Ws.of fun e h0 he hF hlo hw => ?_
      refine bind_fuel (x := fun n => exec tbl n rnd b e h0) (ex_le _ _ _ _) ?_ ((hb x E F hI).run e h0 he hF hlo hw) ?_
      · rintro ⟨x, e, h⟩ n m hn
        cases x
        · exact ex_le _ _ _ _ _ _ hn
        · exact T.sub.refl _
        · exact T.sub.refl _
      · rintro ⟨x, e1, h1⟩ ⟨F1, hE, hq⟩
        cases x with
        | normal =>
          obtain ⟨x', hx', hlt⟩ := hq
          obtain ⟨n, hn⟩ := (ih x' e1.fn F1 (by omega) hx').run e1 h1 rfl hE.has (Nat.le_trans hlo hE.next) hE.wmin
          exact ⟨n, T.all_mono (fun r ⟨F2, h2, q⟩ => ⟨F2, hE.trans h2 (Nat.le_refl _), q⟩) hn⟩
        | ret => exact ⟨0, F1, hE, hq⟩
        | exit id => exact ⟨0, F1, hE, hq⟩
  exact main _ x0 E F (Nat.lt_succ_self _) h0
def upds (B : FE) : List (Nat × AV) → FE
  | [] => B
  | p :: l => setE (upds B l) p.1 p.2
def Holds (E : FE) : List (Nat × AV) → Prop
  | [] => True
  | p :: l => E p.1 = p.2 ∧ Holds E l
theorem Holds.upds {E : FE} : ∀ {l : List (Nat × AV)}, Holds E l → upds E l = E
  | [], _ => rfl
  | (t, v) :: l, ⟨h1, h2⟩ => by
    show setE (Go.Ax.upds E l) t v = E
    rw [Holds.upds h2]
    funext j
    show (bif Nat.beq j t then v else E j) = E j
    cases hb : Nat.beq j t with
    | false => rfl
    | true => rw [Nat.eq_of_beq_eq_true hb]; exact h1.symm
theorem Ws.loopG {X : Type} {b : AC} {Q : EX → FE → Hp → Prop} (L : X → List (Nat × AV)) (G : X → Hp) (P : X → Prop) (μ : X → Nat) (x0 : X) (hL : Holds E (L x0)) (hG : (G x0).Sublist F) (hP : P x0)
    (hb : ∀ x B, P x → Ws tbl lo rnd b (upds B (L x)) (G x) fun r E' F' => match r with | .normal => ∃ x', Holds E' (L x') ∧ (G x').Sublist F' ∧ P x' ∧ μ x' < μ x | r => Q r E' F') : Ws tbl lo rnd (.loop b) E F Q := by
  refine Ws.loop (X := X) (fun x E F => Holds E (L x) ∧ (G x).Sublist F ∧ P x) μ x0 ⟨hL, hG, hP⟩ ?_
  rintro x E F ⟨h1, h2, h3⟩
  have := hb x E h3
  rw [h1.upds] at this
  refine (Ws.weak h2 this).mono ?_
  intro r E' F' hq
  cases r with
  | normal =>
    obtain ⟨x', a, b, c, d⟩ := hq
    exact ⟨x', ⟨a, b, c⟩, d⟩
  | ret => exact hq
  | exit id => exact hq
inductive ResF (E : FE) (F : Hp) : List ARes → List AV → Prop
  | nil : ResF E F [] []
  | tmp {t : Nat} {rs : List ARes} {v : AV} {vs : List AV} (h : E t = v) (k : ResF E F rs vs) : ResF E F (.tmp t :: rs) (v :: vs)
  | cell {t : Nat} {n : Option Nat} {rs : List ARes} {b o : Nat} {l : List AV} {own : Bool} {v : AV} {vs : List AV} (h : E t = .ptr (some (b, o))) (hm : (b, .cells l own) ∈ F) (hv : partC l o n = some v) (k : ResF E F rs vs) : ResF E F (.cell t n :: rs) (v :: vs)
theorem ResF.all {e : Env} {h : H} {rs : List ARes} {vs : List AV} (hF : Has h F) (k : ResF e.fn F rs vs) : resAll e h rs = some vs := by
  induction k with
  | nil => rfl
  | @tmp t rs v vs h _ ih =>
    have h : e.get t = v := h
    simp only [resAll, resOne, ih, h]
  | @cell t n rs b o l own v vs h hm hv _ ih =>
    have h : e.get t = .ptr (some (b, o)) := h
    have h2 := hF.get _ hm
    simp only [resAll, resOne, ih, h, h2, hv]
def FnEnd (F0 : Hp) (rs : List ARes) (Q : AV → Hp → Prop) : EX → FE → Hp → Prop := fun r E F => (∀ id, r ≠ .exit id) ∧ ∃ vs F', ResF E F rs vs ∧ F'.Sublist F ∧ Q (tupOf vs) F'
theorem Fn.func {g : Nat} {fn : AFn} {first caps args : List AV} {Q : AV → Hp → Prop} (ht : tbl g = some fn) (hn : Nat.ble ((first ++ args) ++ caps).length fn.nt = true)
    (h : Ws tbl lo none fn.body (argE ((first ++ args) ++ caps)) F (FnEnd F fn.res Q)) : Fn tbl lo (.fn (.func g) first caps) args F Q := by
  refine ⟨fun h0 hF hlo hw => ?_⟩
  obtain ⟨n, hn'⟩ := h.run (Env.ofArgs ((first ++ args) ++ caps)) h0 (Env.fn_ofArgs _) hF hlo hw
  refine ⟨n, ?_⟩
  simp only [callF, ht, hn, cond_true]
  rw [T.all_bind]
  refine T.all_mono ?_ hn'
  rintro ⟨x, e1, h1⟩ ⟨F1, hE, hx, vs, F2, hr, hs, hq⟩
  have hr' := hr.all hE.has
  cases x with
  | exit id => exact absurd rfl (hx id)
  | normal =>
    simp only [hr', Option.map_some, T.ofOpt, T.all]
    exact ⟨F2, ⟨hE.has.sub hs, hE.next, hE.wmin, hE.new.sub hs⟩, hq⟩
  | ret =>
    simp only [hr', Option.map_some, T.ofOpt, T.all]
    exact ⟨F2, ⟨hE.has.sub hs, hE.next, hE.wmin, hE.new.sub hs⟩, hq⟩
theorem FnEnd.ret {F0 F' : Hp} {rs : List ARes} {Q : AV → Hp → Prop} {vs : List AV} (hr : ResF E F rs vs) (hs : F'.Sublist F) (hq : Q (tupOf vs) F') : FnEnd F0 rs Q .ret E F := ⟨fun _ h => (by cases h), vs, F', hr, hs, hq⟩
theorem FnEnd.normal {F0 F' : Hp} {rs : List ARes} {Q : AV → Hp → Prop} {vs : List AV} (hr : ResF E F rs vs) (hs : F'.Sublist F) (hq : Q (tupOf vs) F') : FnEnd F0 rs Q .normal E F := ⟨fun _ h => (by cases h), vs, F', hr, hs, hq⟩
def Pure (tbl : Nat → Option AFn) (f : AV) (args : List AV) (F : Hp) (v : AV) : Prop := ∀ lo, Fn tbl lo f args F fun r F' => r = v ∧ F' = F
theorem W1.pure {d : Option Nat} {R : FE → Hp → Cls → Prop} {f : AO} {args : List AO} {fv : AV} {as : List AV} {v : AV} (hf : xev E f = fv) (ha : args.map (xev E) = as) (hc : Pure tbl fv as F v) (k : R (fput E d v) F .call) : W1 tbl lo bd ⟨d, .call f args, none⟩ E F R :=
  W1.call hf ha fun lo' _ => (hc lo').mono fun r F' h => by obtain ⟨rfl, rfl⟩ := h; exact k
end Go.Ax
end
section
namespace Go.Ax
variable {tbl : Nat → Option AFn} {lo bd : Nat} {rnd : Option Nat} {E : FE} {F : Hp} {d : Option Nat} {R : FE → Hp → Cls → Prop} {x y : AO} {kd : IntKind} {a b : Int}
theorem W1.lss (hx : xev E x = .int kd a) (hy : xev E y = .int kd b) (ht : a < b → R (fput E d (.bool true)) F .n) (hf : b ≤ a → R (fput E d (.bool false)) F .n) : W1 tbl lo bd ⟨d, .bin .lss x y, none⟩ E F R :=
  W1.dec (p := a < b) (by simp only [opLocF, hx, hy, binAV, binInt, ne_eq, not_true, if_false]) ht fun h => hf (by omega)
theorem W1.leq (hx : xev E x = .int kd a) (hy : xev E y = .int kd b) (ht : a ≤ b → R (fput E d (.bool true)) F .n) (hf : b < a → R (fput E d (.bool false)) F .n) : W1 tbl lo bd ⟨d, .bin .leq x y, none⟩ E F R :=
  W1.dec (p := a ≤ b) (by simp only [opLocF, hx, hy, binAV, binInt, ne_eq, not_true, if_false]) ht fun h => hf (by omega)
theorem W1.gtr (hx : xev E x = .int kd a) (hy : xev E y = .int kd b) (ht : b < a → R (fput E d (.bool true)) F .n) (hf : a ≤ b → R (fput E d (.bool false)) F .n) : W1 tbl lo bd ⟨d, .bin .gtr x y, none⟩ E F R :=
  W1.dec (p := a > b) (by simp only [opLocF, hx, hy, binAV, binInt, ne_eq, not_true, if_false]) (fun h => ht (by omega)) fun h => hf (by omega)
theorem W1.geq (hx : xev E x = .int kd a) (hy : xev E y = .int kd b) (ht : b ≤ a → R (fput E d (.bool true)) F .n) (hf : a < b → R (fput E d (.bool false)) F .n) : W1 tbl lo bd ⟨d, .bin .geq x y, none⟩ E F R :=
  W1.dec (p := a ≥ b) (by simp only [opLocF, hx, hy, binAV, binInt, ne_eq, not_true, if_false]) (fun h => ht (by omega)) fun h => hf (by omega)
theorem W1.eql (hx : xev E x = .int kd a) (hy : xev E y = .int kd b) (ht : a = b → R (fput E d (.bool true)) F .n) (hf : a ≠ b → R (fput E d (.bool false)) F .n) : W1 tbl lo bd ⟨d, .bin .eql x y, none⟩ E F R :=
  W1.split (b := a == b) (by simp only [opLocF, hx, hy, binAV, binInt, ne_eq, not_true, if_false]) (fun h => ht (by simpa using h)) fun h => hf (by simpa using h)
theorem W1.neq (hx : xev E x = .int kd a) (hy : xev E y = .int kd b) (ht : a ≠ b → R (fput E d (.bool true)) F .n) (hf : a = b → R (fput E d (.bool false)) F .n) : W1 tbl lo bd ⟨d, .bin .neq x y, none⟩ E F R :=
  W1.split (b := a != b) (by simp only [opLocF, hx, hy, binAV, binInt, ne_eq, not_true, if_false]) (fun h => ht (by simpa using h)) fun h => hf (by simpa using h)
theorem W1.add (hx : xev E x = .int .i64 a) (hy : xev E y = .int .i64 b) (hz : -9223372036854775808 ≤ a + b ∧ a + b ≤ 9223372036854775807) (k : R (fput E d (.int .i64 (a + b))) F .n) : W1 tbl lo bd ⟨d, .bin .add x y, none⟩ E F R :=
  W1.wrap (by simp only [opLocF, hx, hy, binAV, binInt, ne_eq, not_true, if_false]) (IntWalk.i64_in _ hz) k
theorem W1.sub (hx : xev E x = .int .i64 a) (hy : xev E y = .int .i64 b) (hz : -9223372036854775808 ≤ a - b ∧ a - b ≤ 9223372036854775807) (k : R (fput E d (.int .i64 (a - b))) F .n) : W1 tbl lo bd ⟨d, .bin .sub x y, none⟩ E F R :=
  W1.wrap (by simp only [opLocF, hx, hy, binAV, binInt, ne_eq, not_true, if_false]) (IntWalk.i64_in _ hz) k
theorem W1.mul (hx : xev E x = .int .i64 a) (hy : xev E y = .int .i64 b) (hz : -9223372036854775808 ≤ a * b ∧ a * b ≤ 9223372036854775807) (k : R (fput E d (.int .i64 (a * b))) F .n) : W1 tbl lo bd ⟨d, .bin .mul x y, none⟩ E F R :=
  W1.wrap (by simp only [opLocF, hx, hy, binAV, binInt, ne_eq, not_true, if_false]) (IntWalk.i64_in _ hz) k
theorem W1.quo (hx : xev E x = .int .i64 a) (hy : xev E y = .int .i64 b) (hb : 1 ≤ b) (hz : -9223372036854775808 ≤ a ∧ a ≤ 9223372036854775807) (k : R (fput E d (.int .i64 (a.tdiv b))) F .n) : W1 tbl lo bd ⟨d, .bin .quo x y, none⟩ E F R :=
  W1.wrap (by simp only [opLocF, hx, hy, binAV, binInt, ne_eq, not_true, if_false, if_neg (show ¬ b = 0 by omega)]) (IntWalk.i64_quo' _ _ ⟨hz.1, hz.2, hb⟩) k
theorem W1.quoN (hx : xev E x = .int .i64 a) (hy : xev E y = .int .i64 b) (hb : 1 ≤ b) (hz : 0 ≤ a ∧ a ≤ 9223372036854775807) (k : 0 ≤ a / b → a / b ≤ a → R (fput E d (.int .i64 (a / b))) F .n) : W1 tbl lo bd ⟨d, .bin .quo x y, none⟩ E F R :=
  W1.quo hx hy hb ⟨by omega, hz.2⟩ (by rw [Int.tdiv_eq_ediv_of_nonneg hz.1]; exact k (Int.ediv_nonneg hz.1 (by omega)) (Int.ediv_le_self b hz.1))
theorem W1.neg (hx : xev E x = .int .i64 a) (hz : -9223372036854775807 ≤ a ∧ a ≤ 9223372036854775807) (k : R (fput E d (.int .i64 (-a))) F .n) : W1 tbl lo bd ⟨d, .un .neg x, none⟩ E F R := by
  refine W1.wrap (z := 0 - a) (kd := .i64) ?_ (IntWalk.i64_in _ (by omega)) (by rw [Int.zero_sub]; exact k)
  simp only [opLocF, hx, unAV]
theorem W1.max2 (hx : xev E x = .int kd a) (hy : xev E y = .int kd b) (k : R (fput E d (.int kd (max a b))) F .n) : W1 tbl lo bd ⟨d, .mnx true [x, y], none⟩ E F R := by
  refine W1.val (v := .int kd (max a b)) ?_ k
  simp only [opLocF, List.map_cons, List.map_nil, hx, hy, minmax, List.foldl_cons, List.foldl_nil, mmStep, if_true, cond_true, Option.map_some]
  congr 3
  split <;> omega
theorem W1.min2 (hx : xev E x = .int kd a) (hy : xev E y = .int kd b) (k : R (fput E d (.int kd (min a b))) F .n) : W1 tbl lo bd ⟨d, .mnx false [x, y], none⟩ E F R := by
  refine W1.val (v := .int kd (min a b)) ?_ k
  simp only [opLocF, List.map_cons, List.map_nil, hx, hy, minmax, List.foldl_cons, List.foldl_nil, mmStep, if_true, cond_false, Option.map_some]
  congr 3
  split <;> omega
theorem W1.not {b : Bool} (hx : xev E x = .bool b) (k : R (fput E d (.bool (!b))) F .n) : W1 tbl lo bd ⟨d, .un .not x, none⟩ E F R :=
  W1.val (by simp only [opLocF, hx, unAV]) k
theorem W1.mv {v : AV} (hv : xev E x = v) (k : R (fput E d v) F .n) : W1 tbl lo bd ⟨d, .mv x, none⟩ E F R := W1.val (v := v) (by simp only [opLocF, hv]) k
theorem W1.ext {i : Nat} {l : List AV} {v : AV} (hx : xev E x = .tup l) (hv : l[i]? = some v) (k : R (fput E d v) F .n) : W1 tbl lo bd ⟨d, .ext x i, none⟩ E F R := W1.val (by simp only [opLocF, hx, hv]) k
theorem W1.pickT {c : AO} {v : AV} (hc : xev E c = .bool true) (hv : xev E x = v) (k : R (fput E d v) F .n) : W1 tbl lo bd ⟨d, .pick c x y, none⟩ E F R := W1.val (by simp only [opLocF, hc, hv]) k
theorem W1.pickF {c : AO} {v : AV} (hc : xev E c = .bool false) (hv : xev E y = v) (k : R (fput E d v) F .n) : W1 tbl lo bd ⟨d, .pick c x y, none⟩ E F R := W1.val (by simp only [opLocF, hc, hv]) k
theorem W1.nilchk {p : Nat × Nat} (hx : xev E x = .ptr (some p)) (k : R (fput E d (.ptr (some p))) F .n) : W1 tbl lo bd ⟨d, .nilchk x, none⟩ E F R := W1.val (by simp only [opLocF, hx]) k
theorem W1.faddr {off b o : Nat} (hx : xev E x = .ptr (some (b, o))) (k : R (fput E d (.ptr (some (b, o + off)))) F .n) : W1 tbl lo bd ⟨d, .faddr off x, none⟩ E F R := W1.val (by simp only [opLocF, hx]) k
theorem W1.faddr0 {b o : Nat} (hx : xev E x = .ptr (some (b, o))) (k : R (fput E d (.ptr (some (b, o)))) F .n) : W1 tbl lo bd ⟨d, .faddr 0 x, none⟩ E F R := W1.faddr hx k
theorem W1.mkfn {g : FuncId} {first caps : List AO} {f c : List AV} (h1 : first.map (xev E) = f) (h2 : caps.map (xev E) = c) (k : R (fput E d (.fn (.func g) f c)) F .n) : W1 tbl lo bd ⟨d, .mkfn g first caps, none⟩ E F R :=
  W1.val (by simp only [opLocF]; rw [show first.map (xev E ·) = first.map (xev E) from rfl, show caps.map (xev E ·) = caps.map (xev E) from rfl, h1, h2]) k
theorem W1.notT (hx : xev E x = .bool true) (k : R (fput E d (.bool false)) F .n) : W1 tbl lo bd ⟨d, .un .not x, none⟩ E F R := W1.val (by simp only [opLocF, hx, unAV, Bool.not_true]) k
theorem W1.notF (hx : xev E x = .bool false) (k : R (fput E d (.bool true)) F .n) : W1 tbl lo bd ⟨d, .un .not x, none⟩ E F R := W1.val (by simp only [opLocF, hx, unAV, Bool.not_false]) k
theorem W1.newP {op : AOp} {z : ABlk} (hv : opLocF op E = ⟨[], fun _ => some (.undef, [], some z)⟩) (k : ∀ b, lo ≤ b → R (fput E d (.ptr (some (b, 0)))) ((b, z) :: F) .a) (hl : isLoc op = true := by rfl) : W1 tbl lo bd ⟨d, op, none⟩ E F R := W1.new hv k hl
theorem W1.alloc {z : List AV} (k : ∀ b, lo ≤ b → R (fput E d (.ptr (some (b, 0)))) ((b, .cells z true) :: F) .a) : W1 tbl lo bd ⟨d, .alloc z, none⟩ E F R := W1.newP rfl k
theorem W1.boxA {l : List AV} (hx : xev E x = .agg l) (k : ∀ b, lo ≤ b → R (fput E d (.ptr (some (b, 0)))) ((b, .cells l true) :: F) .a) : W1 tbl lo bd ⟨d, .box x, none⟩ E F R :=
  W1.newP (z := .cells l true) (by simp only [opLocF, hx, AV.cells]) k
theorem W1.boxS {v : AV} (hx : xev E x = v) (hv : v.cells = some [v]) (k : ∀ b, lo ≤ b → R (fput E d (.ptr (some (b, 0)))) ((b, .cells [v] true) :: F) .a) : W1 tbl lo bd ⟨d, .box x, none⟩ E F R :=
  W1.newP (z := .cells [v] true) (by simp only [opLocF, hx, hv]) k
theorem W1.bslice {z : List AV} {n sz : Nat} {ps : List (Nat × Nat × AO)} {l : List AV} (hf : fillF E z ps = some l) (k : ∀ b, lo ≤ b → R (fput E d (.slc (some (b, 0)) n n true sz)) ((b, .cells l true) :: F) .a) : W1 tbl lo bd ⟨d, .bslice z n sz ps, none⟩ E F R :=
  W1.new (v := .slc none n n true sz) (x := .cells l true) (by simp only [opLocF, hf]) k
theorem W1.build {z : List AV} {ps : List (Nat × Nat × AO)} {l : List AV} (hf : fillF E z ps = some l) (k : R (fput E d (.agg l)) F .n) : W1 tbl lo bd ⟨d, .build z ps, none⟩ E F R :=
  W1.val (by simp only [opLocF, hf, Option.map_some]) k
def catF (E : FE) : List (Nat × Nat × AO) → Nat → Option (List AV)
  | [], _ => some []
  | (off, n, x) :: ps, o => match (xev E x).cells, catF E ps (o + n) with
    | some cs, some r => if off = o ∧ cs.length = n then some (cs ++ r) else none
    | _, _ => none
theorem fill_cat : ∀ {ps : List (Nat × Nat × AO)} {pre suf l : List AV}, catF E ps pre.length = some l → suf.length = (ps.map (·.2.1)).sum → fillF E (pre ++ suf) ps = some (pre ++ l)
  | [], pre, suf, l, h, hs => by
    cases h
    have : suf = [] := List.length_eq_zero_iff.1 hs
    rw [this]; rfl
  | (off, n, x) :: ps, pre, suf, l, h, hs => by
    simp only [catF] at h
    split at h
    · rename_i cs r h1 h2
      split at h
      · rename_i h3
        cases h
        obtain ⟨rfl, h4⟩ := h3
        have hn : n ≤ suf.length := by rw [hs]; simp
        simp only [fillF, h1]
        rw [if_pos ⟨h4, by rw [List.length_append]; omega⟩]
        have e1 : (pre ++ suf).take pre.length = pre := by simp
        have e2 : (pre ++ suf).drop (pre.length + n) = suf.drop n := by rw [← List.drop_drop]; simp
        rw [e1, e2]
        have := @fill_cat ps (pre ++ cs) (suf.drop n) r (by rw [List.length_append, h4]; exact h2) (by rw [List.length_drop, hs]; simp)
        rw [this, List.append_assoc]
      · cases h
    · cases h
theorem fill_all {z : List AV} {ps : List (Nat × Nat × AO)} {l : List AV} (h : catF E ps 0 = some l) (hs : z.length = (ps.map (·.2.1)).sum) : fillF E z ps = some l := by
  have := @fill_cat E ps [] z l h hs
  simpa using this
theorem catF1 {v : AV} {o : Nat} {l : List AV} {ps : List (Nat × Nat × AO)} (hx : xev E x = v) (hc : v.cells = some [v]) (k : catF E ps (o + 1) = some l) : catF E ((o, 1, x) :: ps) o = some (v :: l) := by
  simp only [catF, hx, hc, k, List.length_cons, List.length_nil, if_true, and_self, List.cons_append, List.nil_append]
theorem catFA {c : List AV} {o n : Nat} {l : List AV} {ps : List (Nat × Nat × AO)} (hx : xev E x = .agg c) (hn : c.length = n) (k : catF E ps (o + n) = some l) : catF E ((o, n, x) :: ps) o = some (c ++ l) := by
  simp only [catF, hx, AV.cells, k, hn, if_true, and_self]
theorem catF2 {a b : AV} {o : Nat} {l : List AV} {ps : List (Nat × Nat × AO)} (hx : xev E x = .agg [a, b]) (k : catF E ps (o + 2) = some l) : catF E ((o, 2, x) :: ps) o = some (a :: b :: l) := catFA hx rfl k
theorem catF0 {o : Nat} : catF E [] o = some [] := rfl
theorem W1.loadA {n b : Nat} {a : AO} {l : List AV} {own : Bool} (ha : xev E a = .ptr (some (b, 0))) (hm : (b, .cells l own) ∈ F) (hn : l.length = n) (k : R (fput E d (.agg l)) F .x) : W1 tbl lo bd ⟨d, .load (some n) a, none⟩ E F R :=
  W1.load ha hm (by simp only [partC]; rw [if_pos (by omega), List.drop_zero, ← hn, List.take_length]) k
theorem W1.loadAR {n b : Nat} {a : AO} {l : List AV} {own : Bool} (ha : xev E a = .ptr (some (b, 0))) (hm : (b, .cells l own) ∈ F) (hn : l.length = n) (hb : b < bd) (k : R (fput E d (.agg l)) F .r) : W1 tbl lo bd ⟨d, .load (some n) a, none⟩ E F R :=
  W1.loadR ha hm (by simp only [partC]; rw [if_pos (by omega), List.drop_zero, ← hn, List.take_length]) hb k
theorem part2 {l : List AV} {o : Nat} {u v : AV} (h1 : l[o]? = some u) (h2 : l[o + 1]? = some v) : partC l o (some 2) = some (.agg [u, v]) := by
  obtain ⟨hl1, e1⟩ := List.getElem?_eq_some_iff.1 h1
  obtain ⟨hl, e2⟩ := List.getElem?_eq_some_iff.1 h2
  simp only [partC]
  rw [if_pos (by omega), List.drop_eq_getElem_cons hl1, List.drop_eq_getElem_cons hl, e1, e2]
  rfl
theorem W1.load2 {b o : Nat} {a : AO} {l : List AV} {own : Bool} {u v : AV} (ha : xev E a = .ptr (some (b, o))) (hm : (b, .cells l own) ∈ F) (h1 : l[o]? = some u) (h2 : l[o + 1]? = some v) (k : R (fput E d (.agg [u, v])) F .x) : W1 tbl lo bd ⟨d, .load (some 2) a, none⟩ E F R :=
  W1.load ha hm (part2 h1 h2) k
theorem W1.load2R {b o : Nat} {a : AO} {l : List AV} {own : Bool} {u v : AV} (ha : xev E a = .ptr (some (b, o))) (hm : (b, .cells l own) ∈ F) (h1 : l[o]? = some u) (h2 : l[o + 1]? = some v) (hb : b < bd) (k : R (fput E d (.agg [u, v])) F .r) : W1 tbl lo bd ⟨d, .load (some 2) a, none⟩ E F R :=
  W1.loadR ha hm (part2 h1 h2) hb k
theorem W1.load1R {b o : Nat} {a : AO} {l : List AV} {own : Bool} {v : AV} (ha : xev E a = .ptr (some (b, o))) (hm : (b, .cells l own) ∈ F) (hv : l[o]? = some v) (hb : b < bd) (k : R (fput E d v) F .r) : W1 tbl lo bd ⟨d, .load none a, none⟩ E F R :=
  W1.loadR ha hm hv hb k
theorem W1.neq2 {a1 a2 b1 b2 : Int} (hx : xev E x = .agg [.int kd a1, .int kd a2]) (hy : xev E y = .agg [.int kd b1, .int kd b2]) (ht : (a1, a2) ≠ (b1, b2) → R (fput E d (.bool true)) F .n) (hf : (a1, a2) = (b1, b2) → R (fput E d (.bool false)) F .n) : W1 tbl lo bd ⟨d, .eqf true true [.int, .int] x y, none⟩ E F R := by
  refine W1.split (b := ((a1 == b1) && ((a2 == b2) && true)) != true) ?_ (fun h => ht ?_) (fun h => hf ?_)
  · simp only [opLocF, hx, hy, eqAV, leafsEq, leafEq, if_true, Option.map_some]
  · intro he
    cases he
    simp at h
  · simp at h
    rw [h.1, h.2]
theorem W1.load1 {b o : Nat} {a : AO} {l : List AV} {own : Bool} {v : AV} (ha : xev E a = .ptr (some (b, o))) (hm : (b, .cells l own) ∈ F) (hv : l[o]? = some v) (k : R (fput E d v) F .x) : W1 tbl lo bd ⟨d, .load none a, none⟩ E F R :=
  W1.load ha hm hv k
theorem W1.pureB {f : AO} {args : List AO} {fv : AV} {as : List AV} {b : Bool} (hf : xev E f = fv) (ha : args.map (xev E) = as) (hc : Pure tbl fv as F (.bool b)) (ht : b = true → R (fput E d (.bool true)) F .call) (hn : b = false → R (fput E d (.bool false)) F .call) : W1 tbl lo bd ⟨d, .call f args, none⟩ E F R :=
  W1.pure hf ha hc (by cases b; exact hn rfl; exact ht rfl)
theorem W1.storeN {n : Nat} {a v : AO} {b o : Nat} {l l' cs : List AV} {F' : Hp} (ha : xev E a = .ptr (some (b, o))) (hc : (xev E v).cells = some cs) (hn : cs.length = n) (_ : (b, .cells l true) ∈ F) (hl : splice l o cs = l') (hu : Upd F b (.cells l true) (.cells l' true) F') (ho : o + n ≤ l.length) (hb : lo ≤ b) (k : R (fput E d .undef) F' .x) : W1 tbl lo bd ⟨d, .store n a v, none⟩ E F R := by
  subst hl
  exact W1.store ha hc hn hu ho hb k
theorem W1.storeInt {a v : AO} {b o : Nat} {kd : IntKind} {z : Int} {l l' : List AV} {F' : Hp} (ha : xev E a = .ptr (some (b, o))) (hv : xev E v = .int kd z) (hm : (b, .cells l true) ∈ F) (hl : splice l o [.int kd z] = l') (hu : Upd F b (.cells l true) (.cells l' true) F') (ho : o + 1 ≤ l.length) (hb : lo ≤ b) (k : R (fput E d .undef) F' .x) : W1 tbl lo bd ⟨d, .store 1 a v, none⟩ E F R :=
  W1.storeN (cs := [.int kd z]) ha (by rw [hv]; rfl) rfl hm hl hu ho hb k
theorem splice_len {l cs : List AV} {o : Nat} (h : o + cs.length ≤ l.length) : (splice l o cs).length = l.length := by simp only [splice, List.length_append, List.length_take, List.length_drop]; omega
def RowI (F : Hp) (v : AV) (xs : List Int) : Prop := ∃ p cap ex es, v = .slc p xs.length cap ex es ∧ ∀ j, j < xs.length → ∃ b o l own, p = some (b, o) ∧ (b, .cells l own) ∈ F ∧ l[o + j]? = some (.int .i64 (xs.getD j 0))
def RowR (F : Hp) (v : AV) (rs : List (Int × Int)) : Prop := ∃ p cap ex es, v = .slc p rs.length cap ex es ∧ ∀ j, j < rs.length → ∃ b o l own, p = some (b, o) ∧ (b, .cells l own) ∈ F ∧ l[o + j * 2]? = some (.int .i64 (rs.getD j (0, 0)).1) ∧ l[o + j * 2 + 1]? = some (.int .i64 (rs.getD j (0, 0)).2)
theorem RowI.mono {F F' : Hp} {v : AV} {xs : List Int} (h : RowI F v xs) (hs : F ⊆ F') : RowI F' v xs := by
  obtain ⟨p, cap, ex, es, rfl, h⟩ := h
  refine ⟨p, cap, ex, es, rfl, fun j hj => ?_⟩
  obtain ⟨b, o, l, own, h1, h2, h3⟩ := h j hj
  exact ⟨b, o, l, own, h1, hs h2, h3⟩
theorem RowR.mono {F F' : Hp} {v : AV} {xs : List (Int × Int)} (h : RowR F v xs) (hs : F ⊆ F') : RowR F' v xs := by
  obtain ⟨p, cap, ex, es, rfl, h⟩ := h
  refine ⟨p, cap, ex, es, rfl, fun j hj => ?_⟩
  obtain ⟨b, o, l, own, h1, h2, h3⟩ := h j hj
  exact ⟨b, o, l, own, h1, hs h2, h3⟩
theorem RowI.cons {F : Hp} {v : AV} {xs : List Int} {p : Nat × ABlk} (h : RowI F v xs) : RowI (p :: F) v xs := h.mono (List.subset_cons_self _ _)
theorem RowR.cons {F : Hp} {v : AV} {xs : List (Int × Int)} {p : Nat × ABlk} (h : RowR F v xs) : RowR (p :: F) v xs := h.mono (List.subset_cons_self _ _)
theorem RowI.app {F G : Hp} {v : AV} {xs : List Int} (h : RowI F v xs) : RowI (G ++ F) v xs := h.mono (List.subset_append_right _ _)
theorem RowR.app {F G : Hp} {v : AV} {xs : List (Int × Int)} (h : RowR F v xs) : RowR (G ++ F) v xs := h.mono (List.subset_append_right _ _)
theorem RowI.nil (F : Hp) (cap : Nat) (ex : Bool) (es : Nat) (p : Option (Nat × Nat)) : RowI F (.slc p 0 cap ex es) [] := ⟨p, cap, ex, es, rfl, fun j hj => absurd hj (Nat.not_lt_zero _)⟩
theorem RowR.nil (F : Hp) (cap : Nat) (ex : Bool) (es : Nat) (p : Option (Nat × Nat)) : RowR F (.slc p 0 cap ex es) [] := ⟨p, cap, ex, es, rfl, fun j hj => absurd hj (Nat.not_lt_zero _)⟩
theorem W1.lenI {v : AV} {xs : List Int} (hr : RowI F v xs) (hx : xev E x = v) (k : R (fput E d (.int .i64 (xs.length : Nat))) F .n) : W1 tbl lo bd ⟨d, .len x, none⟩ E F R := by
  obtain ⟨p, cap, ex, es, rfl, _⟩ := hr
  exact W1.val (by simp only [opLocF, hx]) k
theorem W1.lenR {v : AV} {xs : List (Int × Int)} (hr : RowR F v xs) (hx : xev E x = v) (k : R (fput E d (.int .i64 (xs.length : Nat))) F .n) : W1 tbl lo bd ⟨d, .len x, none⟩ E F R := by
  obtain ⟨p, cap, ex, es, rfl, _⟩ := hr
  exact W1.val (by simp only [opLocF, hx]) k
theorem W1.iaddrI {v : AV} {xs : List Int} {i : AO} {j : Nat} (hr : RowI F v xs) (hx : xev E x = v) (hi : xev E i = .int kd (j : Nat)) (hj : j < xs.length)
    (k : ∀ b o l own, (b, .cells l own) ∈ F → l[o]? = some (.int .i64 (xs.getD j 0)) → R (fput E d (.ptr (some (b, o)))) F .n) : W1 tbl lo bd ⟨d, .iaddrS 1 x i, none⟩ E F R := by
  obtain ⟨p, cap, ex, es, rfl, h⟩ := hr
  obtain ⟨b, o, l, own, rfl, h2, h3⟩ := h j hj
  refine W1.iaddr (j := j) hx hi hj ?_
  rw [Nat.mul_one]
  exact k _ _ _ _ h2 h3
theorem W1.iaddrR {v : AV} {xs : List (Int × Int)} {i : AO} {j : Nat} (hr : RowR F v xs) (hx : xev E x = v) (hi : xev E i = .int kd (j : Nat)) (hj : j < xs.length)
    (k : ∀ b o l own, (b, .cells l own) ∈ F → l[o]? = some (.int .i64 (xs.getD j (0, 0)).1) → l[o + 1]? = some (.int .i64 (xs.getD j (0, 0)).2) → R (fput E d (.ptr (some (b, o)))) F .n) : W1 tbl lo bd ⟨d, .iaddrS 2 x i, none⟩ E F R := by
  obtain ⟨p, cap, ex, es, rfl, h⟩ := hr
  obtain ⟨b, o, l, own, rfl, h2, h3, h4⟩ := h j hj
  refine W1.iaddr (j := j) hx hi hj ?_
  exact k _ _ _ _ h2 h3 h4
theorem RowI.lit {F : Hp} {b n cap es : Nat} {ex own : Bool} {xs : List Int} (hm : (b, .cells (xs.map (.int .i64)) own) ∈ F) (hn : n = xs.length) : RowI F (.slc (some (b, 0)) n cap ex es) xs :=
  ⟨some (b, 0), cap, ex, es, by rw [hn], fun j hj => ⟨b, 0, _, own, rfl, hm, by simp [List.getD, List.getElem?_eq_getElem hj]⟩⟩
theorem any_getD {α : Type} (p : α → Bool) (xs : List α) (z : α) : xs.any p = true ↔ ∃ j, j < xs.length ∧ p (xs.getD j z) = true := by
  rw [List.any_eq_true]
  constructor
  · rintro ⟨y, hy, hp⟩
    obtain ⟨j, hj, rfl⟩ := List.getElem_of_mem hy
    exact ⟨j, hj, by simpa [List.getD, List.getElem?_eq_getElem hj] using hp⟩
  · rintro ⟨j, hj, hp⟩
    exact ⟨xs[j], List.getElem_mem hj, by simpa [List.getD, List.getElem?_eq_getElem hj] using hp⟩
theorem any_false_getD {α : Type} (p : α → Bool) (xs : List α) (z : α) : xs.any p = false ↔ ∀ j, j < xs.length → p (xs.getD j z) = false := by
  rw [← Bool.not_eq_true, any_getD p xs z]
  constructor
  · intro h j hj
    rw [← Bool.not_eq_true]
    exact fun hp => h ⟨j, hj, hp⟩
  · rintro h ⟨j, hj, hp⟩
    rw [h j hj] at hp
    cases hp
def idxOf {α : Type} (p : α → Bool) (xs : List α) : Int := match xs.findIdx? p with | some i => (i : Nat) | none => -1
theorem idxOf_found {α : Type} {p : α → Bool} {xs : List α} {z : α} {i : Nat} (hi : i < xs.length) (hp : p (xs.getD i z) = true) (hb : ∀ j, j < i → p (xs.getD j z) = false) : idxOf p xs = (i : Nat) := by
  have e : xs.getD i z = xs[i] := by simp [List.getD, List.getElem?_eq_getElem hi]
  have : xs.findIdx? p = some i := by
    rw [List.findIdx?_eq_some_iff_getElem]
    refine ⟨hi, by rw [← e]; exact hp, fun j hj => ?_⟩
    have h2 := hb j hj
    have e2 : xs.getD j z = xs[j]'(by omega) := by simp [List.getD, List.getElem?_eq_getElem (show j < xs.length by omega)]
    rw [e2] at h2
    simp [h2]
  simp only [idxOf, this]
theorem idxOf_none {α : Type} {p : α → Bool} {xs : List α} {z : α} (hb : ∀ j, j < xs.length → p (xs.getD j z) = false) : idxOf p xs = -1 := by
  have : xs.findIdx? p = none := by
    rw [List.findIdx?_eq_none_iff]
    intro y hy
    obtain ⟨j, hj, rfl⟩ := List.getElem_of_mem hy
    have h2 := hb j hj
    have e2 : xs.getD j z = xs[j] := by simp [List.getD, List.getElem?_eq_getElem hj]
    rw [e2] at h2
    exact h2
  simp only [idxOf, this]
theorem idxOf_any {α : Type} (p : α → Bool) (xs : List α) : 0 ≤ idxOf p xs ↔ xs.any p = true := by
  unfold idxOf
  cases h : xs.findIdx? p with
  | none =>
    rw [List.findIdx?_eq_none_iff] at h
    refine ⟨fun h' => absurd h' (by decide), fun h' => ?_⟩
    obtain ⟨y, hy, hp⟩ := List.any_eq_true.1 h'
    rw [h y hy] at hp
    cases hp
  | some i =>
    obtain ⟨hi, hp, _⟩ := List.findIdx?_eq_some_iff_getElem.1 h
    exact ⟨fun _ => List.any_eq_true.2 ⟨_, List.getElem_mem hi, hp⟩, fun _ => Int.natCast_nonneg i⟩
def flat (rs : List (Int × Int)) : List AV := rs.flatMap fun r => [.int .i64 r.1, .int .i64 r.2]
theorem flatR_get : ∀ (rs : List (Int × Int)) (j : Nat), j < rs.length → (flat rs)[j * 2]? = some (.int .i64 (rs.getD j (0, 0)).1) ∧ (flat rs)[j * 2 + 1]? = some (.int .i64 (rs.getD j (0, 0)).2)
  | [], _, h => absurd h (Nat.not_lt_zero _)
  | r :: rs, 0, _ => ⟨rfl, rfl⟩
  | r :: rs, j + 1, h => by
    have ih := flatR_get rs j (Nat.lt_of_succ_lt_succ h)
    have e : (j + 1) * 2 = j * 2 + 1 + 1 := by omega
    rw [e]
    exact ih
inductive OwnR (lo : Nat) : AV → Hp → List (Int × Int) → Prop
  | nil : OwnR lo (.slc none 0 0 true 0) [] []
  | row {b : Nat} {rs : List (Int × Int)} (hb : lo ≤ b) : OwnR lo (.slc (some (b, 0)) rs.length rs.length false 2) [(b, .cells (flat rs) true)] rs
theorem OwnR.row' {lo b n : Nat} {rs : List (Int × Int)} {l : List AV} (hb : lo ≤ b) (hn : n = rs.length) (hl : l = flat rs) : OwnR lo (.slc (some (b, 0)) n n false 2) [(b, .cells l true)] rs := by subst hn hl; exact .row hb
theorem OwnR.cells {lo : Nat} {v : AV} {Fo : Hp} {rs : List (Int × Int)} (h : OwnR lo v Fo rs) : v.cells = some [v] := by cases h <;> rfl
theorem Rem.append {F1 F2 : Hp} {b : Nat} {x : ABlk} : Rem (F1 ++ ([(b, x)] ++ F2)) b x (F1 ++ F2) := by
  induction F1 with
  | nil => exact .head
  | cons p F1 ih => exact .tail ih
inductive OwnI (lo : Nat) (ex : Bool) : AV → Hp → List Int → Prop
  | nil : OwnI lo ex (.slc none 0 0 true 0) [] []
  | row {b : Nat} {xs : List Int} (hb : lo ≤ b) : OwnI lo ex (.slc (some (b, 0)) xs.length xs.length ex 1) [(b, .cells (xs.map (.int .i64)) true)] xs
theorem OwnI.row' {lo b n : Nat} {ex : Bool} {xs : List Int} {l : List AV} (hb : lo ≤ b) (hn : n = xs.length) (hl : l = xs.map (.int .i64)) : OwnI lo ex (.slc (some (b, 0)) n n ex 1) [(b, .cells l true)] xs := by subst hn hl; exact .row hb
theorem OwnI.rowI {lo : Nat} {ex : Bool} {v : AV} {Fo F : Hp} {xs : List Int} (h : OwnI lo ex v Fo xs) (hs : Fo ⊆ F) : RowI F v xs := by
  cases h with
  | nil => exact RowI.nil _ _ _ _ _
  | @row b xs hb => exact RowI.lit (hs (List.mem_cons_self ..)) rfl
theorem OwnI.cells {lo : Nat} {ex : Bool} {v : AV} {Fo : Hp} {xs : List Int} (h : OwnI lo ex v Fo xs) : v.cells = some [v] := by cases h <;> rfl
theorem W1.appI {ov : AV} {Fo F1 F2 : Hp} {xs : List Int} {z : Int} {ex : Bool} {s : AO} {xb cx xe : Nat} {xx own : Bool} (hF : F = F1 ++ (Fo ++ F2)) (ho : OwnI lo ex ov Fo xs) (hs : xev E s = ov) (hx : xev E x = .slc (some (xb, 0)) 1 cx xx xe)
    (hm : (xb, .cells [.int .i64 z] own) ∈ F1 ++ F2) (hl : xs.length < 1000000000000) (k : ∀ ov' Fo', OwnI lo false ov' Fo' (xs ++ [z]) → R (fput E d ov') (Fo' ++ (F1 ++ F2)) .x) : W1 tbl lo bd ⟨d, .app 1 8 s x, none⟩ E F R := by
  subst hF
  refine W1.loc rfl fun h aid hF hfr hlo hw _ => ?_
  have hsub : (F1 ++ F2).Sublist (F1 ++ (Fo ++ F2)) := (List.Sublist.refl F1).append (List.sublist_append_right _ _)
  cases ho with
  | nil =>
    refine ⟨.slc (some (aid, 0)) 1 1 false 1, h.new aid (.cells [.int .i64 z] true), .loc [xb] [] (some aid), _, .x, ?_, (hF.sub hsub).new _ (fun p hp => hfr p (hsub.subset hp)), by show h.next ≤ max h.next (aid + 1); omega, hw, trivial, ?_, k _ [(aid, .cells [.int .i64 z] true)] (.row' hlo rfl rfl)⟩
    · simp only [opLocF, hs, hx]
      rw [if_pos (by unfold room; omega), if_neg (by omega), if_pos trivial]
      simp only [Loc.run, getAll, hF.get _ (hsub.subset hm)]
      rfl
    · intro p hp
      rcases List.mem_cons.1 hp with rfl | hp
      · exact .inr (.inl rfl)
      · exact .inl ⟨p, hsub.subset hp, rfl⟩
  | @row b xs hb =>
    have hr : Rem (F1 ++ ([(b, .cells (xs.map (.int .i64)) true)] ++ F2)) b (.cells (xs.map (.int .i64)) true) (F1 ++ F2) := Rem.append
    have e2 : List.take (xs.length * 1) (List.drop 0 (xs.map (AV.int .i64))) ++ List.take (1 * 1) (List.drop 0 [AV.int .i64 z]) = (xs ++ [z]).map (.int .i64) := by
      rw [List.drop_zero, Nat.mul_one, List.map_append]
      congr 1
      rw [List.take_of_length_le (by simp)]
    have hnew : ∀ p ∈ (aid, ABlk.cells ((xs ++ [z]).map (.int .i64)) true) :: (F1 ++ F2), (∃ q ∈ F1 ++ ([(b, .cells (xs.map (.int .i64)) true)] ++ F2), q.1 = p.1) ∨ p.1 = aid ∨ h.next ≤ p.1 := by
      intro p hp
      rcases List.mem_cons.1 hp with rfl | hp
      · exact .inr (.inl rfl)
      · exact .inl ⟨p, hsub.subset hp, rfl⟩
    have hrun : (3 * (xs.length + 1) + 2000) * 8 ≤ room := by unfold room; omega
    cases ex with
    | false =>
      refine ⟨.slc (some (aid, 0)) (xs.length + 1) (xs.length + 1) false 1, (h.put b .dead).new aid (.cells ((xs ++ [z]).map (.int .i64)) true), .loc [b, xb] [b] (some aid), _, .x, ?_,
        (hF.rem hr).new _ (fun p hp => hfr p (hsub.subset hp)), by show h.next ≤ max h.next (aid + 1); omega, by show lo ≤ min h.wmin b; omega, trivial, hnew, k _ [(aid, .cells ((xs ++ [z]).map (.int .i64)) true)] (.row' hlo (by simp) rfl)⟩
      simp only [opLocF, hs, hx]
      rw [if_pos hrun, if_neg (by omega)]
      simp only [Loc.run, getAll, hF.get _ (hsub.subset hm), hF.get _ hr.mem]
      rw [if_pos ⟨by simp, by simp, .inr (by simp)⟩, e2]
      rfl
    | true =>
      refine ⟨.slc (some (aid, 0)) (xs.length + 1) (xs.length + 1) false 1, h.new aid (.cells ((xs ++ [z]).map (.int .i64)) true), .loc [b, xb] [] (some aid), _, .x, ?_,
        (hF.sub hsub).new _ (fun p hp => hfr p (hsub.subset hp)), by show h.next ≤ max h.next (aid + 1); omega, hw, trivial, hnew, k _ [(aid, .cells ((xs ++ [z]).map (.int .i64)) true)] (.row' hlo (by simp) rfl)⟩
      simp only [opLocF, hs, hx]
      rw [if_pos hrun, if_neg (by omega)]
      simp only [Loc.run, getAll, hF.get _ (hsub.subset hm), hF.get _ hr.mem]
      rw [if_pos ⟨by simp, by simp, .inl (by simp)⟩, e2]
      rw [Nat.beq_refl]
      rfl
end Go.Ax
end
section
namespace Go.Ax
variable {tbl : Nat → Option AFn} {lo bd : Nat} {rnd : Option Nat} {E : FE} {F : Hp}
theorem zipPut_fn : ∀ {ps : List Nat} {as : List AV} {e e' : Env}, zipPut e ps as = some e' → e'.fn = (ps.zip as).foldl (fun E p => setE E p.1 p.2) e.fn
  | [], [], _, _, h => by cases h; rfl
  | [], _ :: _, _, _, h => by cases h
  | _ :: _, [], _, _, h => by cases h
  | t :: ts, v :: vs, e, e', h => by
    have := zipPut_fn (show zipPut (PT.set e t v) ts vs = some e' from h)
    rw [this, List.zip_cons_cons, List.foldl_cons]
    congr 1
    exact Env.fn_put e (some t) v
theorem Ws.rangeF {f : AO} {ps : List Nat} {asg body : AC} {fv : AV} {Q : EX → FE → Hp → Prop} (hf : xev E f = fv) (hfn : fv.isFunc = true)
    (h : ∀ L, lo ≤ L → ∀ e0 : Env, e0.fn = E → Fn tbl lo fv [.fn (.yield L) [] []] ((L, .loop .ready none e0 ps asg body) :: F) fun _ F' =>
      ∃ st pend F'', Upd F' L (.loop st pend e0 ps asg body) (.loop .exhausted pend e0 ps asg body) F'' ∧ st ≠ .busy ∧ match pend with | none => Q .normal E F'' | some c => Ws tbl lo none c E F'' Q) :
    Ws tbl lo none (.rangeF f ps asg body) E F Q := by
  refine Ws.of fun e h0 he hF hlo hw => ?_
  have hfr : ∀ p ∈ F, p.1 ≠ h0.next := fun p hp => Nat.ne_of_lt (hF.lt p hp)
  have hev : f.ev e = fv := by rw [ev_eq', he]; exact hf
  have h1 := (h h0.next hlo e he).run (h0.new h0.next (.loop .ready none e ps asg body)) (hF.new _ hfr) (Nat.le_trans hlo (by show h0.next ≤ max h0.next (h0.next + 1); omega)) hw
  have hnx : h0.next ≤ (h0.new h0.next (.loop .ready none e ps asg body)).next := by show h0.next ≤ max h0.next (h0.next + 1); omega
  have hnew : ∀ {F' : Hp} {n : Nat}, h0.next ≤ n → New n ((h0.next, .loop .ready none e ps asg body) :: F) F' → New h0.next F F' := by
    intro F' n hn hN p hp
    rcases hN p hp with ⟨q, hq, hqe⟩ | h
    · rcases List.mem_cons.1 hq with rfl | hq
      · exact .inr (by rw [← hqe]; exact Nat.le_refl _)
      · exact .inl ⟨q, hq, hqe⟩
    · exact .inr (Nat.le_trans hn h)
  simp only [step, hev, hfn, Bool.true_and]
  refine bind_fuel (x := fun n => callF tbl (exec tbl n) fv [.fn (.yield h0.next) [] []] (h0.new h0.next (.loop .ready none e ps asg body))) (fun n m hn => callF_sub (exec_le tbl hn) _ _ _) ?_ h1 ?_
  · rintro ⟨v, h'⟩ n m hn
    dsimp only
    split
    · exact T.sub.refl _
    · split
      · exact T.sub.refl _
      · exact ex_le _ _ _ _ _ _ hn
    · exact T.sub.refl _
  · rintro ⟨v, h'⟩ ⟨F', hE, st, pend, F'', hu, hst, hq⟩
    have hg := hE.has.get _ hu.mem
    have hF2 : Has (h'.put h0.next (.loop .exhausted pend e ps asg body)) F'' := hE.has.put hu
    have hw2 : lo ≤ (h'.put h0.next (.loop .exhausted pend e ps asg body)).wmin := by
      have : lo ≤ h'.wmin := hE.wmin
      show lo ≤ min h'.wmin h0.next
      omega
    have hN2 : New h0.next F F'' := fun p hp => by
      have h2 : p.1 ∈ F'.map (·.1) := by rw [← hu.ids]; exact List.mem_map.2 ⟨p, hp, rfl⟩
      obtain ⟨q, hq', hqe⟩ := List.mem_map.1 h2
      rw [← hqe]
      exact hnew hnx hE.new q hq'
    have hnext : h0.next ≤ h'.next := Nat.le_trans hnx hE.next
    simp only [hg]
    cases pend with
    | none =>
      refine ⟨0, ?_⟩
      cases st with
      | busy => exact absurd rfl hst
      | _ => exact ⟨F'', ⟨hF2, hnext, hw2, hN2⟩, by rw [he]; exact hq⟩
    | some c =>
      obtain ⟨n, hn⟩ := Ws.run hq e (h'.put h0.next (.loop .exhausted (some c) e ps asg body)) he hF2 (Nat.le_trans hlo hnext) hw2
      refine ⟨n, ?_⟩
      cases st with
      | busy => exact absurd rfl hst
      | _ =>
        refine T.all_mono ?_ hn
        rintro r ⟨F3, hE3, hq3⟩
        exact ⟨F3, ⟨hE3.has, Nat.le_trans hnext hE3.next, hE3.wmin, hN2.trans hE3.new hnext⟩, hq3⟩
def RoundQ (L : Nat) (e0 : Env) (ps : List Nat) (asg body : AC) (Q : AV → Hp → Prop) : EX → FE → Hp → Prop := fun r _ F =>
  ∃ pend F', Upd F L (.loop .busy pend e0 ps asg body) (match r with | .normal => .loop .ready none e0 ps asg body | .ret => .loop .done (some .ret) e0 ps asg body | .exit id => .loop .done (some (.exit id)) e0 ps asg body) F' ∧
    Q (.bool (match r with | .normal => true | _ => false)) F'
theorem Fn.yield {L : Nat} {e0 e1 : Env} {ps : List Nat} {asg body : AC} {args : List AV} {Q : AV → Hp → Prop} (hm : (L, .loop .ready none e0 ps asg body) ∈ F) (hl : lo ≤ L) (hz : zipPut e0 ps args = some e1)
    (h : Ws tbl lo (some L) asg e1.fn F fun r E' F' => r = .normal ∧ ∃ F'', Upd F' L (.loop .ready none e0 ps asg body) (.loop .busy none e0 ps asg body) F'' ∧ Ws tbl lo (some L) body E' F'' (RoundQ L e0 ps asg body Q)) :
    Fn tbl lo (.fn (.yield L) [] []) args F Q := by
  refine ⟨fun h0 hF hlo hw => ?_⟩
  have hg := hF.get _ hm
  simp only [callF, hg, hz]
  refine bind_fuel (x := fun n => exec tbl n (some L) asg e1 h0) (ex_le _ _ _ _) ?_ (h.run e1 h0 rfl hF hlo hw) ?_
  · rintro ⟨x, e, h'⟩ n m hn
    cases x with
    | normal =>
      dsimp only
      split
      · exact T.sub.bind (ex_le _ _ _ _ _ _ hn) fun _ => T.sub.refl _
      · exact T.sub.refl _
    | ret => exact T.sub.refl _
    | exit id => exact T.sub.refl _
  · rintro ⟨x, e, h'⟩ ⟨F', hE, hx, F'', hu, hb⟩
    have hx : x = .normal := hx
    subst hx
    have hg' := hE.has.get _ hu.mem
    simp only [hg']
    have hw' : lo ≤ (h'.put L (.loop .busy none e0 ps asg body)).wmin := by
      have : lo ≤ h'.wmin := hE.wmin
      show lo ≤ min h'.wmin L
      omega
    have hbr := hb.run e (h'.put L (.loop .busy none e0 ps asg body)) rfl (hE.has.put hu) (Nat.le_trans hlo hE.next) hw'
    have hN2 : New h0.next F F'' := fun p hp => by
      have h2 : p.1 ∈ F'.map (·.1) := by rw [← hu.ids]; exact List.mem_map.2 ⟨p, hp, rfl⟩
      obtain ⟨q, hq', hqe⟩ := List.mem_map.1 h2
      rw [← hqe]
      exact hE.new q hq'
    refine bind_fuel (x := fun n => exec tbl n (some L) body e (h'.put L (.loop .busy none e0 ps asg body))) (ex_le _ _ _ _) (fun _ _ _ _ => T.sub.refl _) hbr ?_
    rintro ⟨x, e2, h2⟩ ⟨F3, hE3, pend, F4, hu4, hq4⟩
    refine ⟨0, ?_⟩
    have hg2 := hE3.has.get _ hu4.mem
    have hF4 := hE3.has.put hu4
    have hN4 : New h0.next F F4 := fun p hp => by
      have h5 : p.1 ∈ F3.map (·.1) := by rw [← hu4.ids]; exact List.mem_map.2 ⟨p, hp, rfl⟩
      obtain ⟨q, hq', hqe⟩ := List.mem_map.1 h5
      rw [← hqe]
      exact (hN2.trans hE3.new hE.next) q hq'
    have hw4 : lo ≤ min h2.wmin L := by
      have : lo ≤ h2.wmin := hE3.wmin
      omega
    have hnext : h0.next ≤ h2.next := Nat.le_trans hE.next hE3.next
    cases x with
    | normal => simp only [roundEnd, hg2]; exact ⟨F4, ⟨hF4, hnext, hw4, hN4⟩, hq4⟩
    | ret => simp only [roundEnd, hg2]; exact ⟨F4, ⟨hF4, hnext, hw4, hN4⟩, hq4⟩
    | exit id => simp only [roundEnd, hg2]; exact ⟨F4, ⟨hF4, hnext, hw4, hN4⟩, hq4⟩
end Go.Ax
end
section
namespace Go.Ax
variable {tbl : Nat → Option AFn} {lo bd : Nat} {rnd : Option Nat} {E : FE} {F : Hp} {d : Option Nat} {R : FE → Hp → Cls → Prop} {x y : AO} {kd : IntKind} {a b : Int}
abbrev ints (xs : List Int) : List AV := xs.map (.int .i64)
theorem ints_get (xs : List Int) {j : Nat} (hj : j < xs.length) : (ints xs)[j]? = some (.int .i64 (xs.getD j 0)) := by simp [ints, List.getD, List.getElem?_eq_getElem hj]
theorem splice_ints {xs : List Int} {j : Nat} {z : Int} (hj : j < xs.length) : splice (ints xs) j [.int .i64 z] = ints (xs.set j z) := by
  refine List.ext_getElem? fun i => ?_
  have hl : (splice (ints xs) j [AV.int .i64 z]).length = xs.length := by rw [splice_len (by simp [ints]; omega)]; simp [ints]
  by_cases hi : i < xs.length
  · simp only [splice, ints, List.length_cons, List.length_nil, Nat.zero_add]
    rw [List.getElem?_map, List.getElem?_set]
    by_cases h1 : i < j
    · rw [List.append_assoc, List.getElem?_append_left (by simp; omega), List.getElem?_take, if_pos h1, List.getElem?_map, if_neg (by omega)]
    · by_cases h2 : i = j
      · subst h2
        rw [List.append_assoc, List.getElem?_append_right (by simp; omega)]
        have : i - (List.take i (xs.map (AV.int .i64))).length = 0 := by simp; omega
        rw [this, if_pos rfl, if_pos hj]
        rfl
      · rw [List.getElem?_append_right (by simp; omega), List.getElem?_drop, if_neg (by omega)]
        have : j + 1 + (i - (List.take j (xs.map (AV.int .i64)) ++ [AV.int .i64 z]).length) = i := by simp; omega
        rw [this, List.getElem?_map]
  · rw [List.getElem?_eq_none (by omega), List.getElem?_eq_none (by simp [ints]; omega)]
theorem W1.loadI {b o j : Nat} {al : AO} {xs : List Int} {own : Bool} (ha : xev E al = .ptr (some (b, o))) (ho : o = j) (hm : (b, .cells (ints xs) own) ∈ F) (hj : j < xs.length) (k : R (fput E d (.int .i64 (xs.getD j 0))) F .x) : W1 tbl lo bd ⟨d, .load none al, none⟩ E F R := by
  subst ho
  exact W1.load1 ha hm (ints_get xs hj) k
theorem W1.loadIR {b o j : Nat} {al : AO} {xs : List Int} {own : Bool} (ha : xev E al = .ptr (some (b, o))) (ho : o = j) (hm : (b, .cells (ints xs) own) ∈ F) (hj : j < xs.length) (hb : b < bd) (k : R (fput E d (.int .i64 (xs.getD j 0))) F .r) : W1 tbl lo bd ⟨d, .load none al, none⟩ E F R := by
  subst ho
  exact W1.load1R ha hm (ints_get xs hj) hb k
theorem W1.storeI {b o j : Nat} {al v : AO} {xs : List Int} {z : Int} {F' : Hp} (ha : xev E al = .ptr (some (b, o))) (ho : o = j) (hv : xev E v = .int .i64 z) (hu : Upd F b (.cells (ints xs) true) (.cells (ints (xs.set j z)) true) F') (hj : j < xs.length) (hb : lo ≤ b) (k : R (fput E d .undef) F' .x) : W1 tbl lo bd ⟨d, .store 1 al v, none⟩ E F R := by
  subst ho
  exact W1.storeN (cs := [.int .i64 z]) ha (by rw [hv]; rfl) rfl hu.mem (splice_ints hj) hu (by simp [ints]; omega) hb k
theorem flatten_rep (n : Nat) : (List.replicate n [AV.int .i64 0]).flatten = ints (List.replicate n 0) := by
  induction n with
  | zero => rfl
  | succ n ih => rw [List.replicate_succ, List.flatten_cons, ih, List.replicate_succ]; rfl
theorem W1.mkslcI {len cap : AO} {n : Nat} (hl : xev E len = .int .i64 (n : Nat)) (hc : xev E cap = .int .i64 (n : Nat)) (hr : 8 * n ≤ room) (k : ∀ b, lo ≤ b → R (fput E d (.slc (some (b, 0)) n n true 1)) ((b, .cells (ints (List.replicate n 0)) true) :: F) .a) : W1 tbl lo bd ⟨d, .mkslc [.int .i64 0] 8 len cap, none⟩ E F R := by
  refine W1.new (v := .slc none n n true 1) (x := .cells (ints (List.replicate n 0)) true) ?_ k
  simp only [opLocF, hl, hc]
  rw [if_pos ⟨by omega, by omega, by omega⟩]
  rw [Int.toNat_natCast, flatten_rep]
  rfl
theorem W1.mkslcIz {len cap : AO} {z : Int} (n : Nat) (hl : xev E len = .int .i64 z) (hc : xev E cap = .int .i64 z) (hz : z = (n : Nat)) (hr : 8 * n ≤ room) (k : ∀ b, lo ≤ b → R (fput E d (.slc (some (b, 0)) n n true 1)) ((b, .cells (ints (List.replicate n 0)) true) :: F) .a) : W1 tbl lo bd ⟨d, .mkslc [.int .i64 0] 8 len cap, none⟩ E F R := by
  subst hz
  exact W1.mkslcI hl hc hr k
theorem W1.iaddrz {sz : Nat} {i : AO} {b o len cap es : Nat} {ex : Bool} {z : Int} (j : Nat) (hx : xev E x = .slc (some (b, o)) len cap ex es) (hi : xev E i = .int kd z) (hz : z = (j : Nat)) (hj : j < len) (k : R (fput E d (.ptr (some (b, o + j * sz)))) F .n) : W1 tbl lo bd ⟨d, .iaddrS sz x i, none⟩ E F R := by
  subst hz
  exact W1.iaddr hx hi hj k
theorem W1.iaddrIz {v : AV} {xs : List Int} {i : AO} {z : Int} (j : Nat) (hr : RowI F v xs) (hx : xev E x = v) (hi : xev E i = .int kd z) (hz : z = (j : Nat)) (hj : j < xs.length)
    (k : ∀ b o l own, (b, .cells l own) ∈ F → l[o]? = some (.int .i64 (xs.getD j 0)) → R (fput E d (.ptr (some (b, o)))) F .n) : W1 tbl lo bd ⟨d, .iaddrS 1 x i, none⟩ E F R := by
  subst hz
  exact W1.iaddrI hr hx hi hj k
theorem W1.lenv {p : Option (Nat × Nat)} {n cap es : Nat} {ex : Bool} (hx : xev E x = .slc p n cap ex es) (k : R (fput E d (.int .i64 (n : Nat))) F .n) : W1 tbl lo bd ⟨d, .len x, none⟩ E F R := W1.val (by simp only [opLocF, hx]) k
end Go.Ax
end
section
namespace Go.Ax
variable {tbl : Nat → Option AFn} {lo bd : Nat} {rnd : Option Nat} {E : FE} {F : Hp} {d : Option Nat} {R : FE → Hp → Cls → Prop} {x y : AO} {kd : IntKind} {a b : Int}
def AC.wr : AC → Option (List Nat)
  | .skip | .exit _ | .ret | .bad => some []
  | .seq a b | .cond _ a b => match a.wr, b.wr with | some x, some y => some (x ++ y) | _, _ => none
  | .block _ b | .loop b | .scope b => b.wr
  | .region ops | .draw ops _ => some (ops.filterMap (·.dst))
  | .rangeF .. => none
def Kept (ws : List Nat) (e e' : Env) : Prop := ∀ t, t ∉ ws → e'.get t = e.get t
theorem Kept.refl (ws : List Nat) (e : Env) : Kept ws e e := fun _ _ => rfl
theorem Kept.trans {ws : List Nat} {e e' e'' : Env} (h : Kept ws e e') (k : Kept ws e' e'') : Kept ws e e'' := fun t ht => (k t ht).trans (h t ht)
theorem Kept.mono {ws ws' : List Nat} {e e' : Env} (hs : ∀ t, t ∈ ws → t ∈ ws') (h : Kept ws e e') : Kept ws' e e' := fun t ht => h t fun hm => ht (hs t hm)
def memB (m t : Nat) : Bool := Nat.beq (Nat.mod (Nat.div m (Nat.pow 2 t)) 2) 1
def AC.wrOk (m : Nat) : AC → Bool
  | .skip | .exit _ | .ret | .bad => true
  | .seq a b | .cond _ a b => AC.wrOk m a && AC.wrOk m b
  | .block _ b | .loop b | .scope b => AC.wrOk m b
  | .region ops | .draw ops _ => ops.all fun o => match o.dst with | some t => memB m t | none => true
  | .rangeF .. => false
def mixE (m : Nat) (B E : FE) : FE := fun t => bif memB m t then B t else E t
theorem Holds.ext {E E' : FE} : ∀ {l : List (Nat × AV)}, (∀ p ∈ l, E' p.1 = E p.1) → Holds E l → Holds E' l
  | [], _, _ => trivial
  | p :: l, h, ⟨h1, h2⟩ => ⟨(h p (by simp)).trans h1, Holds.ext (fun q hq => h q (by simp [hq])) h2⟩
theorem Holds.append {E : FE} : ∀ {l l' : List (Nat × AV)}, Holds E l → Holds E l' → Holds E (l ++ l')
  | [], _, _, h => h
  | _ :: _, _, ⟨h1, h2⟩, h => ⟨h1, Holds.append h2 h⟩
section
variable {α : Type} {f : α → List AV} {n : Nat}
def RowZ {α : Type} (f : α → List AV) (n : Nat) (F : Hp) (v : AV) (xs : List α) : Prop :=
  ∃ p cap ex es, v = .slc p xs.length cap ex es ∧ ∀ j u, xs[j]? = some u → ∃ b o l own, p = some (b, o) ∧ (b, .cells l own) ∈ F ∧ o + j * n + n ≤ l.length ∧ (l.drop (o + j * n)).take n = f u
theorem RowZ.mono {F F' : Hp} {v : AV} {xs : List α} (h : RowZ f n F v xs) (hs : F ⊆ F') : RowZ f n F' v xs := by
  obtain ⟨p, cap, ex, es, rfl, h⟩ := h
  refine ⟨p, cap, ex, es, rfl, fun j u hj => ?_⟩
  obtain ⟨b, o, l, own, h1, h2, h3⟩ := h j u hj
  exact ⟨b, o, l, own, h1, hs h2, h3⟩
theorem RowZ.cons {F : Hp} {v : AV} {xs : List α} {p : Nat × ABlk} (h : RowZ f n F v xs) : RowZ f n (p :: F) v xs := h.mono (List.subset_cons_self _ _)
theorem RowZ.app {F G : Hp} {v : AV} {xs : List α} (h : RowZ f n F v xs) : RowZ f n (G ++ F) v xs := h.mono (List.subset_append_right _ _)
theorem RowZ.nil (F : Hp) (cap : Nat) (ex : Bool) (es : Nat) (p : Option (Nat × Nat)) : RowZ f n F (.slc p 0 cap ex es) [] := ⟨p, cap, ex, es, rfl, fun j u hj => by simp at hj⟩
theorem RowZ.slc {F : Hp} {v : AV} {xs : List α} (h : RowZ f n F v xs) : ∃ p cap ex es, v = .slc p xs.length cap ex es := by obtain ⟨p, cap, ex, es, h, _⟩ := h; exact ⟨p, cap, ex, es, h⟩
theorem RowZ.cell {F : Hp} {v : AV} {xs : List α} (h : RowZ f n F v xs) : v.cells = some [v] := by obtain ⟨p, cap, ex, es, rfl, _⟩ := h; rfl
theorem W1.lenZ {v : AV} {xs : List α} (hr : RowZ f n F v xs) (hx : xev E x = v) (k : R (fput E d (.int .i64 (xs.length : Nat))) F .n) : W1 tbl lo bd ⟨d, .len x, none⟩ E F R := by
  obtain ⟨p, cap, ex, es, rfl, _⟩ := hr
  exact W1.val (by simp only [opLocF, hx]) k
theorem getD_some {α : Type} [Inhabited α] {xs : List α} {j : Nat} (h : j < xs.length) : xs[j]? = some (xs.getD j default) := by simp [List.getD, List.getElem?_eq_getElem h]
theorem W1.iaddrZ [Inhabited α] {v : AV} {xs : List α} {i : AO} {z : Int} (j : Nat) (hr : RowZ f n F v xs) (hx : xev E x = v) (hi : xev E i = .int kd z) (hz : z = (j : Nat)) (hj : j < xs.length)
    (k : ∀ b o l own, (b, .cells l own) ∈ F → o + n ≤ l.length → (l.drop o).take n = f (xs.getD j default) → R (fput E d (.ptr (some (b, o)))) F .n) : W1 tbl lo bd ⟨d, .iaddrS n x i, none⟩ E F R := by
  subst hz
  obtain ⟨p, cap, ex, es, rfl, h⟩ := hr
  obtain ⟨b, o, l, own, rfl, h2, h3, h4⟩ := h j _ (getD_some hj)
  exact W1.iaddr (j := j) hx hi hj (k _ _ _ _ h2 h3 h4)
theorem seg_get {l fx : List AV} {o n i : Nat} {u : AV} (h : (l.drop o).take n = fx) (hi : fx[i]? = some u) : l[o + i]? = some u := by
  subst h
  rw [List.getElem?_take] at hi
  split at hi
  · rw [List.getElem?_drop] at hi; exact hi
  · cases hi
theorem seg_get0 {l fx : List AV} {o n : Nat} {u : AV} (h : (l.drop o).take n = fx) (hi : fx[0]? = some u) : l[o]? = some u := seg_get (i := 0) h hi
theorem seg_part {l fx : List AV} {o n i m : Nat} (h : (l.drop o).take n = fx) (hl : o + n ≤ l.length) (him : i + m ≤ n) : partC l (o + i) (some m) = some (.agg ((fx.drop i).take m)) := by
  subst h
  simp only [partC]
  rw [if_pos (by omega), List.drop_take, List.drop_drop, List.take_take, Nat.min_eq_left (by omega)]
def cellsZ {α : Type} (f : α → List AV) (xs : List α) : List AV := xs.flatMap f
theorem cellsZ_len (hf : ∀ u, (f u).length = n) (xs : List α) : (cellsZ f xs).length = xs.length * n := by
  induction xs with
  | nil => simp [cellsZ]
  | cons a xs ih => simp only [cellsZ, List.flatMap_cons, List.length_append, List.length_cons] at ih ⊢; rw [ih, hf, Nat.succ_mul, Nat.add_comm]
theorem cellsZ_seg (hf : ∀ u, (f u).length = n) : ∀ (xs : List α) (j : Nat) (u : α), xs[j]? = some u → ((cellsZ f xs).drop (j * n)).take n = f u
  | [], j, u, h => by simp at h
  | a :: xs, 0, u, h => by
    simp at h; subst h
    simp only [cellsZ, List.flatMap_cons, Nat.zero_mul, List.drop_zero]
    rw [List.take_append_of_le_length (by rw [hf]; exact Nat.le_refl _), List.take_of_length_le (by rw [hf]; exact Nat.le_refl _)]
  | a :: xs, j + 1, u, h => by
    simp only [cellsZ, List.flatMap_cons]
    have ih := cellsZ_seg hf xs j u (by simpa using h)
    rw [Nat.succ_mul, List.drop_append, hf]
    generalize hq : j * n = q at ih
    rw [List.drop_of_length_le (by rw [hf]; omega), List.nil_append, show q + n - n = q by omega]
    exact ih
theorem RowZ.lit (hf : ∀ u, (f u).length = n) {F : Hp} {b m cap es : Nat} {ex own : Bool} {l : List AV} {xs : List α} (hm : (b, .cells l own) ∈ F) (hl : l = cellsZ f xs) (hn : m = xs.length) : RowZ f n F (.slc (some (b, 0)) m cap ex es) xs := by
  subst hl hn
  refine ⟨some (b, 0), cap, ex, es, rfl, fun j u hj => ⟨b, 0, _, own, rfl, hm, ?_, ?_⟩⟩
  · have h1 : j < xs.length := (List.getElem?_eq_some_iff.1 hj).1
    rw [cellsZ_len hf, Nat.zero_add]
    calc j * n + n = (j + 1) * n := by rw [Nat.succ_mul]
      _ ≤ xs.length * n := Nat.mul_le_mul_right _ h1
  · rw [Nat.zero_add]; exact cellsZ_seg hf xs j u hj
inductive OwnZ {α : Type} (f : α → List AV) (n lo : Nat) (ex : Bool) : AV → Hp → List α → Prop
  | nil : OwnZ f n lo ex (.slc none 0 0 true 0) [] []
  | row {b : Nat} {xs : List α} (hb : lo ≤ b) : OwnZ f n lo ex (.slc (some (b, 0)) xs.length xs.length ex n) [(b, .cells (cellsZ f xs) true)] xs
theorem OwnZ.row' {lo b m : Nat} {ex : Bool} {xs : List α} {l : List AV} (hb : lo ≤ b) (hm : m = xs.length) (hl : l = cellsZ f xs) : OwnZ f n lo ex (.slc (some (b, 0)) m m ex n) [(b, .cells l true)] xs := by subst hm hl; exact .row hb
theorem OwnZ.rowZ (hf : ∀ u, (f u).length = n) {lo : Nat} {ex : Bool} {v : AV} {Fo F : Hp} {xs : List α} (h : OwnZ f n lo ex v Fo xs) (hs : Fo ⊆ F) : RowZ f n F v xs := by
  cases h with
  | nil => exact RowZ.nil _ _ _ _ _
  | @row b xs hb => exact RowZ.lit hf (hs (List.mem_cons_self ..)) rfl rfl
theorem OwnZ.cell {lo : Nat} {ex : Bool} {v : AV} {Fo : Hp} {xs : List α} (h : OwnZ f n lo ex v Fo xs) : v.cells = some [v] := by cases h <;> rfl
theorem OwnZ.slc {lo : Nat} {ex : Bool} {v : AV} {Fo : Hp} {xs : List α} (h : OwnZ f n lo ex v Fo xs) : ∃ p cap ex' es, v = .slc p xs.length cap ex' es := by cases h <;> exact ⟨_, _, _, _, rfl⟩
theorem cellsZ_app (xs : List α) (z : α) : cellsZ f (xs ++ [z]) = cellsZ f xs ++ f z := by simp [cellsZ]
theorem W1.appZ (hf : ∀ u, (f u).length = n) {ov : AV} {Fo F1 F2 : Hp} {xs : List α} {z : α} {ex : Bool} {s : AO} {xb cx xe bytes : Nat} {xx own : Bool} {l0 : List AV} (hF : F = F1 ++ (Fo ++ F2)) (ho : OwnZ f n lo ex ov Fo xs) (hs : xev E s = ov) (hx : xev E x = .slc (some (xb, 0)) 1 cx xx xe)
    (hm : (xb, .cells l0 own) ∈ F1 ++ F2) (hl0 : l0 = f z) (hby : bytes ≤ 1000) (hl : xs.length < 1000000000) (k : ∀ ov' Fo', OwnZ f n lo false ov' Fo' (xs ++ [z]) → R (fput E d ov') (Fo' ++ (F1 ++ F2)) .x) : W1 tbl lo bd ⟨d, .app n bytes s x, none⟩ E F R := by
  subst hF hl0
  refine W1.loc rfl fun h aid hF hfr hlo hw _ => ?_
  have hsub : (F1 ++ F2).Sublist (F1 ++ (Fo ++ F2)) := (List.Sublist.refl F1).append (List.sublist_append_right _ _)
  have hz := hf z
  have hroom : ∀ m, m < 1000000000 → (3 * (m + 1) + 2000) * bytes ≤ room := fun m hm => by
    have : (3 * (m + 1) + 2000) * bytes ≤ (3 * (1000000000 + 1) + 2000) * 1000 := Nat.mul_le_mul (by omega) hby
    unfold room
    omega
  have eo : List.take (1 * n) (List.drop 0 (f z)) = f z := by rw [List.drop_zero, Nat.one_mul, List.take_of_length_le (by omega)]
  cases ho with
  | nil =>
    refine ⟨.slc (some (aid, 0)) 1 1 false n, h.new aid (.cells (f z) true), .loc [xb] [] (some aid), _, .x, ?_, (hF.sub hsub).new _ (fun p hp => hfr p (hsub.subset hp)), by show h.next ≤ max h.next (aid + 1); omega, hw, trivial, ?_, k _ [(aid, .cells (f z) true)] (.row' hlo rfl (by simp [cellsZ]))⟩
    · simp only [opLocF, hs, hx]
      rw [if_pos (hroom 0 (by omega)), if_neg (by omega), if_pos trivial]
      simp only [Loc.run, getAll, hF.get _ (hsub.subset hm)]
      rw [if_pos (by rw [hz]; omega), eo]
      rfl
    · intro p hp
      rcases List.mem_cons.1 hp with rfl | hp
      · exact .inr (.inl rfl)
      · exact .inl ⟨p, hsub.subset hp, rfl⟩
  | @row b xs hb =>
    have hr : Rem (F1 ++ ([(b, .cells (cellsZ f xs) true)] ++ F2)) b (.cells (cellsZ f xs) true) (F1 ++ F2) := Rem.append
    have hcl := cellsZ_len hf xs
    have e2 : List.take (xs.length * n) (List.drop 0 (cellsZ f xs)) ++ List.take (1 * n) (List.drop 0 (f z)) = cellsZ f (xs ++ [z]) := by
      rw [eo, List.drop_zero, List.take_of_length_le (by omega), cellsZ_app]
    have hnew : ∀ p ∈ (aid, ABlk.cells (cellsZ f (xs ++ [z])) true) :: (F1 ++ F2), (∃ q ∈ F1 ++ ([(b, .cells (cellsZ f xs) true)] ++ F2), q.1 = p.1) ∨ p.1 = aid ∨ h.next ≤ p.1 := by
      intro p hp
      rcases List.mem_cons.1 hp with rfl | hp
      · exact .inr (.inl rfl)
      · exact .inl ⟨p, hsub.subset hp, rfl⟩
    have hrun : (3 * (xs.length + 1) + 2000) * bytes ≤ room := hroom _ hl
    cases ex with
    | false =>
      refine ⟨.slc (some (aid, 0)) (xs.length + 1) (xs.length + 1) false n, (h.put b .dead).new aid (.cells (cellsZ f (xs ++ [z])) true), .loc [b, xb] [b] (some aid), _, .x, ?_,
        (hF.rem hr).new _ (fun p hp => hfr p (hsub.subset hp)), by show h.next ≤ max h.next (aid + 1); omega, by show lo ≤ min h.wmin b; omega, trivial, hnew, k _ [(aid, .cells (cellsZ f (xs ++ [z])) true)] (.row' hlo (by simp) rfl)⟩
      simp only [opLocF, hs, hx]
      rw [if_pos hrun, if_neg (by omega)]
      simp only [Loc.run, getAll, hF.get _ (hsub.subset hm), hF.get _ hr.mem]
      rw [if_pos ⟨by rw [hcl]; omega, by rw [hz]; omega, .inr (by simp)⟩, e2]
      rfl
    | true =>
      refine ⟨.slc (some (aid, 0)) (xs.length + 1) (xs.length + 1) false n, h.new aid (.cells (cellsZ f (xs ++ [z])) true), .loc [b, xb] [] (some aid), _, .x, ?_,
        (hF.sub hsub).new _ (fun p hp => hfr p (hsub.subset hp)), by show h.next ≤ max h.next (aid + 1); omega, hw, trivial, hnew, k _ [(aid, .cells (cellsZ f (xs ++ [z])) true)] (.row' hlo (by simp) rfl)⟩
      simp only [opLocF, hs, hx]
      rw [if_pos hrun, if_neg (by omega)]
      simp only [Loc.run, getAll, hF.get _ (hsub.subset hm), hF.get _ hr.mem]
      rw [if_pos ⟨by rw [hcl]; omega, by rw [hz]; omega, .inl (by simp)⟩, e2]
      rw [Nat.beq_refl]
      rfl
end
theorem W1.eqfB {ag neg : Bool} {ks : List Leaf} {vx vy : AV} {t : Bool} (hx : xev E x = vx) (hy : xev E y = vy) (hb : eqAV ag ks vx vy = some t) (ht : (t != neg) = true → R (fput E d (.bool true)) F .n) (hf : (t != neg) = false → R (fput E d (.bool false)) F .n) : W1 tbl lo bd ⟨d, .eqf neg ag ks x y, none⟩ E F R :=
  W1.split (b := t != neg) (by simp only [opLocF, hx, hy, hb, Option.map_some]) ht hf
theorem W1.convI {z : Int} (hx : xev E x = .int kd z) (hz : -9223372036854775808 ≤ z ∧ z ≤ 9223372036854775807) (k : R (fput E d (.int .i64 z)) F .n) : W1 tbl lo bd ⟨d, .conv .i64 x, none⟩ E F R :=
  W1.wrap (by simp only [opLocF, hx]) (IntWalk.i64_in _ hz) k
theorem W1.remN (hx : xev E x = .int kd a) (hy : xev E y = .int kd b) (hb : 1 ≤ b) (hz : 0 ≤ a) (k : 0 ≤ a % b → a % b < b → R (fput E d (.int kd (a % b))) F .n) : W1 tbl lo bd ⟨d, .bin .rem x y, none⟩ E F R := by
  refine W1.val (v := .int kd (a % b)) ?_ (k (Int.emod_nonneg _ (by omega)) (Int.emod_lt_of_pos _ (by omega)))
  simp only [opLocF, hx, hy, binAV, binInt, ne_eq, not_true, if_false, if_neg (show ¬ b = 0 by omega), Int.tmod_eq_emod_of_nonneg hz]
end Go.Ax
end
section
namespace Go.Ax
variable {tbl : Nat → Option AFn} {lo bd : Nat} {rnd : Option Nat} {E : FE} {F : Hp} {d : Option Nat} {R : FE → Hp → Cls → Prop}
section
variable {κ ν : Type} {kf : κ → AV} {vf : ν → AV} {ag : Bool} {ks : List Leaf}
def KeyOk [DecidableEq κ] (kf : κ → AV) (ag : Bool) (ks : List Leaf) : Prop := ∀ a b, eqAV ag ks (kf a) (kf b) = some (decide (a = b))
def ents {κ ν : Type} (kf : κ → AV) (vf : ν → AV) (L : List (κ × ν × Nat)) : List AEnt := L.map fun p => ⟨kf p.1, vf p.2.1, p.2.2⟩
def mfind [DecidableEq κ] : List (κ × ν × Nat) → κ → Option (Nat × ν)
  | [], _ => none
  | p :: L, a => if a = p.1 then some (0, p.2.1) else (mfind L a).map fun q => (q.1 + 1, q.2)
def mval [DecidableEq κ] (vf : ν → AV) (z : AV) (L : List (κ × ν × Nat)) (a : κ) : AV := match mfind L a with | some (_, v) => vf v | none => z
end
def key2 (p : Int × Int) : AV := .agg [.int .i64 p.1, .int .i64 p.2]
def key1 (n : Int) : AV := .int .i64 n
end Go.Ax
end
section
namespace Go.Ax
theorem inF {P : Prop} (h : P := by iterate 24 (first | done | (first | with_reducible assumption | with_reducible exact List.mem_cons_self .. | exact List.mem_cons_self .. | with_reducible apply List.mem_cons_of_mem | assumption | apply List.mem_append_right | apply List.mem_cons_of_mem))) : P := h
theorem inU {P : Prop} (h : P := by iterate 24 (first | done | (first | exact Upd.head | apply Upd.tail | apply Upd.app))) : P := h
theorem inS {P : Prop} (h : P := by repeat (first | exact List.Sublist.refl _ | apply List.Sublist.cons_cons | apply List.Sublist.cons | exact List.nil_sublist _ | apply List.Sublist.append (List.Sublist.refl _) | refine List.Sublist.trans ?_ (List.sublist_append_right _ _))) : P := h
theorem inI {P : Prop} (h : P := by iterate 24 (first | done | (first | assumption | apply RowI.cons | apply RowI.app))) : P := h
theorem inR {P : Prop} (h : P := by iterate 24 (first | done | (first | assumption | apply RowR.cons | apply RowR.app))) : P := h
theorem inZ {P : Prop} (h : P := by iterate 24 (first | done | (first | assumption | apply RowZ.cons | apply RowZ.app))) : P := h
theorem inP {P : Prop} (h : P := by first | rfl | assumption) : P := h
theorem inL {P : Prop} (h : P := by conv => lhs; simp only [splice,  List.length_cons, List.length_nil, List.take_succ_cons, List.take_zero, List.drop_succ_cons, List.drop_zero, List.cons_append, List.nil_append, Nat.zero_add, Nat.reduceAdd]) : P := h
theorem inN {P : Prop} (h : P := by first | decide | (simp only [List.length_append, List.length_cons, List.length_nil]; omega)) : P := h
theorem inW {P : Prop} (h : P := by conv => lhs; whnf) : P := h
theorem inE {P : Prop} (h : P := by first | rfl | assumption) : P := h
theorem ltAll {F : Hp} {bd b : Nat} {x : ABlk} (h : ∀ p ∈ F, p.1 < bd) (hm : (b, x) ∈ F) : b < bd := h (b, x) hm
theorem inB {P : Prop} (h : P := by first | exact ltAll (by assumption) inF) : P := h
theorem inC {P : Prop} (h : P := by first | exact catF1 inW (by rfl) catF0 | exact catF1 inW (by rfl) (catF1 inW (by rfl) catF0) | exact catF2 rfl catF0 | exact catF1 inW (by rfl) (catF1 inW (by rfl) (catF1 inW (by rfl) catF0)) | exact catF2 rfl (catF2 rfl (catF2 rfl catF0)) | exact catFA rfl rfl catF0) : P := h
variable {tbl : Nat → Option AFn} {lo bd : Nat} {E : FE} {F : Hp} {R : FE → Hp → Cls → Prop} {z : Option Nat}
theorem isMv {a0} (h : W1 tbl lo bd ⟨z, .mv a0, none⟩ E F R) : W1 tbl lo bd ⟨z, .mv a0, none⟩ E F R := h
theorem isStoreI {a1} {a2} (h : W1 tbl lo bd ⟨z, .store 1 a1 a2, none⟩ E F R) : W1 tbl lo bd ⟨z, .store 1 a1 a2, none⟩ E F R := h
theorem isLoadN {a1} (h : W1 tbl lo bd ⟨z, .load none a1, none⟩ E F R) : W1 tbl lo bd ⟨z, .load none a1, none⟩ E F R := h
theorem isLoadS {a0} {a1} (h : W1 tbl lo bd ⟨z, .load (some a0) a1, none⟩ E F R) : W1 tbl lo bd ⟨z, .load (some a0) a1, none⟩ E F R := h
theorem isFaddr {a0} {a1} (h : W1 tbl lo bd ⟨z, .faddr a0 a1, none⟩ E F R) : W1 tbl lo bd ⟨z, .faddr a0 a1, none⟩ E F R := h
theorem isBinLss {a0} {a1} (h : W1 tbl lo bd ⟨z, .bin .lss a0 a1, none⟩ E F R) : W1 tbl lo bd ⟨z, .bin .lss a0 a1, none⟩ E F R := h
theorem isBinGtr {a0} {a1} (h : W1 tbl lo bd ⟨z, .bin .gtr a0 a1, none⟩ E F R) : W1 tbl lo bd ⟨z, .bin .gtr a0 a1, none⟩ E F R := h
theorem isBinLeq {a0} {a1} (h : W1 tbl lo bd ⟨z, .bin .leq a0 a1, none⟩ E F R) : W1 tbl lo bd ⟨z, .bin .leq a0 a1, none⟩ E F R := h
theorem isBinGeq {a0} {a1} (h : W1 tbl lo bd ⟨z, .bin .geq a0 a1, none⟩ E F R) : W1 tbl lo bd ⟨z, .bin .geq a0 a1, none⟩ E F R := h
theorem isBinEql {a0} {a1} (h : W1 tbl lo bd ⟨z, .bin .eql a0 a1, none⟩ E F R) : W1 tbl lo bd ⟨z, .bin .eql a0 a1, none⟩ E F R := h
theorem isBinNeq {a0} {a1} (h : W1 tbl lo bd ⟨z, .bin .neq a0 a1, none⟩ E F R) : W1 tbl lo bd ⟨z, .bin .neq a0 a1, none⟩ E F R := h
theorem isPick {a0} {a1} {a2} (h : W1 tbl lo bd ⟨z, .pick a0 a1 a2, none⟩ E F R) : W1 tbl lo bd ⟨z, .pick a0 a1 a2, none⟩ E F R := h
theorem isExt {a0} {a1} (h : W1 tbl lo bd ⟨z, .ext a0 a1, none⟩ E F R) : W1 tbl lo bd ⟨z, .ext a0 a1, none⟩ E F R := h
theorem isUnNot {a0} (h : W1 tbl lo bd ⟨z, .un .not a0, none⟩ E F R) : W1 tbl lo bd ⟨z, .un .not a0, none⟩ E F R := h
theorem isBinAdd {a0} {a1} (h : W1 tbl lo bd ⟨z, .bin .add a0 a1, none⟩ E F R) : W1 tbl lo bd ⟨z, .bin .add a0 a1, none⟩ E F R := h
theorem isBinSub {a0} {a1} (h : W1 tbl lo bd ⟨z, .bin .sub a0 a1, none⟩ E F R) : W1 tbl lo bd ⟨z, .bin .sub a0 a1, none⟩ E F R := h
theorem isBinMul {a0} {a1} (h : W1 tbl lo bd ⟨z, .bin .mul a0 a1, none⟩ E F R) : W1 tbl lo bd ⟨z, .bin .mul a0 a1, none⟩ E F R := h
theorem isUnNeg {a0} (h : W1 tbl lo bd ⟨z, .un .neg a0, none⟩ E F R) : W1 tbl lo bd ⟨z, .un .neg a0, none⟩ E F R := h
theorem isLen {a0} (h : W1 tbl lo bd ⟨z, .len a0, none⟩ E F R) : W1 tbl lo bd ⟨z, .len a0, none⟩ E F R := h
theorem isIaddrs {a0} {a1} {a2} (h : W1 tbl lo bd ⟨z, .iaddrS a0 a1 a2, none⟩ E F R) : W1 tbl lo bd ⟨z, .iaddrS a0 a1 a2, none⟩ E F R := h
theorem isMnx {a0} {a1} (h : W1 tbl lo bd ⟨z, .mnx a0 a1, none⟩ E F R) : W1 tbl lo bd ⟨z, .mnx a0 a1, none⟩ E F R := h
theorem isNilchk {a0} (h : W1 tbl lo bd ⟨z, .nilchk a0, none⟩ E F R) : W1 tbl lo bd ⟨z, .nilchk a0, none⟩ E F R := h
theorem isMkfn {a0} {a1} {a2} (h : W1 tbl lo bd ⟨z, .mkfn a0 a1 a2, none⟩ E F R) : W1 tbl lo bd ⟨z, .mkfn a0 a1 a2, none⟩ E F R := h
theorem isStore {a0} {a1} {a2} (h : W1 tbl lo bd ⟨z, .store a0 a1 a2, none⟩ E F R) : W1 tbl lo bd ⟨z, .store a0 a1 a2, none⟩ E F R := h
theorem isBox {a0} (h : W1 tbl lo bd ⟨z, .box a0, none⟩ E F R) : W1 tbl lo bd ⟨z, .box a0, none⟩ E F R := h
theorem isBslice {a0} {a1} {a2} {a3} (h : W1 tbl lo bd ⟨z, .bslice a0 a1 a2 a3, none⟩ E F R) : W1 tbl lo bd ⟨z, .bslice a0 a1 a2 a3, none⟩ E F R := h
theorem isBuild {a0} {a1} (h : W1 tbl lo bd ⟨z, .build a0 a1, none⟩ E F R) : W1 tbl lo bd ⟨z, .build a0 a1, none⟩ E F R := h
theorem isCall {a0} {a1} (h : W1 tbl lo bd ⟨z, .call a0 a1, none⟩ E F R) : W1 tbl lo bd ⟨z, .call a0 a1, none⟩ E F R := h
theorem W1.auto {op : AOp} {v : AV} {F' : Hp} {c : Cls} (k : R (fput E z v) F' c) (h : ∀ (d : Option Nat) (R : FE → Hp → Cls → Prop), R (fput E d v) F' c → W1 tbl lo bd ⟨d, op, none⟩ E F R := by
  intro d R k
  first
  | (refine isMv ?_; exact W1.mv inW k)
  | (refine isLoadN ?_; first | exact W1.load1R rfl inF inE inB k | exact W1.load1 rfl inF inE k)
  | (refine isLoadS ?_; first | exact W1.loadAR rfl inF rfl inB k | exact W1.load2R rfl inF inE inE inB k | exact W1.loadA rfl inF rfl k | exact W1.load2 rfl inF inE inE k)
  | (refine isFaddr ?_; first | exact W1.faddr0 rfl k | exact W1.faddr rfl k)
  | (refine isPick ?_; first | exact W1.pickT rfl inW k | exact W1.pickF rfl inW k)
  | (refine isExt ?_; exact W1.ext rfl rfl k)
  | (refine isUnNot ?_; first | exact W1.notT rfl k | exact W1.notF rfl k)
  | (refine isBinAdd ?_; exact W1.add rfl rfl (by omega) k)
  | (refine isBinSub ?_; exact W1.sub rfl rfl (by omega) k)
  | (refine isBinMul ?_; exact W1.mul rfl rfl (by omega) k)
  | (refine isUnNeg ?_; exact W1.neg rfl (by omega) k)
  | (refine isLen ?_; first | exact W1.lenI inI rfl k | exact W1.lenR inR rfl k | exact W1.lenZ inZ rfl k | exact W1.lenv rfl k)
  | (refine isMnx ?_; first | exact W1.max2 rfl rfl k | exact W1.min2 rfl rfl k)
  | (refine isNilchk ?_; exact W1.nilchk rfl k)
  | (refine isMkfn ?_; exact W1.mkfn rfl rfl k)
  | (refine isStoreI ?_; exact W1.storeInt rfl rfl inF inL inU inN (by omega) k)
  | (refine isStore ?_; exact W1.storeN rfl rfl rfl inF inL inU inN (by omega) k)
  | (refine isBuild ?_; first | exact W1.build (fill_all inC rfl) k | exact W1.build rfl k)) : W1 tbl lo bd ⟨z, op, none⟩ E F R := h z R k
end Go.Ax
end
section
open Go.RowKit Go.ChangeShapes
namespace Go.Ax
variable {P : Program} {w : World}
inductive SlcAt (w : World) (v : Value) (n : Nat) (l : List AV) : Prop
  | nil (hv : v = .slice none 0 0) (hn : n = 0)
  | row {B o cap : Nat} {arr : Array Value} {ty : TypeId} {fz : Nat × Nat} (hv : v = .slice (some ⟨B, o, none⟩) n cap) (hc : n ≤ cap) (hg : w.heap[B]? = some (.cells arr ty fz))
      (hfit : (cap = 0 ∧ l = []) ∨ o + l.length ≤ arr.size) (hrel : ∀ ι, RelC ι l ((arr.toList.drop o).take l.length))
structure GivenF (P : Program) (ι : Io) (h : H) (w : World) (F : Hp) : Prop where
  g : Given P ι h w
  f : Has h F
theorem GivenF.none (P : Program) (w : World) : GivenF P (fun _ => Option.none) H.nil w [] := ⟨Given.none P w, Has.nil _⟩
theorem GivenF.add {ι : Io} {h : H} {F : Hp} (G : GivenF P ι h w F) {p : Pl} {l : List AV} {arr : Array Value} {ty : TypeId} {fz : Nat × Nat} (hg : w.heap[p.B]? = some (.cells arr ty fz)) (hfit : p.O + l.length ≤ arr.size)
    (hrel : ∀ ι, RelC ι l ((arr.toList.drop p.O).take l.length)) : GivenF P (ι.put h.next p) (h.new h.next (.cells l false)) w ((h.next, .cells l false) :: F) := by
  have hlt : p.B < w.heap.size := (Array.getElem?_eq_some_iff.1 hg).1
  have hnew : h.get h.next = Option.none := by
    cases hx : h.get h.next with
    | none => rfl
    | some x => exact absurd (G.g.s.top _ x hx) (Nat.lt_irrefl _)
  have hun := G.g.s.unused _ hnew
  refine ⟨⟨⟨?_, ?_, ?_, ?_⟩, ?_⟩, G.f.new _ fun p hp => Nat.ne_of_lt (G.f.lt p hp)⟩
  · intro k y hk
    rw [H.get_new] at hk
    by_cases e : k = h.next
    · subst e
      rw [if_pos rfl] at hk
      cases hk
      exact ⟨p, Io.put_same _ _ _, hlt, hlt, arr, ty, fz, hg, hfit, hrel _⟩
    · rw [if_neg e] at hk
      obtain ⟨q, hq, h1, h2⟩ := G.g.s.blk k y hk
      exact ⟨q, by rw [Io.put_ne _ _ e]; exact hq, h1, h2.ext (Ext.put p hun) fun _ => rfl⟩
  · intro k hk
    rw [H.get_new] at hk
    by_cases e : k = h.next
    · rw [if_pos e] at hk; cases hk
    · rw [if_neg e] at hk; rw [Io.put_ne _ _ e]; exact G.g.s.unused k hk
  · intro k k' x x' q q' hk _ hm
    rw [H.get_new] at hk
    by_cases e : k = h.next
    · rw [if_pos e] at hk; cases hk; cases hm
    · rw [if_neg e] at hk
      rw [G.g.mine k x hk] at hm
      cases hm
  · intro k x hk
    rw [H.get_new] at hk
    show k < max h.next (h.next + 1)
    by_cases e : k = h.next
    · omega
    · rw [if_neg e] at hk
      have := G.g.s.top k x hk
      omega
  · intro k x hk
    rw [H.get_new] at hk
    by_cases e : k = h.next
    · rw [if_pos e] at hk; cases hk; rfl
    · rw [if_neg e] at hk; exact G.g.mine k x hk
theorem GivenF.slcS {ι : Io} {h : H} {F : Hp} (G : GivenF P ι h w F) {v : Value} {n : Nat} {l : List AV} (hv : SlcAt w v n l) :
    ∃ ι' h' F' av, GivenF P ι' h' w F' ∧ F ⊆ F' ∧ Ext ι ι' ∧ RelV ι' av v ∧ ∃ p cap ex, av = .slc p n cap ex 0 ∧ n ≤ cap ∧ (0 < n → ∃ b, p = some (b, 0) ∧ (b, .cells l false) ∈ F') := by
  cases hv with
  | nil hv hn =>
    subst hv hn
    exact ⟨ι, h, F, .slc Option.none 0 0 true 0, G, List.Subset.refl _, .refl _, .slcN, _, _, _, rfl, Nat.le_refl _, fun hn => absurd hn (Nat.not_lt_zero _)⟩
  | @row B o cap arr ty fz hv hc hg hfit hrel =>
    subst hv
    have hnew : ι h.next = Option.none := G.g.s.unused _ (by
      cases hx : h.get h.next with
      | none => rfl
      | some x => exact absurd (G.g.s.top _ x hx) (Nat.lt_irrefl _))
    rcases hfit with ⟨rfl, rfl⟩ | hfit
    · have hn : n = 0 := by omega
      subst hn
      exact ⟨_, _, _, .slc (some (h.next, 0)) 0 0 false 0, G.add (p := ⟨B, 0, 0⟩) (l := []) hg (Nat.zero_le _) (fun ι => ⟨⟨by simp, fun i a v h => by simp at h⟩, fun a h => by cases h⟩), List.subset_cons_self _ _, Ext.put _ hnew,
        .slc (Io.put_same _ _ _) (Nat.le_refl _) (Nat.le_refl _) (fun h => (by cases h)) (.inl rfl), _, _, _, rfl, Nat.le_refl _, fun hn => absurd hn (Nat.not_lt_zero _)⟩
    · exact ⟨_, _, _, .slc (some (h.next, 0)) n cap false 0, G.add (p := ⟨B, o, 0⟩) hg hfit hrel, List.subset_cons_self _ _, Ext.put _ hnew,
        .slc (Io.put_same _ _ _) hc (Nat.le_refl _) (fun h => (by cases h)) (.inr ⟨rfl, .inl rfl⟩), _, _, _, rfl, hc, fun _ => ⟨_, rfl, List.mem_cons_self ..⟩⟩
theorem GivenF.slc {ι : Io} {h : H} {F : Hp} (G : GivenF P ι h w F) {v : Value} {n : Nat} {l : List AV} (hv : SlcAt w v n l) :
    ∃ ι' h' F' av, GivenF P ι' h' w F' ∧ F ⊆ F' ∧ Ext ι ι' ∧ RelV ι' av v ∧ ∃ p cap ex es, av = .slc p n cap ex es ∧ (0 < n → ∃ b, p = some (b, 0) ∧ (b, .cells l false) ∈ F') := by
  obtain ⟨ι', h', F', av, a, b, c, d, p, cap, ex, e, _, hr⟩ := G.slcS hv
  exact ⟨ι', h', F', av, a, b, c, d, p, cap, ex, 0, e, hr⟩
def Sl (sz : Nat) (v : AV) : Prop := ∃ p n c ex es, v = .slc p n c ex es ∧ (es = 0 ∨ es = sz) ∧ n ≤ c
theorem GivenF.intsS {ι : Io} {h : H} {F : Hp} (G : GivenF P ι h w F) {v : Value} {xs : List Int} (hv : SlcAt w v xs.length (xs.map (.int .i64))) :
    ∃ ι' h' F' av, GivenF P ι' h' w F' ∧ F ⊆ F' ∧ Ext ι ι' ∧ RelV ι' av v ∧ av.scalar = true ∧ RowI F' av xs ∧ ∀ sz, Sl sz av := by
  obtain ⟨ι', h', F', av, a, b, c, d, p, cap, ex, rfl, hcap, hr⟩ := G.slcS hv
  refine ⟨ι', h', F', _, a, b, c, d, rfl, ⟨p, cap, ex, 0, rfl, fun j hj => ?_⟩, fun _ => ⟨_, _, _, _, _, rfl, .inl rfl, hcap⟩⟩
  obtain ⟨bk, rfl, hm⟩ := hr (by omega)
  exact ⟨bk, 0, _, _, rfl, hm, by simp [List.getD, List.getElem?_eq_getElem hj]⟩
theorem GivenF.ints {ι : Io} {h : H} {F : Hp} (G : GivenF P ι h w F) {v : Value} {xs : List Int} (hv : SlcAt w v xs.length (xs.map (.int .i64))) :
    ∃ ι' h' F' av, GivenF P ι' h' w F' ∧ F ⊆ F' ∧ Ext ι ι' ∧ RelV ι' av v ∧ av.scalar = true ∧ RowI F' av xs := by
  obtain ⟨ι', h', F', av, a, b, c, d, e, f, _⟩ := G.intsS hv
  exact ⟨ι', h', F', av, a, b, c, d, e, f⟩
theorem GivenF.pairsS {ι : Io} {h : H} {F : Hp} (G : GivenF P ι h w F) {v : Value} {rs : List (Int × Int)} (hv : SlcAt w v rs.length (flat rs)) :
    ∃ ι' h' F' av, GivenF P ι' h' w F' ∧ F ⊆ F' ∧ Ext ι ι' ∧ RelV ι' av v ∧ av.scalar = true ∧ RowR F' av rs ∧ ∀ sz, Sl sz av := by
  obtain ⟨ι', h', F', av, a, b, c, d, p, cap, ex, rfl, hcap, hr⟩ := G.slcS hv
  refine ⟨ι', h', F', _, a, b, c, d, rfl, ⟨p, cap, ex, 0, rfl, fun j hj => ?_⟩, fun _ => ⟨_, _, _, _, _, rfl, .inl rfl, hcap⟩⟩
  obtain ⟨bk, rfl, hm⟩ := hr (by omega)
  have h1 := flatR_get rs j hj
  exact ⟨bk, 0, _, _, rfl, hm, by rw [Nat.zero_add]; exact h1.1, by rw [Nat.zero_add]; exact h1.2⟩
theorem GivenF.pairs {ι : Io} {h : H} {F : Hp} (G : GivenF P ι h w F) {v : Value} {rs : List (Int × Int)} (hv : SlcAt w v rs.length (flat rs)) :
    ∃ ι' h' F' av, GivenF P ι' h' w F' ∧ F ⊆ F' ∧ Ext ι ι' ∧ RelV ι' av v ∧ av.scalar = true ∧ RowR F' av rs := by
  obtain ⟨ι', h', F', av, a, b, c, d, e, f, _⟩ := G.pairsS hv
  exact ⟨ι', h', F', av, a, b, c, d, e, f⟩
section
variable {H' : Type} {enc : TypeId × Value → H'} {base : Nat} {held : Bool} {fuel : Nat}
theorem slc_heap {base : Nat} {r : Reach} {t e : TypeId} {a : Addr} {len cap : Nat} (ht : P.underlying t = some (.slice e)) (h : Cell.okWide P w r base t (.slice (some a) len cap)) : ∃ B o arr ty fz, a = ⟨B, o, Option.none⟩ ∧ w.heap[B]? = some (.cells arr ty fz) := by
  simp only [Cell.okWide, ht, Cell.ok, World.has] at h
  obtain ⟨_, _, _, hs, row, cells, hsh, _⟩ := h
  obtain ⟨B, o, sp⟩ := a
  simp only at hs hsh
  subst hs
  unfold World.shape? at hsh
  split at hsh
  · rename_i c elem fz hg
    exact ⟨B, o, c, elem, fz, rfl, hg⟩
  · cases hsh
theorem cell_arr {B o : Nat} {arr : Array Value} {ty : TypeId} {fz : Nat × Nat} {v : Value} {i : Nat} (hg : w.heap[B]? = some (.cells arr ty fz)) (h : w.cell? ((⟨B, o, Option.none⟩ : Addr).add i) = some v) : arr[o + i]? = some v := by
  have e : (⟨B, o, Option.none⟩ : Addr).add i = ⟨B, o + i, Option.none⟩ := by unfold Addr.add; split <;> simp_all
  rw [e] at h
  simp only [World.cell?, hg] at h
  exact h
theorem relC_of {l : List AV} {vs : List Value} {arr : Array Value} {o : Nat} (hl : l.length = vs.length) (hfit : ∀ i v, vs[i]? = some v → arr[o + i]? = some v) (hr : ∀ ι, RelC ι l vs) (ι : Io) : RelC ι l ((arr.toList.drop o).take l.length) := by
  have e : (arr.toList.drop o).take l.length = vs := by
    refine List.ext_getElem? fun i => ?_
    rw [List.getElem?_take]
    by_cases hi : i < l.length
    · rw [if_pos hi, List.getElem?_drop, Array.getElem?_toList]
      obtain ⟨v, hv⟩ : ∃ v, vs[i]? = some v := ⟨_, List.getElem?_eq_getElem (by omega)⟩
      rw [hv]
      exact hfit i v hv
    · rw [if_neg hi, List.getElem?_eq_none (by omega)]
  rw [e]
  exact hr ι
theorem relC_ints (k : IntKind) (xs : List Int) (ι : Io) : RelC ι (xs.map (.int k)) (xs.map (.int k)) := by
  refine ⟨⟨by simp, fun i a v ha hv => ?_⟩, fun a ha => ?_⟩
  · rw [List.getElem?_map] at ha hv
    cases hx : xs[i]? with
    | none => rw [hx] at ha; cases ha
    | some n => rw [hx] at ha hv; cases ha; cases hv; exact .int _ _
  · obtain ⟨n, _, rfl⟩ := List.mem_map.1 ha
    rfl
structure IsPair (P : Program) (e : TypeId) (k : IntKind) : Prop where
  fs : ∃ f1 f2 : Field, P.underlying e = some (.struct #[f1, f2]) ∧ P.underlying f1.type = some (.int k) ∧ P.underlying f2.type = some (.int k) ∧ f1.offset = 0 ∧ f2.offset = 1 ∧ P.cellsOf f1.type = 1 ∧ P.cellsOf f2.type = 1
  size : P.cellsOf e = 2
theorem open_pair2 {spare : Nat → Bool} {e : TypeId} {k : IntKind} {cs : List Value} {x : DataW H' × List MemPlace} (hp : IsPair P e k) (h : DataW.trod enc P w base spare held fuel e cs = some x) : ∃ a b, cs = [.int k a, .int k b] := by
  obtain ⟨f1, f2, hs, h1, h2, o1, o2, c1, c2⟩ := hp.fs
  obtain ⟨xs, n, _, _, hl, hxs, hf⟩ := DataW.trod_struct hs h
  rw [hp.size] at hl
  obtain ⟨u, v, rfl⟩ : ∃ u v, cs = [u, v] := by
    match cs, hl with
    | [u, v], _ => exact ⟨u, v, rfl⟩
  have e1 := hf 0 f1 rfl
  have e2 := hf 1 f2 rfl
  rw [o1, c1] at e1
  rw [o2, c2] at e2
  have hx : xs.length = 2 := hxs
  rw [List.getElem?_eq_getElem (by omega)] at e1 e2
  obtain ⟨a, ha, _⟩ := DataW.trod_int h1 e1
  obtain ⟨b, hb, _⟩ := DataW.trod_int h2 e2
  simp at ha hb
  exact ⟨a, b, by rw [ha, hb]⟩
end
end Go.Ax
end
section
namespace Go.Ax
section
variable {tbl : Nat → Option AFn} {lo bd : Nat} {rnd : Option Nat} {E : FE} {F : Hp}
theorem Has.perm {h : H} {F F' : Hp} (k : Has h F) (hp : F'.Perm F) : Has h F' :=
  ⟨fun p hm => k.get p (hp.mem_iff.1 hm), fun p hm => k.lt p (hp.mem_iff.1 hm), (hp.map (·.1)).nodup_iff.2 k.nd⟩
theorem New.perm {n : Nat} {F F0 F' : Hp} (h : New n F' F0) (hp : F'.Perm F) : New n F F0 := fun p hm => by
  rcases h p hm with ⟨q, hq, he⟩ | h
  · exact .inl ⟨q, hp.mem_iff.1 hq, he⟩
  · exact .inr h
theorem Ws.perm {F' : Hp} {c : AC} {Q : EX → FE → Hp → Prop} (hp : F'.Perm F) (h : Ws tbl lo rnd c E F' Q) : Ws tbl lo rnd c E F Q := ⟨fun e h0 a b c d => by
  obtain ⟨n, hn⟩ := h.run e h0 a (b.perm hp) c d
  exact ⟨n, T.all_mono (fun r ⟨F'', e, q⟩ => ⟨F'', ⟨e.has, e.next, e.wmin, e.new.perm hp⟩, q⟩) hn⟩⟩
theorem Fn.perm {F' : Hp} {f : AV} {args : List AV} {Q : AV → Hp → Prop} (hp : F'.Perm F) (h : Fn tbl lo f args F' Q) : Fn tbl lo f args F Q := ⟨fun h0 b c d => by
  obtain ⟨n, hn⟩ := h.run h0 (b.perm hp) c d
  exact ⟨n, T.all_mono (fun r ⟨F'', e, q⟩ => ⟨F'', ⟨e.has, e.next, e.wmin, e.new.perm hp⟩, q⟩) hn⟩⟩
theorem New.less {n : Nat} {F F' F'' : Hp} (h : New n F'' F') (hs : F''.Sublist F) : New n F F' := fun p hp => by
  rcases h p hp with ⟨q, hq, he⟩ | h
  · exact .inl ⟨q, hs.subset hq, he⟩
  · exact .inr h
theorem Fn.weak {F' : Hp} {f : AV} {args : List AV} {Q : AV → Hp → Prop} (hs : F'.Sublist F) (h : Fn tbl lo f args F' Q) : Fn tbl lo f args F Q := ⟨fun h0 b c d => by
  obtain ⟨n, hn⟩ := h.run h0 (b.sub hs) c d
  exact ⟨n, T.all_mono (fun r ⟨F'', e, q⟩ => ⟨F'', ⟨e.has, e.next, e.wmin, e.new.less hs⟩, q⟩) hn⟩⟩
theorem Fn.shrink {f : AV} {args : List AV} {Q : AV → Hp → Prop} (h : Fn tbl lo f args F fun v F' => ∃ F0, F0.Sublist F' ∧ Q v F0) : Fn tbl lo f args F Q := ⟨fun h0 b c d => by
  obtain ⟨n, hn⟩ := h.run h0 b c d
  exact ⟨n, T.all_mono (fun r ⟨F'', e, F0, hs, q⟩ => ⟨F0, ⟨e.has.sub hs, e.next, e.wmin, e.new.sub hs⟩, q⟩) hn⟩⟩
theorem Ws.shrink {c : AC} {Q : EX → FE → Hp → Prop} (h : Ws tbl lo rnd c E F fun r E' F' => ∃ F0, F0.Sublist F' ∧ Q r E' F0) : Ws tbl lo rnd c E F Q := ⟨fun e h0 a b c d => by
  obtain ⟨n, hn⟩ := h.run e h0 a b c d
  exact ⟨n, T.all_mono (fun r ⟨F'', e, F0, hs, q⟩ => ⟨F0, ⟨e.has.sub hs, e.next, e.wmin, e.new.sub hs⟩, q⟩) hn⟩⟩
theorem Upd.less {F F' : Hp} {b : Nat} {x y : ABlk} (h : Upd F b x y F') : ∃ F0, Rem F b x F0 ∧ F0.Sublist F' := by
  induction h with
  | head => exact ⟨_, .head, List.sublist_cons_self ..⟩
  | tail _ ih => obtain ⟨F0, h1, h2⟩ := ih; exact ⟨_, .tail h1, h2.cons_cons _⟩
theorem Rem.upd {F F0 : Hp} {b : Nat} {x : ABlk} (y : ABlk) (h : Rem F b x F0) : ∃ F', Upd F b x y F' ∧ F0.Sublist F' := by
  induction h with
  | head => exact ⟨_, .head, List.sublist_cons_self ..⟩
  | tail _ ih => obtain ⟨F', h1, h2⟩ := ih; exact ⟨_, .tail h1, h2.cons_cons _⟩
theorem Ws.rangeV {f : AO} {ps : List Nat} {asg body : AC} {fv : AV} {Q : EX → FE → Hp → Prop} (hf : xev E f = fv) (hfn : fv.isFunc = true)
    (h : ∀ (L : Nat) (rdy bsy : ABlk), lo ≤ L →
      (∀ {lo' : Nat} {F1 : Hp} {args : List AV} {Q' : AV → Hp → Prop}, (L, rdy) ∈ F1 → lo' ≤ L → args.length = ps.length →
        Ws tbl lo' (some L) asg ((ps.zip args).foldl (fun E p => setE E p.1 p.2) E) F1 (fun r E' F' => r = .normal ∧ ∃ F'', Upd F' L rdy bsy F'' ∧
          Ws tbl lo' (some L) body E' F'' (fun r _ F3 => r = .normal ∧ ∃ F4, Upd F3 L bsy rdy F4 ∧ Q' (.bool true) F4)) → Fn tbl lo' (.fn (.yield L) [] []) args F1 Q') →
      Fn tbl lo fv [.fn (.yield L) [] []] ((L, rdy) :: F) fun _ F' => ∃ F'', Rem F' L rdy F'' ∧ Q .normal E F'') :
    Ws tbl lo none (.rangeF f ps asg body) E F Q := by
  refine Ws.shrink (Ws.rangeF hf hfn fun L hL e0 he0 => ?_)
  refine (h L (.loop .ready none e0 ps asg body) (.loop .busy none e0 ps asg body) hL ?_).mono ?_
  · intro lo' F1 args Q' hm hl ha hw
    have hz : ∀ {ps : List Nat} {args : List AV} (e : Env), args.length = ps.length → ∃ e1, zipPut e ps args = some e1 := by
      intro ps
      induction ps with
      | nil => intro args e ha; cases args with
        | nil => exact ⟨e, rfl⟩
        | cons _ _ => cases ha
      | cons t ps ih => intro args e ha; cases args with
        | nil => cases ha
        | cons v vs => exact ih (PT.set e t v) (by simpa using ha)
    obtain ⟨e1, hz1⟩ := hz e0 ha
    refine Fn.yield hm hl hz1 ?_
    rw [zipPut_fn hz1, he0]
    refine hw.mono ?_
    rintro r E' F' ⟨rfl, F'', hu, hb⟩
    refine ⟨rfl, F'', hu, hb.mono ?_⟩
    rintro r E2 F3 ⟨rfl, F4, hu2, hq⟩
    exact ⟨none, F4, hu2, hq⟩
  · rintro v F' ⟨F'', hr, hq⟩
    obtain ⟨F3, hu, hs⟩ := hr.upd (.loop .exhausted none e0 ps asg body)
    exact ⟨.ready, none, F3, hu, by simp, F'', hs, hq⟩
def AC.ranges : AC → List AC
  | .seq a b | .cond _ a b => a.ranges ++ b.ranges
  | .block _ b | .loop b | .scope b => b.ranges
  | .rangeF f ps asg body => [.rangeF f ps asg body]
  | _ => []
def AC.loops : AC → List AC
  | .seq a b | .cond _ a b => a.loops ++ b.loops
  | .block _ b | .scope b => b.loops
  | .loop b => .loop b :: b.loops
  | .rangeF _ _ _ b => b.loops
  | _ => []
def AC.rangeAt (c : AC) (n : Nat) : AC := (c.ranges[n]?).getD .bad
def AC.loopAt (c : AC) (n : Nat) : AC := (c.loops[n]?).getD .bad
end
section
variable {lo : Nat} {F : Hp}
theorem Wo.fresh {tbl : Nat → Option AFn} {ops : List AOper} {E : FE} {Q : FE → Hp → Prop} {l : List (Nat × AV)} (h : Holds E l) (k : ∀ B, Wo tbl lo ops (upds B l) F Q) : Wo tbl lo ops E F Q := by
  have := k E
  rw [h.upds] at this
  exact this
theorem Ws.fresh {tbl : Nat → Option AFn} {rnd : Option Nat} {c : AC} {E : FE} {Q : EX → FE → Hp → Prop} {l : List (Nat × AV)} (h : Holds E l) (k : ∀ B, Ws tbl lo rnd c (upds B l) F Q) : Ws tbl lo rnd c E F Q := by
  have := k E
  rw [h.upds] at this
  exact this
section
variable {tbl : Nat → Option AFn} {bd : Nat} {E : FE} {d : Option Nat} {R : FE → Hp → Cls → Prop} {x y : AO} {kd : IntKind} {a b : Int}
theorem W1.lssT (hx : xev E x = .int kd a) (hy : xev E y = .int kd b) (h : a < b) (k : R (fput E d (.bool true)) F .n) : W1 tbl lo bd ⟨d, .bin .lss x y, none⟩ E F R := W1.lss hx hy (fun _ => k) (fun e => absurd e (by omega))
theorem W1.lssF (hx : xev E x = .int kd a) (hy : xev E y = .int kd b) (h : b ≤ a) (k : R (fput E d (.bool false)) F .n) : W1 tbl lo bd ⟨d, .bin .lss x y, none⟩ E F R := W1.lss hx hy (fun e => absurd e (by omega)) (fun _ => k)
theorem W1.gtrT (hx : xev E x = .int kd a) (hy : xev E y = .int kd b) (h : b < a) (k : R (fput E d (.bool true)) F .n) : W1 tbl lo bd ⟨d, .bin .gtr x y, none⟩ E F R := W1.gtr hx hy (fun _ => k) (fun e => absurd e (by omega))
theorem W1.gtrF (hx : xev E x = .int kd a) (hy : xev E y = .int kd b) (h : a ≤ b) (k : R (fput E d (.bool false)) F .n) : W1 tbl lo bd ⟨d, .bin .gtr x y, none⟩ E F R := W1.gtr hx hy (fun e => absurd e (by omega)) (fun _ => k)
theorem W1.leqT (hx : xev E x = .int kd a) (hy : xev E y = .int kd b) (h : a ≤ b) (k : R (fput E d (.bool true)) F .n) : W1 tbl lo bd ⟨d, .bin .leq x y, none⟩ E F R := W1.leq hx hy (fun _ => k) (fun e => absurd e (by omega))
theorem W1.leqF (hx : xev E x = .int kd a) (hy : xev E y = .int kd b) (h : b < a) (k : R (fput E d (.bool false)) F .n) : W1 tbl lo bd ⟨d, .bin .leq x y, none⟩ E F R := W1.leq hx hy (fun e => absurd e (by omega)) (fun _ => k)
theorem W1.geqT (hx : xev E x = .int kd a) (hy : xev E y = .int kd b) (h : b ≤ a) (k : R (fput E d (.bool true)) F .n) : W1 tbl lo bd ⟨d, .bin .geq x y, none⟩ E F R := W1.geq hx hy (fun _ => k) (fun e => absurd e (by omega))
theorem W1.geqF (hx : xev E x = .int kd a) (hy : xev E y = .int kd b) (h : a < b) (k : R (fput E d (.bool false)) F .n) : W1 tbl lo bd ⟨d, .bin .geq x y, none⟩ E F R := W1.geq hx hy (fun e => absurd e (by omega)) (fun _ => k)
theorem W1.eqlT (hx : xev E x = .int kd a) (hy : xev E y = .int kd b) (h : a = b) (k : R (fput E d (.bool true)) F .n) : W1 tbl lo bd ⟨d, .bin .eql x y, none⟩ E F R := W1.eql hx hy (fun _ => k) (fun e => absurd e (by omega))
theorem W1.eqlF (hx : xev E x = .int kd a) (hy : xev E y = .int kd b) (h : a ≠ b) (k : R (fput E d (.bool false)) F .n) : W1 tbl lo bd ⟨d, .bin .eql x y, none⟩ E F R := W1.eql hx hy (fun e => absurd e (by omega)) (fun _ => k)
theorem W1.neqT (hx : xev E x = .int kd a) (hy : xev E y = .int kd b) (h : a ≠ b) (k : R (fput E d (.bool true)) F .n) : W1 tbl lo bd ⟨d, .bin .neq x y, none⟩ E F R := W1.neq hx hy (fun _ => k) (fun e => absurd e (by omega))
theorem W1.neqF (hx : xev E x = .int kd a) (hy : xev E y = .int kd b) (h : a = b) (k : R (fput E d (.bool false)) F .n) : W1 tbl lo bd ⟨d, .bin .neq x y, none⟩ E F R := W1.neq hx hy (fun e => absurd e (by omega)) (fun _ => k)
end
theorem OwnI.sl {ex : Bool} {v : AV} {Fo : Hp} {xs : List Int} (h : OwnI lo ex v Fo xs) : Sl 1 v := by
  cases h with
  | nil => exact ⟨_, _, _, _, _, rfl, .inl rfl, Nat.le_refl _⟩
  | row => exact ⟨_, _, _, _, _, rfl, .inr rfl, Nat.le_refl _⟩
section
variable {tbl : Nat → Option AFn} {bd : Nat} {E : FE} {d : Option Nat} {R : FE → Hp → Cls → Prop} {x i : AO} {kd : IntKind}
theorem W1.slcTail {b o n c es sz : Nat} {ex : Bool} (hx : xev E x = .slc (some (b, o)) n c ex es) (hs : es = 0 ∨ es = sz) (hi : xev E i = .int kd 1) (hn : 0 < n)
    (k : R (fput E d (.slc (some (b, o + 1 * sz)) (n - 1) (c - 1) ex es)) F .n) : W1 tbl lo bd ⟨d, .slc sz x (some i) none none, none⟩ E F R := by
  refine W1.val (v := .slc (some (b, o + 1 * sz)) (n - 1) (c - 1) ex es) ?_ k
  have h2 : (Nat.beq es 0 || Nat.beq es sz) = true := by
    rcases hs with rfl | rfl
    · rfl
    · rw [Nat.beq_refl, Bool.or_true]
  simp only [opLocF, hx, hi, Option.map_some, Option.map_none, bounds3, bound, Option.bind_eq_bind, Option.bind_some, Option.isSome_none, Bool.false_and, Bool.false_eq_true, if_false]
  rw [if_pos (show (0 : Int) ≤ 1 ∧ (1 : Int) ≤ (n : Int) by omega)]
  simp [moved, h2]
end
end
section
theorem ints_of {l : List AV} : ∀ {xs : List Int} {o : Nat}, (∀ j, j < xs.length → l[o + j]? = some (.int .i64 (xs.getD j 0))) → (l.drop o).take (xs.length * 1) = xs.map (.int .i64)
  | [], o, _ => by simp
  | x :: xs, o, h => by
    have h1 := h 0 (by simp)
    have ih := ints_of (l := l) (xs := xs) (o := o + 1) fun j hj => by
      have := h (j + 1) (by simpa using hj)
      rw [show o + 1 + j = o + (j + 1) by omega]
      simpa using this
    simp only [Nat.add_zero, List.getD_cons_zero] at h1
    obtain ⟨l1, e1⟩ := List.getElem?_eq_some_iff.1 h1
    rw [List.drop_eq_getElem_cons l1, e1, List.length_cons, Nat.add_mul, Nat.one_mul, List.take_succ_cons, ih]
    simp
section
variable {tbl : Nat → Option AFn} {lo bd : Nat} {E : FE} {F : Hp} {d : Option Nat} {R : FE → Hp → Cls → Prop} {s x : AO}
theorem W1.appRow {sz bytes sb m n xb xo cap es : Nat} {ex own own' : Bool} {la l' l2 : List AV} (hs : xev E s = .slc (some (sb, 0)) m m true sz) (hmb : (sb, .cells la own) ∈ F) (hm : la.length = m * sz) (hx : xev E x = .slc (some (xb, xo)) n cap ex es) (hn : 0 < n) (hz : 0 < sz)
    (hxm : (xb, .cells l' own') ∈ F) (hl' : ∀ h, Has h F → (l'.drop xo).take (n * sz) = l2) (hlen : l2.length = n * sz) (hb : bytes ≤ 100) (hl : m + n < 1000000000)
    (k : ∀ b, lo ≤ b → R (fput E d (.slc (some (b, 0)) (m + n) (m + n) false sz)) ((b, .cells (la ++ l2) true) :: F) .x) : W1 tbl lo bd ⟨d, .app sz bytes s x, none⟩ E F R := by
  refine W1.loc rfl fun h aid hF hfr hlo hw _ => ?_
  have e2 := hl' h hF
  have hfit : xo + n * sz ≤ l'.length ∨ n * sz = 0 := by
    have := congrArg List.length e2
    rw [List.length_take, List.length_drop, hlen] at this
    omega
  refine ⟨.slc (some (aid, 0)) (m + n) (m + n) false sz, h.new aid (.cells (la ++ l2) true), .loc [sb, xb] [] (some aid), _, .x, ?_, hF.new _ (fun p hp => hfr p hp), by show h.next ≤ max h.next (aid + 1); omega, hw, trivial, ?_, k _ hlo⟩
  · simp only [opLocF, hs, hx]
    have hroom : (3 * (m + n) + 2000) * bytes ≤ room := by
      calc (3 * (m + n) + 2000) * bytes ≤ (3 * 1000000000 + 2000) * 100 := Nat.mul_le_mul (by omega) hb
        _ ≤ room := by unfold room; omega
    rw [if_pos hroom, if_neg (by omega)]
    simp only [Loc.run, getAll, hF.get _ hmb, hF.get _ hxm]
    have hxfit : xo + n * sz ≤ l'.length := by
      rcases hfit with h1 | h1
      · exact h1
      · exact absurd (Nat.mul_eq_zero.1 h1) (by omega)
    rw [if_pos ⟨by omega, hxfit, .inl (by simp)⟩]
    rw [List.drop_zero, ← hm, List.take_length, e2, Nat.beq_refl]
    rfl
  · intro p hp
    rcases List.mem_cons.1 hp with rfl | hp
    · exact .inr (.inl rfl)
    · exact .inl ⟨p, hp, rfl⟩
theorem W1.appRowI {sb m : Nat} {own : Bool} {as xs : List Int} {v : AV} (hs : xev E s = .slc (some (sb, 0)) m m true 1) (hmb : (sb, .cells (as.map (.int .i64)) own) ∈ F) (hm : m = as.length) (hr : RowI F v xs) (hx : xev E x = v) (hn : 0 < xs.length) (hl : as.length + xs.length < 1000000000)
    (k : ∀ b, lo ≤ b → R (fput E d (.slc (some (b, 0)) (as ++ xs).length (as ++ xs).length false 1)) ((b, .cells ((as ++ xs).map (.int .i64)) true) :: F) .x) : W1 tbl lo bd ⟨d, .app 1 8 s x, none⟩ E F R := by
  obtain ⟨p, cap, ex, es, rfl, hj⟩ := hr
  obtain ⟨xb, xo, l', own', rfl, hxm, _⟩ := hj 0 hn
  subst hm
  refine W1.appRow hs hmb (by simp) hx hn (by omega) hxm (l2 := xs.map (.int .i64)) (fun h hF => ints_of fun j hjl => ?_) (by simp) (by omega) hl (fun b hb => ?_)
  · obtain ⟨b2, o2, l2, own2, he, hm2, h1⟩ := hj j hjl
    cases he
    have e1 := hF.get _ hxm
    have e2 := hF.get _ hm2
    rw [e1] at e2
    cases e2
    exact h1
  · have := k b hb
    rw [List.length_append, List.map_append] at this
    exact this
end
end
section
variable {tbl : Nat → Option AFn} {lo bd : Nat} {E : FE} {F : Hp} {z : Option Nat} {R : FE → Hp → Cls → Prop} {x y i : AO} {kd : IntKind} {a b : Int}
theorem k1 {op : AOp} {t : Nat} {w b : Bool} (k : R (fput E z (.tup [])) F .n) (hg : E t = .bool b := by exact rfl) (hw : (b == w) = false := by exact rfl) : W1 tbl lo bd ⟨z, op, some (t, w)⟩ E F R := W1.skip hg hw k
theorem k2 {op : AOp} {t : Nat} {w : Bool} (k : R (fput E z (.tup [])) F .n) (hg : E t = .tup [] := by exact rfl) : W1 tbl lo bd ⟨z, op, some (t, w)⟩ E F R := W1.skip2 hg k
theorem kA (h : (a < b → R (fput E z (.bool true)) F .n) ∧ (b ≤ a → R (fput E z (.bool false)) F .n)) (hx : xev E x = .int kd a := by exact rfl) (hy : xev E y = .int kd b := by exact rfl) : W1 tbl lo bd ⟨z, .bin .lss x y, none⟩ E F R := W1.lss hx hy h.1 h.2
theorem kB (h : (b < a → R (fput E z (.bool true)) F .n) ∧ (a ≤ b → R (fput E z (.bool false)) F .n)) (hx : xev E x = .int kd a := by exact rfl) (hy : xev E y = .int kd b := by exact rfl) : W1 tbl lo bd ⟨z, .bin .gtr x y, none⟩ E F R := W1.gtr hx hy h.1 h.2
theorem kC (h : (a ≤ b → R (fput E z (.bool true)) F .n) ∧ (b < a → R (fput E z (.bool false)) F .n)) (hx : xev E x = .int kd a := by exact rfl) (hy : xev E y = .int kd b := by exact rfl) : W1 tbl lo bd ⟨z, .bin .leq x y, none⟩ E F R := W1.leq hx hy h.1 h.2
theorem kD (h : (b ≤ a → R (fput E z (.bool true)) F .n) ∧ (a < b → R (fput E z (.bool false)) F .n)) (hx : xev E x = .int kd a := by exact rfl) (hy : xev E y = .int kd b := by exact rfl) : W1 tbl lo bd ⟨z, .bin .geq x y, none⟩ E F R := W1.geq hx hy h.1 h.2
theorem kE (h : (a = b → R (fput E z (.bool true)) F .n) ∧ (a ≠ b → R (fput E z (.bool false)) F .n)) (hx : xev E x = .int kd a := by exact rfl) (hy : xev E y = .int kd b := by exact rfl) : W1 tbl lo bd ⟨z, .bin .eql x y, none⟩ E F R := W1.eql hx hy h.1 h.2
theorem kF (h : (a ≠ b → R (fput E z (.bool true)) F .n) ∧ (a = b → R (fput E z (.bool false)) F .n)) (hx : xev E x = .int kd a := by exact rfl) (hy : xev E y = .int kd b := by exact rfl) : W1 tbl lo bd ⟨z, .bin .neq x y, none⟩ E F R := W1.neq hx hy h.1 h.2
theorem kG {a1 a2 b1 b2 : Int} (h : ((a1, a2) ≠ (b1, b2) → R (fput E z (.bool true)) F .n) ∧ ((a1, a2) = (b1, b2) → R (fput E z (.bool false)) F .n)) (hx : xev E x = .agg [.int kd a1, .int kd a2] := by exact rfl) (hy : xev E y = .agg [.int kd b1, .int kd b2] := by exact rfl) : W1 tbl lo bd ⟨z, .eqf true true [.int, .int] x y, none⟩ E F R := W1.neq2 hx hy h.1 h.2
theorem kp (k : R (fput E z (.int .i64 (a.tdiv b))) F .n) (hx : xev E x = .int .i64 a := by exact rfl) (hy : xev E y = .int .i64 b := by exact rfl) (hb : 1 ≤ b := by omega) (hz : -9223372036854775808 ≤ a ∧ a ≤ 9223372036854775807 := by omega) : W1 tbl lo bd ⟨z, .bin .quo x y, none⟩ E F R := W1.quo hx hy hb hz k
theorem kq (k : 0 ≤ a / b → a / b ≤ a → R (fput E z (.int .i64 (a / b))) F .n) (hx : xev E x = .int .i64 a := by exact rfl) (hy : xev E y = .int .i64 b := by exact rfl) (hb : 1 ≤ b := by omega) (hz : 0 ≤ a ∧ a ≤ 9223372036854775807 := by omega) : W1 tbl lo bd ⟨z, .bin .quo x y, none⟩ E F R := W1.quoN hx hy hb hz k
theorem W1.cO {op : AOp} {v : Bool} (k : R (fput E z (.bool v)) F .n) (h : ∀ (d : Option Nat) (R : FE → Hp → Cls → Prop), R (fput E d (.bool v)) F .n → W1 tbl lo bd ⟨d, op, none⟩ E F R := by
  intro d R k
  first
  | (refine isBinLss ?_; first | exact W1.lssT rfl rfl (by omega) k | exact W1.lssF rfl rfl (by omega) k)
  | (refine isBinGtr ?_; first | exact W1.gtrT rfl rfl (by omega) k | exact W1.gtrF rfl rfl (by omega) k)
  | (refine isBinLeq ?_; first | exact W1.leqT rfl rfl (by omega) k | exact W1.leqF rfl rfl (by omega) k)
  | (refine isBinGeq ?_; first | exact W1.geqT rfl rfl (by omega) k | exact W1.geqF rfl rfl (by omega) k)
  | (refine isBinEql ?_; first | exact W1.eqlT rfl rfl (by omega) k | exact W1.eqlF rfl rfl (by omega) k)
  | (refine isBinNeq ?_; first | exact W1.neqT rfl rfl (by omega) k | exact W1.neqF rfl rfl (by omega) k)) : W1 tbl lo bd ⟨z, op, none⟩ E F R := h z R k
end
section
variable {tbl : Nat → Option AFn} {lo bd : Nat} {E : FE} {F : Hp} {d : Option Nat} {R : FE → Hp → Cls → Prop} {x : AO}
theorem isDst (t : Nat) {op : AOp} (h : W1 tbl lo bd ⟨some t, op, none⟩ E F R) : W1 tbl lo bd ⟨some t, op, none⟩ E F R := h
theorem isTo (t : Nat) {n : Nat} {v : AO} {z : Option Nat} (h : W1 tbl lo bd ⟨z, .store n (.t t) v, none⟩ E F R) : W1 tbl lo bd ⟨z, .store n (.t t) v, none⟩ E F R := h
end
theorem RowI.cell {F : Hp} {v : AV} {xs : List Int} (h : RowI F v xs) : v.cells = some [v] := by obtain ⟨p, cap, ex, es, rfl, _⟩ := h; rfl
theorem RowR.cell {F : Hp} {v : AV} {xs : List (Int × Int)} (h : RowR F v xs) : v.cells = some [v] := by obtain ⟨p, cap, ex, es, rfl, _⟩ := h; rfl
end Go.Ax
end
section
namespace Go.Ax
abbrev nums (kd : IntKind) (n : Int) : List AV := [.int kd n]
structure NumsV (F : Hp) (kd : IntKind) (u : Int) (v : AV) (xs : List Int) : Prop where
  row : RowZ (nums kd) 1 F v xs
  len : xs.length ≤ 9223372036854775807
  nn : ∀ j, 0 ≤ xs.getD j default ∧ xs.getD j default ≤ u
theorem NumsV.mono {F F' : Hp} {kd : IntKind} {u : Int} {v : AV} {xs : List Int} (h : NumsV F kd u v xs) (hs : F ⊆ F') : NumsV F' kd u v xs := ⟨h.row.mono hs, h.len, h.nn⟩
theorem eq_of_getD {a b : List Int} (hl : a.length = b.length) (h : ∀ j, j < a.length → a.getD j 0 = b.getD j 0) : a = b := by
  refine List.ext_getElem hl fun j h1 h2 => ?_
  have := h j h1
  simpa [List.getD, List.getElem?_eq_getElem h1, List.getElem?_eq_getElem h2] using this
def AC.conds : AC → List AC
  | .seq a b => a.conds ++ b.conds
  | .cond x a b => .cond x a b :: (a.conds ++ b.conds)
  | .block _ b | .loop b | .scope b => b.conds
  | .rangeF _ _ _ b => b.conds
  | _ => []
def AC.condAt (c : AC) (n : Nat) : AC := (c.conds[n]?).getD .bad
theorem getD_set_ne {xs : List Int} {j d : Nat} {z : Int} (h : d ≠ j) : (xs.set j z).getD d 0 = xs.getD d 0 := by simp [List.getD, List.getElem?_set_ne (Ne.symm h)]
section
variable {tbl : Nat → Option AFn} {lo bd : Nat} {E : FE} {F : Hp} {d : Option Nat} {R : FE → Hp → Cls → Prop}
theorem W1.iaddrA {x i : AO} {n sz b o : Nat} {kd : IntKind} {z : Int} (j : Nat) (hx : xev E x = .ptr (some (b, o))) (hi : xev E i = .int kd z) (hz : z = (j : Nat)) (hj : j < n) (k : R (fput E d (.ptr (some (b, o + j * sz)))) F .n) : W1 tbl lo bd ⟨d, .iaddrA n sz x i, none⟩ E F R := by
  subst hz
  refine W1.val (v := .ptr (some (b, o + j * sz))) ?_ k
  simp only [opLocF, hx, hi, if_pos (show (0 : Int) ≤ (j : Int) ∧ (j : Int) < (n : Int) by omega)]
  rfl
end
section
variable {lo : Nat} {F : Hp}
end
section
variable {tbl : Nat → Option AFn} {lo bd : Nat} {E : FE} {F : Hp} {d : Option Nat} {R : FE → Hp → Cls → Prop} {x : AO}
end
section
variable {tbl : Nat → Option AFn} {lo bd : Nat} {E : FE} {F : Hp} {d : Option Nat} {R : FE → Hp → Cls → Prop}
end
end Go.Ax
end
