/-
  How abstract memory and the machine's memory answer to each other.
-/
import Derived.RangeFuncLeaves
import Derived.RangeFuncIn
import Derived.RangeFuncRecord
import Derived.Laws.CopyRow
import Derived.Laws.AppendOwn
import Derived.Laws.Entries
import Derived.Laws.Cells
import Derived.Laws.NewFold
import Derived.MapKept
import Derived.OrdersIn
import Derived.TacticsIn
import Derived.Below
import Derived.Test.YtmhbmnonichopaaXB
namespace Go.Ax

/-! ### Values -/
structure Pl where
  B : Nat
  O : Nat
  S : Nat
abbrev Io := Nat → Option Pl

inductive RelFn (ι : Io) : Fn → Fn → Prop
  | func (f : FuncId) : RelFn ι (.func f) (.func f)
  | yield {l : Nat} {p : Pl} : ι l = some p → RelFn ι (.yield l) (.yield p.B)

inductive RelV (ι : Io) : AV → Value → Prop
  | undef (v : Value) : RelV ι .undef v
  | bool (b : Bool) : RelV ι (.bool b) (.bool b)
  | int (k : IntKind) (n : Int) : RelV ι (.int k n) (.int k n)
  | str (s : ByteArray) : RelV ι (.str s) (.string s)
  | ptrN : RelV ι (.ptr none) (.pointer none)
  | ptr {b o : Nat} {p : Pl} : ι b = some p → RelV ι (.ptr (some (b, o))) (.pointer (some ⟨p.B, p.O + o, none⟩))
  | slcN {ex : Bool} {es : Nat} : RelV ι (.slc none 0 0 ex es) (.slice none 0 0)
  | slc {b o n c C es : Nat} {ex : Bool} {A : Addr} {p : Pl} : ι b = some p → n ≤ c → c ≤ C → (ex = true → C = c) →
      (C = 0 ∨ (A = ⟨p.B, p.O + o, none⟩ ∧ (es = 0 ∨ p.O + o + C * es ≤ p.S))) → RelV ι (.slc (some (b, o)) n c ex es) (.slice (some A) n C)
  | mapN : RelV ι (.map none) (.map none)
  | map {r : Nat} {p : Pl} : ι r = some p → RelV ι (.map (some r)) (.map (some p.B))
  | fn {f f' : Fn} {first caps : List AV} {first' caps' : Array Value} : RelFn ι f f' →
      first.length = first'.size → (∀ (i : Nat) (a : AV) (v : Value), first[i]? = some a → first'[i]? = some v → RelV ι a v) →
      caps.length = caps'.size → (∀ (i : Nat) (a : AV) (v : Value), caps[i]? = some a → caps'[i]? = some v → RelV ι a v) → RelV ι (.fn f first caps) (.func f' first' caps')
  | nilfn : RelV ι .nilfn .nilFunc
  | iface {t : TypeId} {a : AV} {v : Value} : RelV ι a v → RelV ι (.iface t a) (.iface t v)
  | nilif : RelV ι .nilif .nilIface
  | agg {l : List AV} {l' : Array Value} : l.length = l'.size → (∀ a, a ∈ l → a.scalar = true) →
      (∀ (i : Nat) (a : AV) (v : Value), l[i]? = some a → l'[i]? = some v → RelV ι a v) → RelV ι (.agg l) (.agg l')
  | tup {l : List AV} {l' : Array Value} : l.length = l'.size →
      (∀ (i : Nat) (a : AV) (v : Value), l[i]? = some a → l'[i]? = some v → RelV ι a v) → RelV ι (.tup l) (.tuple l')

def Ext (ι ι' : Io) : Prop := ∀ b p, ι b = some p → ι' b = some p
theorem Ext.refl (ι : Io) : Ext ι ι := fun _ _ h => h
theorem Ext.trans {a b c : Io} (h : Ext a b) (k : Ext b c) : Ext a c := fun x p hx => k x p (h x p hx)

theorem RelFn.ext {ι ι' : Io} {f f' : Fn} (he : Ext ι ι') (h : RelFn ι f f') : RelFn ι' f f' := by
  cases h with
  | func f => exact .func f
  | yield h => exact .yield (he _ _ h)
theorem RelV.ext {ι ι' : Io} (he : Ext ι ι') {a : AV} {v : Value} (h : RelV ι a v) : RelV ι' a v := by
  induction h with
  | undef v => exact .undef v
  | bool b => exact .bool b
  | int k n => exact .int k n
  | str s => exact .str s
  | ptrN => exact .ptrN
  | ptr h => exact .ptr (he _ _ h)
  | slcN => exact .slcN
  | slc h1 h2 h3 h4 h5 => exact .slc (he _ _ h1) h2 h3 h4 h5
  | mapN => exact .mapN
  | map h => exact .map (he _ _ h)
  | fn hf h1 _ h3 _ ih2 ih4 => exact .fn (hf.ext he) h1 ih2 h3 ih4
  | nilfn => exact .nilfn
  | iface _ ih => exact .iface ih
  | nilif => exact .nilif
  | agg h1 h2 _ ih => exact .agg h1 h2 ih
  | tup h1 _ ih => exact .tup h1 ih

theorem RelV.oneCell {ι : Io} {a : AV} {v : Value} (h : RelV ι a v) (hs : a.scalar = true) : v.oneCell' = true := by
  cases h <;> first | rfl | (simp [AV.scalar] at hs)

/-- lists that answer to each other, place by place -/
def RelL (ι : Io) (l : List AV) (l' : List Value) : Prop := l.length = l'.length ∧ ∀ (i : Nat) (a : AV) (v : Value), l[i]? = some a → l'[i]? = some v → RelV ι a v
theorem RelL.nil {ι : Io} : RelL ι [] [] := ⟨rfl, fun i a v h => by simp at h⟩
theorem RelL.cons {ι : Io} {a : AV} {v : Value} {l : List AV} {l' : List Value} (h : RelV ι a v) (hl : RelL ι l l') : RelL ι (a :: l) (v :: l') :=
  ⟨by simp [hl.1], fun i a' v' ha hv => by
    cases i with
    | zero => simp at ha hv; subst ha; subst hv; exact h
    | succ i => simp at ha hv; exact hl.2 i a' v' ha hv⟩
theorem RelL.head {ι : Io} {a : AV} {v : Value} {l : List AV} {l' : List Value} (h : RelL ι (a :: l) (v :: l')) : RelV ι a v := h.2 0 a v rfl rfl
theorem RelL.tail {ι : Io} {a : AV} {v : Value} {l : List AV} {l' : List Value} (h : RelL ι (a :: l) (v :: l')) : RelL ι l l' :=
  ⟨by simpa using h.1, fun i a' v' ha hv => h.2 (i + 1) a' v' (by simpa using ha) (by simpa using hv)⟩
theorem RelL.ext {ι ι' : Io} (he : Ext ι ι') {l : List AV} {l' : List Value} (h : RelL ι l l') : RelL ι' l l' := ⟨h.1, fun i a v ha hv => (h.2 i a v ha hv).ext he⟩
theorem RelL.append {ι : Io} {a b : List AV} {a' b' : List Value} (h : RelL ι a a') (k : RelL ι b b') : RelL ι (a ++ b) (a' ++ b') :=
  ⟨by simp [h.1, k.1], fun i x v hx hv => by
    rw [List.getElem?_append] at hx hv
    rw [← h.1] at hv
    split at hx
    · rename_i hi; rw [if_pos hi] at hv; exact h.2 i x v hx hv
    · rename_i hi; rw [if_neg hi] at hv; exact k.2 _ x v hx hv⟩
theorem RelL.take {ι : Io} {a : List AV} {a' : List Value} (n : Nat) (h : RelL ι a a') : RelL ι (a.take n) (a'.take n) :=
  ⟨by simp [h.1], fun i x v hx hv => by
    rw [List.getElem?_take] at hx hv
    split at hx
    · rename_i hi; rw [if_pos hi] at hv; exact h.2 i x v hx hv
    · cases hx⟩
theorem RelL.drop {ι : Io} {a : List AV} {a' : List Value} (n : Nat) (h : RelL ι a a') : RelL ι (a.drop n) (a'.drop n) :=
  ⟨by simp [h.1], fun i x v hx hv => by
    rw [List.getElem?_drop] at hx hv
    exact h.2 _ x v hx hv⟩
theorem RelL.get {ι : Io} {a : List AV} {a' : List Value} (h : RelL ι a a') {i : Nat} {x : AV} (hx : a[i]? = some x) : ∃ v, a'[i]? = some v ∧ RelV ι x v := by
  have hi : i < a'.length := by rw [← h.1]; exact (List.getElem?_eq_some_iff.1 hx).1
  exact ⟨a'[i], List.getElem?_eq_getElem hi, h.2 i x _ hx (List.getElem?_eq_getElem hi)⟩
theorem RelL.get' {ι : Io} {a : List AV} {a' : List Value} (h : RelL ι a a') {i : Nat} {v : Value} (hv : a'[i]? = some v) : ∃ x, a[i]? = some x ∧ RelV ι x v := by
  have hi : i < a.length := by rw [h.1]; exact (List.getElem?_eq_some_iff.1 hv).1
  exact ⟨a[i], List.getElem?_eq_getElem hi, h.2 i _ v (List.getElem?_eq_getElem hi) hv⟩
theorem RelL.replicate {ι : Io} {a : AV} {v : Value} (n : Nat) (h : RelV ι a v) : RelL ι (List.replicate n a) (List.replicate n v) :=
  ⟨by simp, fun i x y hx hy => by
    rw [List.getElem?_replicate] at hx hy
    split at hx <;> simp_all⟩
theorem RelL.flat {ι : Io} {a : List AV} {a' : List Value} (n : Nat) (h : RelL ι a a') : RelL ι ((List.replicate n a).flatten) ((List.replicate n a').flatten) := by
  induction n with
  | zero => simpa using RelL.nil
  | succ n ih => simp only [List.replicate_succ, List.flatten_cons]; exact h.append ih
theorem RelL.set {ι : Io} {l : List AV} {l' : List Value} {a : AV} {v : Value} (i : Nat) (h : RelL ι l l') (hv : RelV ι a v) : RelL ι (l.set i a) (l'.set i v) :=
  ⟨by simp [h.1], fun j x y hx hy => by
    rw [List.getElem?_set] at hx hy
    by_cases e : i = j
    · subst e
      rw [if_pos rfl] at hx hy
      split at hx
      · split at hy
        · simp at hx hy; subst hx; subst hy; exact hv
        · cases hy
      · cases hx
    · rw [if_neg e] at hx hy; exact h.2 j x y hx hy⟩

/-- cells: each fills just one -/
def RelC (ι : Io) (l : List AV) (l' : List Value) : Prop := RelL ι l l' ∧ ∀ a, a ∈ l → a.scalar = true
theorem RelC.one {ι : Io} {l : List AV} {l' : List Value} (h : RelC ι l l') : ∀ v ∈ l', v.oneCell' = true := by
  intro v hv
  obtain ⟨i, hi, rfl⟩ := List.mem_iff_getElem.1 hv
  obtain ⟨x, hx, hr⟩ := h.1.get' (List.getElem?_eq_getElem hi)
  exact hr.oneCell (h.2 x (List.mem_of_getElem? hx))
theorem RelC.agg {ι : Io} {l : List AV} {l' : List Value} (h : RelC ι l l') : RelV ι (.agg l) (.agg l'.toArray) :=
  .agg (by simpa using h.1.1) h.2 fun i a v ha hv => h.1.2 i a v ha (by simpa using hv)
theorem RelV.aggC {ι : Io} {l : List AV} {v : Value} (h : RelV ι (.agg l) v) : ∃ l' : Array Value, v = .agg l' ∧ RelC ι l l'.toList := by
  cases h with
  | agg h1 h2 h3 => exact ⟨_, rfl, ⟨by simpa using h1, fun i a v ha hv => h3 i a v ha (by simpa using hv)⟩, h2⟩
theorem RelV.tupL {ι : Io} {l : List AV} {v : Value} (h : RelV ι (.tup l) v) : ∃ l' : Array Value, v = .tuple l' ∧ RelL ι l l'.toList := by
  cases h with
  | tup h1 h3 => exact ⟨_, rfl, by simpa using h1, fun i a v ha hv => h3 i a v ha (by simpa using hv)⟩
theorem RelL.tup {ι : Io} {l : List AV} {l' : List Value} (h : RelL ι l l') : RelV ι (.tup l) (.tuple l'.toArray) :=
  .tup (by simpa using h.1) fun i a v ha hv => h.2 i a v ha (by simpa using hv)
/-- a value's cells -/
theorem RelV.cells {ι : Io} {a : AV} {v : Value} {l : List AV} (h : RelV ι a v) (hc : a.cells = some l) : RelC ι l v.cells.toList := by
  cases a <;> simp only [AV.cells, Option.some.injEq, reduceCtorEq] at hc <;> subst hc
  case agg l => obtain ⟨l', rfl, hr⟩ := h.aggC; exact hr
  all_goals
    cases h <;> exact ⟨.cons (by constructor <;> assumption) .nil, by simp [AV.scalar]⟩
theorem RelC.take {ι : Io} {l : List AV} {l' : List Value} (n : Nat) (h : RelC ι l l') : RelC ι (l.take n) (l'.take n) := ⟨h.1.take n, fun a ha => h.2 a (List.mem_of_mem_take ha)⟩
theorem RelC.drop {ι : Io} {l : List AV} {l' : List Value} (n : Nat) (h : RelC ι l l') : RelC ι (l.drop n) (l'.drop n) := ⟨h.1.drop n, fun a ha => h.2 a (List.mem_of_mem_drop ha)⟩
theorem RelC.append {ι : Io} {a b : List AV} {a' b' : List Value} (h : RelC ι a a') (k : RelC ι b b') : RelC ι (a ++ b) (a' ++ b') :=
  ⟨h.1.append k.1, fun x hx => (List.mem_append.1 hx).elim (h.2 x) (k.2 x)⟩
theorem RelC.ext {ι ι' : Io} (he : Ext ι ι') {l : List AV} {l' : List Value} (h : RelC ι l l') : RelC ι' l l' := ⟨h.1.ext he, h.2⟩
theorem RelC.flat {ι : Io} {a : List AV} {a' : List Value} (n : Nat) (h : RelC ι a a') : RelC ι ((List.replicate n a).flatten) ((List.replicate n a').flatten) :=
  ⟨h.1.flat n, fun x hx => by
    simp only [List.mem_flatten, List.mem_replicate] at hx
    obtain ⟨l, ⟨_, rfl⟩, hx⟩ := hx
    exact h.2 x hx⟩

/-! ### Constants -/
theorem liftS_rel (ι : Io) {v : Value} {a : AV} (h : liftS v = some a) : RelV ι a v ∧ a.scalar = true := by
  unfold liftS at h
  split at h <;> simp only [Option.some.injEq, reduceCtorEq] at h <;> subst h <;> refine ⟨?_, rfl⟩ <;> constructor
theorem okL_rel (ι : Io) : ∀ {l : List Value}, okL l = true → RelC ι (l.map liftD) l
  | [], _ => ⟨.nil, by simp⟩
  | v :: l, h => by
    unfold okL at h
    cases hx : liftS v with
    | none => rw [hx] at h; cases h
    | some x =>
      rw [hx] at h
      have ih := okL_rel ι (show okL l = true from h)
      have hr := liftS_rel ι hx
      have e : liftD v = x := by simp [liftD, hx]
      refine ⟨by simpa [e] using RelL.cons hr.1 ih.1, fun a ha => ?_⟩
      rw [List.map_cons, e] at ha
      rcases List.mem_cons.1 ha with rfl | ha
      · exact hr.2
      · exact ih.2 a ha
theorem liftL_rel (ι : Io) {l : List Value} {l' : List AV} (h : liftL l = some l') : RelC ι l' l := by
  unfold liftL at h
  cases ho : okL l with
  | true => rw [ho] at h; cases h; exact okL_rel ι ho
  | false => rw [ho] at h; cases h
theorem liftV_rel (ι : Io) {v : Value} {a : AV} (h : liftV v = some a) : RelV ι a v := by
  unfold liftV at h
  split at h
  · rename_i cs
    cases hl : liftL cs.toList with
    | none => simp [hl] at h
    | some l => simp [hl] at h; subst h; simpa using (liftL_rel ι hl).agg
  · exact (liftS_rel ι h).1

/-! ### Environments and operands -/
def RelE (ι : Io) (e : Env) (tmps : Array Value) : Prop := ∀ t, RelV ι (e.get t) (tmps.getD t undef)
theorem RelE.ext {ι ι' : Io} (he : Ext ι ι') {e : Env} {tmps : Array Value} (h : RelE ι e tmps) : RelE ι' e tmps := fun t => (h t).ext he
theorem RelE.put {ι : Io} {e : Env} {a : Act} (h : RelE ι e a.tmps) {v : AV} {v' : Value} (hv : RelV ι v v') (dst : Option Nat) (hd : ∀ t, dst = some t → t < a.tmps.size) : RelE ι (e.put dst v) (a.put dst v').tmps := by
  cases dst with
  | none => exact h
  | some d =>
    intro t
    rw [Env.get_put_some]
    simp only [Act.put]
    by_cases e1 : t = d
    · subst e1
      rw [if_pos rfl, Array.getD_eq_getD_getElem?, Array.getElem?_setIfInBounds, if_pos rfl, if_pos (hd t rfl)]
      exact hv
    · rw [if_neg e1, Array.getD_eq_getD_getElem?, Array.getElem?_setIfInBounds, if_neg (Ne.symm e1), ← Array.getD_eq_getD_getElem?]
      exact h t
theorem ao_rel {ι : Io} {e : Env} {a : Act} (h : RelE ι e a.tmps) (x : Operand) : RelV ι ((ao x).ev e) (a.eval x) := by
  cases x with
  | tmp t => exact h t
  | const v =>
    simp only [ao, AO.ev, Act.eval]
    cases hl : liftV v with
    | none => exact .undef v
    | some x => exact liftV_rel ι hl
  | global g => exact .undef _
  | func f => exact .fn (.func f) rfl (by simp) rfl (by simp)
theorem ao_relL {ι : Io} {e : Env} {a : Act} (h : RelE ι e a.tmps) (l : List Operand) : RelL ι ((l.map ao).map (·.ev e)) (l.map a.eval) := by
  induction l with
  | nil => exact .nil
  | cons x l ih => exact .cons (ao_rel h x) ih

/-! ### Memory -/
def ABlk.mine : ABlk → Bool
  | .cells _ own => own
  | .dead => false
  | _ => true

def RelSt : LSt → LoopState → Prop
  | .ready, .ready | .busy, .busy | .done, .done | .exhausted, .exhausted => True
  | _, _ => False
def RelPend : Option AC → Option Code → Prop
  | none, none => True
  | some .ret, some .ret => True
  | some (.exit id), some (.exit id') => id = id'
  | _, _ => False

def RelEnt (ι : Io) (x : AEnt) (y : MapEntry) : Prop := RelV ι x.key y.key ∧ RelV ι x.val y.val ∧ x.born = y.born
def RelEs (ι : Io) (l : List AEnt) (l' : List MapEntry) : Prop := l.length = l'.length ∧ ∀ (i : Nat) (x : AEnt) (y : MapEntry), l[i]? = some x → l'[i]? = some y → RelEnt ι x y

def RelB (P : Program) (ι : Io) (base : Nat) (heap : Array Obj) (p : Pl) : ABlk → Prop
  | .cells l true => base ≤ p.B ∧ ∃ (arr : Array Value) (ty : TypeId), heap[p.B]? = some (.cells arr ty (0, 0)) ∧ arr.size = p.S ∧ p.O + l.length ≤ p.S ∧ RelC ι l ((arr.toList.drop p.O).take l.length)
  | .cells l false => p.B < base ∧ ∃ (arr : Array Value) (ty : TypeId) (fz : Nat × Nat), heap[p.B]? = some (.cells arr ty fz) ∧ p.O + l.length ≤ arr.size ∧ RelC ι l ((arr.toList.drop p.O).take l.length)
  | .map es clock => base ≤ p.B ∧ ∃ es', heap[p.B]? = some (.map es' clock) ∧ RelEs ι es es'.toList
  | .iter m since seen stepped => base ≤ p.B ∧ p.O = 0 ∧ ∃ m', heap[p.B]? = some (.mapIter m' since seen.toArray stepped) ∧ (match m, m' with | none, none => True | some r, some r' => ∃ q, ι r = some q ∧ q.B = r' | _, _ => False)
  | .loop st pend env ps asg body => base ≤ p.B ∧ ∃ r : Loop, heap[p.B]? = some (.loop r) ∧ RelSt st r.state ∧ RelPend pend r.pending ∧ RelE ι env r.tmps ∧ r.params.toList = ps ∧ comp P r.tmps.size r.assign = asg ∧ comp P r.tmps.size r.body = body ∧ (∀ t ∈ ps, t < r.tmps.size)
  | .dead => True

theorem RelEs.ext {ι ι' : Io} (he : Ext ι ι') {l : List AEnt} {l' : List MapEntry} (h : RelEs ι l l') : RelEs ι' l l' :=
  ⟨h.1, fun i x y hx hy => let ⟨a, b, c⟩ := h.2 i x y hx hy; ⟨a.ext he, b.ext he, c⟩⟩

theorem RelB.ext {P : Program} {ι ι' : Io} {base : Nat} {heap heap' : Array Obj} {p : Pl} {x : ABlk} (he : Ext ι ι') (hh : x ≠ .dead → heap'[p.B]? = heap[p.B]?) (h : RelB P ι base heap p x) : RelB P ι' base heap' p x := by
  cases x with
  | cells l own =>
    cases own with
    | true => obtain ⟨h1, arr, ty, h2, h3, h4, h5⟩ := h; exact ⟨h1, arr, ty, by rw [hh (by simp)]; exact h2, h3, h4, h5.ext he⟩
    | false => obtain ⟨h1, arr, ty, fz, h2, h4, h5⟩ := h; exact ⟨h1, arr, ty, fz, by rw [hh (by simp)]; exact h2, h4, h5.ext he⟩
  | map es clock => obtain ⟨h1, es', h2, h3⟩ := h; exact ⟨h1, es', by rw [hh (by simp)]; exact h2, h3.ext he⟩
  | iter m since seen stepped =>
    obtain ⟨h1, h0, m', h2, h3⟩ := h
    refine ⟨h1, h0, m', by rw [hh (by simp)]; exact h2, ?_⟩
    cases m <;> cases m' <;> simp_all
    obtain ⟨q, hq, hb⟩ := h3
    exact ⟨q, he _ _ hq, hb⟩
  | loop st pend env ps asg body => obtain ⟨h1, r, h2, h3, h4, h5, h6⟩ := h; exact ⟨h1, r, by rw [hh (by simp)]; exact h2, h3, h4, h5.ext he, h6⟩
  | dead => trivial

structure RelS (P : Program) (base : Nat) (ι : Io) (h : H) (w : World) : Prop where
  blk : ∀ b x, h.get b = some x → ∃ p, ι b = some p ∧ p.B < w.heap.size ∧ RelB P ι base w.heap p x
  unused : ∀ b, h.get b = none → ι b = none
  inj : ∀ b b' x x' p p', h.get b = some x → h.get b' = some x' → x.mine = true → x'.mine = true → ι b = some p → ι b' = some p' → p.B = p'.B → b = b'
  top : ∀ b x, h.get b = some x → b < h.next

/-- a place of the machine's memory that is some owned block's -/
def Img (ι : Io) (h : H) (B : Nat) : Prop := ∃ b x p, h.get b = some x ∧ x.mine = true ∧ ι b = some p ∧ p.B = B

/-- what is no memory is as it was -/
def SameS (w w' : World) : Prop := w'.os = w.os ∧ w'.tape = w.tape ∧ w'.output = w.output
theorem SameS.trans {a b c : World} (h : SameS a b) (k : SameS b c) : SameS a c := ⟨k.1.trans h.1, k.2.1.trans h.2.1, k.2.2.trans h.2.2⟩

structure StepR (ι : Io) (h : H) (w : World) (ι' : Io) (h' : H) (w' : World) : Prop where
  ext : Ext ι ι'
  size : w.heap.size ≤ w'.heap.size
  fr : ∀ B, B < w.heap.size → ¬ Img ι h B → w'.heap[B]? = w.heap[B]? ∧ ¬ Img ι' h' B
  os : SameS w w'
theorem StepR.refl (ι : Io) (h : H) (w : World) : StepR ι h w ι h w := ⟨.refl ι, Nat.le_refl _, fun _ _ h => ⟨rfl, h⟩, rfl, rfl, rfl⟩
theorem StepR.trans {ι ι' ι'' : Io} {h h' h'' : H} {w w' w'' : World} (s : StepR ι h w ι' h' w') (t : StepR ι' h' w' ι'' h'' w'') : StepR ι h w ι'' h'' w'' :=
  ⟨s.ext.trans t.ext, Nat.le_trans s.size t.size, fun B hB hi => by
    obtain ⟨h1, h2⟩ := s.fr B hB hi
    obtain ⟨h3, h4⟩ := t.fr B (Nat.lt_of_lt_of_le hB s.size) h2
    exact ⟨h3.trans h1, h4⟩, s.os.trans t.os⟩

theorem RelB.base {P : Program} {ι : Io} {base : Nat} {heap : Array Obj} {p : Pl} {x : ABlk} (h : RelB P ι base heap p x) (hm : x.mine = true) : base ≤ p.B := by
  cases x with
  | cells l own => cases own with
    | true => exact h.1
    | false => cases hm
  | dead => cases hm
  | _ => exact h.1
/-- a block that is not owned and lives lies below -/
theorem RelB.below {P : Program} {ι : Io} {base : Nat} {heap : Array Obj} {p : Pl} {x : ABlk} (h : RelB P ι base heap p x) (hm : x.mine = false) (hd : x ≠ .dead) : p.B < base := by
  cases x with
  | cells l own => cases own with
    | true => cases hm
    | false => exact h.1
  | dead => exact absurd rfl hd
  | _ => cases hm

def Io.put (ι : Io) (b : Nat) (p : Pl) : Io := fun k => if k = b then some p else ι k
theorem Io.put_same (ι : Io) (b : Nat) (p : Pl) : (ι.put b p) b = some p := by simp [Io.put]
theorem Io.put_ne (ι : Io) {b k : Nat} (p : Pl) (h : k ≠ b) : (ι.put b p) k = ι k := by simp [Io.put, h]
theorem Ext.put {ι : Io} {b : Nat} (p : Pl) (h : ι b = none) : Ext ι (ι.put b p) := fun k q hk => by
  rw [Io.put_ne ι p (by intro e; subst e; rw [h] at hk; cases hk)]; exact hk

variable {P : Program} {base : Nat}

/-- an owned block is turned -/
theorem RelS.put {ι : Io} {h : H} {w w' : World} (hS : RelS P base ι h w) {b : Nat} {x0 x : ABlk} {p : Pl} (hb : h.get b = some x0) (hm : x0.mine = true) (hp : ι b = some p)
    (hsz : w'.heap.size = w.heap.size) (hoth : ∀ k, k ≠ p.B → w'.heap[k]? = w.heap[k]?) (hx : RelB P ι base w'.heap p x) (ho : SameS w w' := by exact ⟨rfl, rfl, rfl⟩) :
    RelS P base ι (h.put b x) w' ∧ StepR ι h w ι (h.put b x) w' := by
  have hpB : p.B < w.heap.size := by obtain ⟨q, hq, hlt, _⟩ := hS.blk b x0 hb; rw [hp] at hq; cases hq; exact hlt
  have hbase : base ≤ p.B := by obtain ⟨q, hq, _, hr⟩ := hS.blk b x0 hb; rw [hp] at hq; cases hq; exact hr.base hm
  refine ⟨⟨?_, ?_, ?_, ?_⟩, ⟨.refl ι, by omega, ?_, ho⟩⟩
  · intro k y hk
    rw [H.get_put] at hk
    by_cases e : k = b
    · subst e; rw [if_pos rfl] at hk; cases hk; exact ⟨p, hp, by omega, hx⟩
    · rw [if_neg e] at hk
      obtain ⟨q, hq, hlt, hr⟩ := hS.blk k y hk
      refine ⟨q, hq, by omega, hr.ext (.refl ι) fun hd => hoth _ ?_⟩
      intro eB
      by_cases hym : y.mine = true
      · exact e (hS.inj k b y x0 q p hk hb hym hm hq hp eB)
      · have := hr.below (by simpa using hym) hd; omega
  · intro k hk
    rw [H.get_put] at hk
    split at hk
    · cases hk
    · exact hS.unused k hk
  · intro k k' y y' q q' hk hk' hy hy' hq hq' hB
    have own : ∀ j z r, (h.put b x).get j = some z → z.mine = true → ι j = some r → ∃ z0, h.get j = some z0 ∧ z0.mine = true := by
      intro j z r hj hz _
      rw [H.get_put] at hj
      by_cases e : j = b
      · subst e; exact ⟨x0, hb, hm⟩
      · rw [if_neg e] at hj; exact ⟨z, hj, hz⟩
    obtain ⟨z, hz, hzm⟩ := own k y q hk hy hq
    obtain ⟨z', hz', hzm'⟩ := own k' y' q' hk' hy' hq'
    exact hS.inj k k' z z' q q' hz hz' hzm hzm' hq hq' hB
  · intro k y hk
    rw [H.get_put] at hk
    rw [H.next_put]
    split at hk
    · rename_i e; subst e; exact hS.top k x0 hb
    · exact hS.top k y hk
  · intro B hB hi
    refine ⟨hoth B ?_, ?_⟩
    · intro e; exact hi ⟨b, x0, p, hb, hm, hp, e.symm⟩
    · rintro ⟨k, y, q, hk, hy, hq, rfl⟩
      rw [H.get_put] at hk
      by_cases e : k = b
      · subst e; exact hi ⟨k, x0, q, hb, hm, hq, rfl⟩
      · rw [if_neg e] at hk; exact hi ⟨k, y, q, hk, hy, hq, rfl⟩

/-- a new block -/
theorem RelS.newAt {ι : Io} {h : H} {w w' : World} (hS : RelS P base ι h w) {a : Nat} (hn : h.get a = none) (p : Pl) {x : ABlk}
    (hsz : w.heap.size ≤ w'.heap.size) (hp : p.B < w'.heap.size) (hoth : ∀ k, k < w.heap.size → k ≠ p.B → w'.heap[k]? = w.heap[k]?)
    (hfree : ∀ b y q, h.get b = some y → y.mine = true → ι b = some q → q.B ≠ p.B) (hbase : base ≤ p.B) (hx : RelB P (ι.put a p) base w'.heap p x) :
    RelS P base (ι.put a p) (h.new a x) w' := by
  have hι := hS.unused a hn
  refine ⟨?_, ?_, ?_, ?_⟩
  · intro k y hk
    rw [H.get_new] at hk
    by_cases e : k = a
    · subst e; rw [if_pos rfl] at hk; cases hk; exact ⟨p, Io.put_same ι k p, hp, hx⟩
    · rw [if_neg e] at hk
      obtain ⟨q, hq, hlt, hr⟩ := hS.blk k y hk
      refine ⟨q, by rw [Io.put_ne ι p e]; exact hq, by omega, hr.ext (Ext.put p hι) fun hd => hoth _ hlt ?_⟩
      intro eB
      by_cases hym : y.mine = true
      · exact hfree k y q hk hym hq eB
      · have := hr.below (by simpa using hym) hd; omega
  · intro k hk
    rw [H.get_new] at hk
    by_cases e : k = a
    · rw [if_pos e] at hk; cases hk
    · rw [if_neg e] at hk; rw [Io.put_ne ι p e]; exact hS.unused k hk
  · intro k k' y y' q q' hk hk' hy hy' hq hq' hB
    rw [H.get_new] at hk hk'
    by_cases e : k = a
    · subst e
      by_cases e' : k' = k
      · exact e'.symm
      · rw [if_neg e'] at hk'
        rw [Io.put_same] at hq; cases hq
        rw [Io.put_ne ι p e'] at hq'
        exact absurd hB.symm (hfree k' y' q' hk' hy' hq')
    · rw [if_neg e] at hk
      rw [Io.put_ne ι p e] at hq
      by_cases e' : k' = a
      · subst e'
        rw [Io.put_same] at hq'; cases hq'
        exact absurd hB (hfree k y q hk hy hq)
      · rw [if_neg e'] at hk'
        rw [Io.put_ne ι p e'] at hq'
        exact hS.inj k k' y y' q q' hk hk' hy hy' hq hq' hB
  · intro k y hk
    rw [H.get_new] at hk
    rw [H.next_new]
    by_cases e : k = a
    · subst e; omega
    · rw [if_neg e] at hk; have := hS.top k y hk; omega

theorem heap_alloc_lt (w : World) (o : Obj) {k : Nat} (hk : k < w.heap.size) : (w.alloc o).heap[k]? = w.heap[k]? := by
  show (w.heap.push o)[k]? = _
  rw [Array.getElem?_push, if_neg (Nat.ne_of_lt hk)]
theorem heap_alloc_at (w : World) (o : Obj) : (w.alloc o).heap[w.heap.size]? = some o := by
  show (w.heap.push o)[w.heap.size]? = _
  rw [Array.getElem?_push, if_pos rfl]
theorem size_alloc' (w : World) (o : Obj) : (w.alloc o).heap.size = w.heap.size + 1 := Array.size_push _

/-- a new block in a place of its own -/
theorem RelS.fresh {ι : Io} {h : H} {w : World} (hS : RelS P base ι h w) (hbw : base ≤ w.heap.size) {a : Nat} (hn : h.get a = none) (o : Obj) (p : Pl) (hpB : p.B = w.heap.size) {x : ABlk}
    (hx : RelB P (ι.put a p) base (w.alloc o).heap p x) :
    RelS P base (ι.put a p) (h.new a x) (w.alloc o) ∧ StepR ι h w (ι.put a p) (h.new a x) (w.alloc o) := by
  have hι := hS.unused a hn
  have hfree : ∀ b y q, h.get b = some y → y.mine = true → ι b = some q → q.B ≠ p.B := by
    intro b y q hb _ hq
    obtain ⟨q', hq', hlt, _⟩ := hS.blk b y hb
    rw [hq] at hq'; cases hq'; omega
  have hoth : ∀ k, k < w.heap.size → (w.alloc o).heap[k]? = w.heap[k]? := fun k hk => heap_alloc_lt w o hk
  have hsz := size_alloc' w o
  refine ⟨hS.newAt hn p (by omega) (by omega) (fun k hk _ => hoth k hk) hfree (by omega) hx, ⟨Ext.put p hι, by omega, fun B hB hi => ⟨hoth B hB, ?_⟩, rfl, rfl, rfl⟩⟩
  rintro ⟨k, y, q, hk, hy, hq, rfl⟩
  rw [H.get_new] at hk
  by_cases e : k = a
  · subst e; rw [Io.put_same] at hq; cases hq; omega
  · rw [if_neg e] at hk; rw [Io.put_ne ι p e] at hq; exact hi ⟨k, y, q, hk, hy, hq, rfl⟩

/-- a block that nobody will look at any more -/
theorem RelS.kill {ι : Io} {h : H} {w : World} (hS : RelS P base ι h w) {b : Nat} {x0 : ABlk} (hb : h.get b = some x0) :
    RelS P base ι (h.put b .dead) w ∧ StepR ι h w ι (h.put b .dead) w := by
  refine ⟨⟨?_, ?_, ?_, ?_⟩, ⟨.refl ι, Nat.le_refl _, ?_, rfl, rfl, rfl⟩⟩
  · intro k y hk
    rw [H.get_put] at hk
    by_cases e : k = b
    · subst e; rw [if_pos rfl] at hk; cases hk
      obtain ⟨q, hq, hlt, _⟩ := hS.blk k x0 hb
      exact ⟨q, hq, hlt, trivial⟩
    · rw [if_neg e] at hk; exact hS.blk k y hk
  · intro k hk
    rw [H.get_put] at hk
    split at hk
    · cases hk
    · exact hS.unused k hk
  · intro k k' y y' q q' hk hk' hy hy' hq hq' hB
    rw [H.get_put] at hk hk'
    split at hk
    · cases hk; cases hy
    · split at hk'
      · cases hk'; cases hy'
      · exact hS.inj k k' y y' q q' hk hk' hy hy' hq hq' hB
  · intro k y hk
    rw [H.get_put] at hk
    rw [H.next_put]
    split at hk
    · rename_i e; subst e; exact hS.top k x0 hb
    · exact hS.top k y hk
  · intro B hB hi
    refine ⟨rfl, ?_⟩
    rintro ⟨k, y, q, hk, hy, hq, rfl⟩
    rw [H.get_put] at hk
    split at hk
    · cases hk; cases hy
    · exact hi ⟨k, y, q, hk, hy, hq, rfl⟩

/-- the counters mean nothing here -/
theorem RelS.same {ι : Io} {h h' : H} {w w' : World} (hS : RelS P base ι h w) (hm : ∀ b, h'.get b = h.get b) (hnx : h.next ≤ h'.next) (hw : w'.heap = w.heap) : RelS P base ι h' w' :=
  ⟨fun b x hb => by rw [hm] at hb; rw [hw]; exact hS.blk b x hb, fun b hb => by rw [hm] at hb; exact hS.unused b hb,
   fun b b' x x' p p' hb hb' => by rw [hm] at hb hb'; exact hS.inj b b' x x' p p' hb hb', fun b x hb => by rw [hm] at hb; exact Nat.lt_of_lt_of_le (hS.top b x hb) hnx⟩
theorem StepR.same {ι : Io} {h h' : H} {w w' : World} (hm : ∀ b, h'.get b = h.get b) (hw : w'.heap = w.heap) (ho : SameS w w' := by exact ⟨rfl, rfl, rfl⟩) : StepR ι h w ι h' w' :=
  ⟨.refl ι, by rw [hw]; exact Nat.le_refl _, fun B _ hi => ⟨by rw [hw], fun ⟨b, x, p, hb, hx, hp, hB⟩ => hi ⟨b, x, p, by rw [← hm]; exact hb, hx, hp, hB⟩⟩, ho⟩

/-- reading a row -/
theorem RelS.row {ι : Io} {h : H} {w : World} (hS : RelS P base ι h w) {b : Nat} {l : List AV} {own : Bool} (hb : h.get b = some (.cells l own)) :
    ∃ p arr ty fz, ι b = some p ∧ p.B < w.heap.size ∧ w.heap[p.B]? = some (.cells arr ty fz) ∧ p.O + l.length ≤ arr.size ∧ RelC ι l ((arr.toList.drop p.O).take l.length) := by
  obtain ⟨p, hp, hlt, hr⟩ := hS.blk b _ hb
  cases own with
  | true => obtain ⟨_, arr, ty, h2, h3, h4, h5⟩ := hr; exact ⟨p, arr, ty, (0, 0), hp, hlt, h2, by omega, h5⟩
  | false => obtain ⟨_, arr, ty, fz, h2, h4, h5⟩ := hr; exact ⟨p, arr, ty, fz, hp, hlt, h2, h4, h5⟩
end Go.Ax
