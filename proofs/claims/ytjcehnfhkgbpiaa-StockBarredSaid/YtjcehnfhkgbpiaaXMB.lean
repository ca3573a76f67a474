/-
  The trie's laws.
  How abstract memory and the machine's memory answer to each other.
  Each operation of the abstract machine answers to the machine's own.
  '==' of what is made of leaves, and keys of maps.
  Each operation that looks at temporaries alone.
  The other operations that look at temporaries alone.
  Operations on memory: rows of cells.
  Operations on memory: aggregates, slices that are made, appended to, copied and cleared.
  Append, copy and clear.
  Operations on maps.
  Every operation answers to what 'compOp' makes of it.
-/
import Derived.Test.YtjcehnfhkgbpiaaXMA
import Derived.RangeFuncLeaves
import Derived.RangeFuncIn
import Derived.RangeFuncRecord
import Derived.Laws.CopyRow
import Derived.Laws.AppendOwn
import Derived.Laws.Entries
import Derived.Laws.Cells
import Derived.Laws.NewFold
import Derived.MapKept
import Derived.OrdersIn
import Derived.TacticsIn
import Derived.Below
import Derived.ChangeKeysEq
import Derived.WideKeyRuns
import Derived.Laws.StructEq
set_option linter.unusedVariables false
set_option linter.unusedSimpArgs false
section
namespace Go.Ax
namespace PT
variable {α : Type}
theorem get_nil (k : Nat) : (PT.nil : PT α).get k = none := rfl
theorem get_node (v : Option α) (l r : PT α) (k : Nat) : (PT.node v l r).get k = if k = 0 then v else if k % 2 = 1 then l.get (k / 2) else r.get (k / 2 - 1) := by
  simp only [PT.get, cond_eq_ite, Nat.beq_eq]
theorem get_setF : ∀ (f : Nat) (t : PT α) (k j : Nat) (a : α), k < f → (setF f t k a).get j = if j = k then some a else t.get j := by
  intro f
  induction f with
  | zero => intro t k j a h; omega
  | succ f ih =>
    intro t k j a h
    have key : ∀ (v : Option α) (l r : PT α), (if k = 0 then PT.node (some a) l r else if k % 2 = 1 then PT.node v (setF f l (k / 2) a) r else PT.node v l (setF f r (k / 2 - 1) a)).get j
        = if j = k then some a else (PT.node v l r).get j := by
      intro v l r
      by_cases h0 : k = 0
      · subst h0
        simp only [if_true, get_node]
        by_cases hj : j = 0 <;> simp [hj]
      · rw [if_neg h0]
        by_cases h1 : k % 2 = 1
        · rw [if_pos h1]
          simp only [get_node]
          by_cases hj : j = 0
          · subst hj; rw [if_pos rfl, if_neg (by omega), if_pos rfl]
          · rw [if_neg hj, if_neg hj]
            by_cases hj1 : j % 2 = 1
            · rw [if_pos hj1, if_pos hj1, ih _ _ _ _ (by omega)]
              by_cases e : j = k
              · subst e; simp
              · rw [if_neg (by omega), if_neg e]
            · rw [if_neg hj1, if_neg hj1, if_neg (by intro e; subst e; exact hj1 h1)]
        · rw [if_neg h1]
          simp only [get_node]
          by_cases hj : j = 0
          · subst hj; rw [if_pos rfl, if_neg (by omega), if_pos rfl]
          · rw [if_neg hj, if_neg hj]
            by_cases hj1 : j % 2 = 1
            · rw [if_pos hj1, if_pos hj1, if_neg (by intro e; subst e; exact h1 hj1)]
            · rw [if_neg hj1, if_neg hj1, ih _ _ _ _ (by omega)]
              by_cases e : j = k
              · subst e; simp
              · rw [if_neg (by omega), if_neg e]
    cases t with
    | nil =>
      have := key none .nil .nil
      simp only [setF, cond_eq_ite, Nat.beq_eq]
      rw [this]
      simp [get_node, get_nil]
    | node v l r =>
      simp only [setF, cond_eq_ite, Nat.beq_eq]
      exact key v l r
theorem get_set (t : PT α) (k j : Nat) (a : α) : (t.set k a).get j = if j = k then some a else t.get j := get_setF _ _ _ _ _ (Nat.lt_succ_self k)
theorem get_set_same (t : PT α) (k : Nat) (a : α) : (t.set k a).get k = some a := by rw [get_set, if_pos rfl]
theorem get_set_ne (t : PT α) {k j : Nat} (a : α) (h : j ≠ k) : (t.set k a).get j = t.get j := by rw [get_set, if_neg h]
theorem setF_comm : ∀ (f g : Nat) (t : PT α) (k j : Nat) (a b : α), k < f → j < g → k ≠ j → ∀ f' g', k < f' → j < g' →
    setF f (setF g t j b) k a = setF g' (setF f' t k a) j b := by
  intro f
  induction f with
  | zero => intro g t k j a b h; omega
  | succ f ih =>
    intro g t k j a b hf hg hne f' g' hf' hg'
    obtain ⟨g, rfl⟩ : ∃ m, g = m + 1 := ⟨g - 1, by omega⟩
    obtain ⟨f', rfl⟩ : ∃ m, f' = m + 1 := ⟨f' - 1, by omega⟩
    obtain ⟨g', rfl⟩ : ∃ m, g' = m + 1 := ⟨g' - 1, by omega⟩
    have same : ∀ (n m : Nat) (t : PT α) (i : Nat) (c : α), i < n → i < m → setF n t i c = setF m t i c := by
      intro n
      induction n with
      | zero => intro m t i c h; omega
      | succ n ihn =>
        intro m t i c hn hm
        obtain ⟨m, rfl⟩ : ∃ q, m = q + 1 := ⟨m - 1, by omega⟩
        cases t with
        | nil =>
          simp only [setF, cond_eq_ite, Nat.beq_eq]
          by_cases h0 : i = 0
          · simp [h0]
          · rw [if_neg h0, if_neg h0, ihn m .nil (i / 2) c (by omega) (by omega), ihn m .nil (i / 2 - 1) c (by omega) (by omega)]
        | node v l r =>
          simp only [setF, cond_eq_ite, Nat.beq_eq]
          by_cases h0 : i = 0
          · simp [h0]
          · rw [if_neg h0, if_neg h0, ihn m l (i / 2) c (by omega) (by omega), ihn m r (i / 2 - 1) c (by omega) (by omega)]
    have norm : ∀ (n : Nat) (v : Option α) (l r : PT α) (i : Nat) (c : α), setF (n + 1) (PT.node v l r) i c = if i = 0 then PT.node (some c) l r else if i % 2 = 1 then PT.node v (setF n l (i / 2) c) r else PT.node v l (setF n r (i / 2 - 1) c) := by
      intro n v l r i c; simp only [setF, cond_eq_ite, Nat.beq_eq]
    have nnil : ∀ (n : Nat) (i : Nat) (c : α), setF (n + 1) (PT.nil : PT α) i c = if i = 0 then PT.node (some c) .nil .nil else if i % 2 = 1 then PT.node none (setF n .nil (i / 2) c) .nil else PT.node none .nil (setF n .nil (i / 2 - 1) c) := by
      intro n i c; simp only [setF, cond_eq_ite, Nat.beq_eq]
    have main : ∀ (v : Option α) (l r : PT α), setF (f + 1) (setF (g + 1) (PT.node v l r) j b) k a = setF (g' + 1) (setF (f' + 1) (PT.node v l r) k a) j b := by
      intro v l r
      rw [norm g, norm f']
      by_cases hk0 : k = 0
      · subst hk0
        have hj0 : j ≠ 0 := fun e => hne e.symm
        rw [if_neg hj0, if_pos rfl, norm g', if_neg hj0]
        by_cases hj1 : j % 2 = 1
        · rw [if_pos hj1, if_pos hj1, norm f, if_pos rfl, same g g' l (j / 2) b (by omega) (by omega)]
        · rw [if_neg hj1, if_neg hj1, norm f, if_pos rfl, same g g' r (j / 2 - 1) b (by omega) (by omega)]
      · rw [if_neg hk0]
        by_cases hj0 : j = 0
        · subst hj0
          rw [if_pos rfl, norm f, if_neg hk0]
          by_cases hk1 : k % 2 = 1
          · rw [if_pos hk1, if_pos hk1, norm g', if_pos rfl, same f f' l (k / 2) a (by omega) (by omega)]
          · rw [if_neg hk1, if_neg hk1, norm g', if_pos rfl, same f f' r (k / 2 - 1) a (by omega) (by omega)]
        · rw [if_neg hj0]
          by_cases hk1 : k % 2 = 1
          · rw [if_pos hk1]
            by_cases hj1 : j % 2 = 1
            · rw [if_pos hj1, norm f, if_neg hk0, if_pos hk1, norm g', if_neg hj0, if_pos hj1, ih g l (k / 2) (j / 2) a b (by omega) (by omega) (by omega) f' g' (by omega) (by omega)]
            · rw [if_neg hj1, norm f, if_neg hk0, if_pos hk1, norm g', if_neg hj0, if_neg hj1, same f f' l (k / 2) a (by omega) (by omega), same g g' r (j / 2 - 1) b (by omega) (by omega)]
          · rw [if_neg hk1]
            by_cases hj1 : j % 2 = 1
            · rw [if_pos hj1, norm f, if_neg hk0, if_neg hk1, norm g', if_neg hj0, if_pos hj1, same f f' r (k / 2 - 1) a (by omega) (by omega), same g g' l (j / 2) b (by omega) (by omega)]
            · rw [if_neg hj1, norm f, if_neg hk0, if_neg hk1, norm g', if_neg hj0, if_neg hj1, ih g r (k / 2 - 1) (j / 2 - 1) a b (by omega) (by omega) (by omega) f' g' (by omega) (by omega)]
    cases t with
    | node v l r => exact main v l r
    | nil =>
      have e1 : ∀ (n i : Nat) (c : α), setF (n + 1) (PT.nil : PT α) i c = setF (n + 1) (PT.node none .nil .nil) i c := by
        intro n i c; rw [nnil, norm]
      rw [e1 g, e1 f']
      exact main none .nil .nil
theorem set_comm (t : PT α) {k j : Nat} (a b : α) (h : k ≠ j) : (t.set j b).set k a = (t.set k a).set j b := setF_comm _ _ _ _ _ _ _ (Nat.lt_succ_self k) (Nat.lt_succ_self j) h _ _ (Nat.lt_succ_self k) (Nat.lt_succ_self j)
end PT
theorem Env.get_put_some (e : Env) (t j : Nat) (v : AV) : (e.put (some t) v).get j = if j = t then v else e.get j := by
  simp only [Env.get, Env.put, PT.get_set]; split <;> rfl
namespace H
variable (h : H)
theorem get_put (b k : Nat) (x : ABlk) : (h.put b x).get k = if k = b then some x else h.get k := by simp only [get, put, PT.get_set]
theorem get_new (b k : Nat) (x : ABlk) : (h.new b x).get k = if k = b then some x else h.get k := by simp only [get, new, PT.get_set]
theorem next_put (b : Nat) (x : ABlk) : (h.put b x).next = h.next := rfl
theorem next_new (b : Nat) (x : ABlk) : (h.new b x).next = max h.next (b + 1) := rfl
end H
end Go.Ax
end
section
namespace Go.Ax
structure Pl where
  B : Nat
  O : Nat
  S : Nat
abbrev Io := Nat → Option Pl
inductive RelFn (ι : Io) : Fn → Fn → Prop
  | func (f : FuncId) : RelFn ι (.func f) (.func f)
  | yield {l : Nat} {p : Pl} : ι l = some p → RelFn ι (.yield l) (.yield p.B)
inductive RelV (ι : Io) : AV → Value → Prop
  | undef (v : Value) : RelV ι .undef v
  | bool (b : Bool) : RelV ι (.bool b) (.bool b)
  | int (k : IntKind) (n : Int) : RelV ι (.int k n) (.int k n)
  | str (s : ByteArray) : RelV ι (.str s) (.string s)
  | ptrN : RelV ι (.ptr none) (.pointer none)
  | ptr {b o : Nat} {p : Pl} : ι b = some p → RelV ι (.ptr (some (b, o))) (.pointer (some ⟨p.B, p.O + o, none⟩))
  | slcN {ex : Bool} {es : Nat} : RelV ι (.slc none 0 0 ex es) (.slice none 0 0)
  | slc {b o n c C es : Nat} {ex : Bool} {A : Addr} {p : Pl} : ι b = some p → n ≤ c → c ≤ C → (ex = true → C = c) →
      (C = 0 ∨ (A = ⟨p.B, p.O + o, none⟩ ∧ (es = 0 ∨ p.O + o + C * es ≤ p.S))) → RelV ι (.slc (some (b, o)) n c ex es) (.slice (some A) n C)
  | mapN : RelV ι (.map none) (.map none)
  | map {r : Nat} {p : Pl} : ι r = some p → RelV ι (.map (some r)) (.map (some p.B))
  | fn {f f' : Fn} {first caps : List AV} {first' caps' : Array Value} : RelFn ι f f' →
      first.length = first'.size → (∀ (i : Nat) (a : AV) (v : Value), first[i]? = some a → first'[i]? = some v → RelV ι a v) →
      caps.length = caps'.size → (∀ (i : Nat) (a : AV) (v : Value), caps[i]? = some a → caps'[i]? = some v → RelV ι a v) → RelV ι (.fn f first caps) (.func f' first' caps')
  | nilfn : RelV ι .nilfn .nilFunc
  | iface {t : TypeId} {a : AV} {v : Value} : RelV ι a v → RelV ι (.iface t a) (.iface t v)
  | nilif : RelV ι .nilif .nilIface
  | agg {l : List AV} {l' : Array Value} : l.length = l'.size → (∀ a, a ∈ l → a.scalar = true) →
      (∀ (i : Nat) (a : AV) (v : Value), l[i]? = some a → l'[i]? = some v → RelV ι a v) → RelV ι (.agg l) (.agg l')
  | tup {l : List AV} {l' : Array Value} : l.length = l'.size →
      (∀ (i : Nat) (a : AV) (v : Value), l[i]? = some a → l'[i]? = some v → RelV ι a v) → RelV ι (.tup l) (.tuple l')
def Ext (ι ι' : Io) : Prop := ∀ b p, ι b = some p → ι' b = some p
theorem Ext.refl (ι : Io) : Ext ι ι := fun _ _ h => h
theorem Ext.trans {a b c : Io} (h : Ext a b) (k : Ext b c) : Ext a c := fun x p hx => k x p (h x p hx)
theorem RelFn.ext {ι ι' : Io} {f f' : Fn} (he : Ext ι ι') (h : RelFn ι f f') : RelFn ι' f f' := by
  cases h with
  | func f => exact .func f
  | yield h => exact .yield (he _ _ h)
theorem RelV.ext {ι ι' : Io} (he : Ext ι ι') {a : AV} {v : Value} (h : RelV ι a v) : RelV ι' a v := by
  induction h with
  | undef v => exact .undef v
  | bool b => exact .bool b
  | int k n => exact .int k n
  | str s => exact .str s
  | ptrN => exact .ptrN
  | ptr h => exact .ptr (he _ _ h)
  | slcN => exact .slcN
  | slc h1 h2 h3 h4 h5 => exact .slc (he _ _ h1) h2 h3 h4 h5
  | mapN => exact .mapN
  | map h => exact .map (he _ _ h)
  | fn hf h1 _ h3 _ ih2 ih4 => exact .fn (hf.ext he) h1 ih2 h3 ih4
  | nilfn => exact .nilfn
  | iface _ ih => exact .iface ih
  | nilif => exact .nilif
  | agg h1 h2 _ ih => exact .agg h1 h2 ih
  | tup h1 _ ih => exact .tup h1 ih
theorem RelV.oneCell {ι : Io} {a : AV} {v : Value} (h : RelV ι a v) (hs : a.scalar = true) : v.oneCell' = true := by
  cases h <;> first | rfl | (simp [AV.scalar] at hs)
def RelL (ι : Io) (l : List AV) (l' : List Value) : Prop := l.length = l'.length ∧ ∀ (i : Nat) (a : AV) (v : Value), l[i]? = some a → l'[i]? = some v → RelV ι a v
theorem RelL.nil {ι : Io} : RelL ι [] [] := ⟨rfl, fun i a v h => by simp at h⟩
theorem RelL.cons {ι : Io} {a : AV} {v : Value} {l : List AV} {l' : List Value} (h : RelV ι a v) (hl : RelL ι l l') : RelL ι (a :: l) (v :: l') :=
  ⟨by simp [hl.1], fun i a' v' ha hv => by
    cases i with
    | zero => simp at ha hv; subst ha; subst hv; exact h
    | succ i => simp at ha hv; exact hl.2 i a' v' ha hv⟩
theorem RelL.head {ι : Io} {a : AV} {v : Value} {l : List AV} {l' : List Value} (h : RelL ι (a :: l) (v :: l')) : RelV ι a v := h.2 0 a v rfl rfl
theorem RelL.tail {ι : Io} {a : AV} {v : Value} {l : List AV} {l' : List Value} (h : RelL ι (a :: l) (v :: l')) : RelL ι l l' :=
  ⟨by simpa using h.1, fun i a' v' ha hv => h.2 (i + 1) a' v' (by simpa using ha) (by simpa using hv)⟩
theorem RelL.ext {ι ι' : Io} (he : Ext ι ι') {l : List AV} {l' : List Value} (h : RelL ι l l') : RelL ι' l l' := ⟨h.1, fun i a v ha hv => (h.2 i a v ha hv).ext he⟩
theorem RelL.append {ι : Io} {a b : List AV} {a' b' : List Value} (h : RelL ι a a') (k : RelL ι b b') : RelL ι (a ++ b) (a' ++ b') :=
  ⟨by simp [h.1, k.1], fun i x v hx hv => by
    rw [List.getElem?_append] at hx hv
    rw [← h.1] at hv
    split at hx
    · rename_i hi; rw [if_pos hi] at hv; exact h.2 i x v hx hv
    · rename_i hi; rw [if_neg hi] at hv; exact k.2 _ x v hx hv⟩
theorem RelL.take {ι : Io} {a : List AV} {a' : List Value} (n : Nat) (h : RelL ι a a') : RelL ι (a.take n) (a'.take n) :=
  ⟨by simp [h.1], fun i x v hx hv => by
    rw [List.getElem?_take] at hx hv
    split at hx
    · rename_i hi; rw [if_pos hi] at hv; exact h.2 i x v hx hv
    · cases hx⟩
theorem RelL.drop {ι : Io} {a : List AV} {a' : List Value} (n : Nat) (h : RelL ι a a') : RelL ι (a.drop n) (a'.drop n) :=
  ⟨by simp [h.1], fun i x v hx hv => by
    rw [List.getElem?_drop] at hx hv
    exact h.2 _ x v hx hv⟩
theorem RelL.get {ι : Io} {a : List AV} {a' : List Value} (h : RelL ι a a') {i : Nat} {x : AV} (hx : a[i]? = some x) : ∃ v, a'[i]? = some v ∧ RelV ι x v := by
  have hi : i < a'.length := by rw [← h.1]; exact (List.getElem?_eq_some_iff.1 hx).1
  exact ⟨a'[i], List.getElem?_eq_getElem hi, h.2 i x _ hx (List.getElem?_eq_getElem hi)⟩
theorem RelL.get' {ι : Io} {a : List AV} {a' : List Value} (h : RelL ι a a') {i : Nat} {v : Value} (hv : a'[i]? = some v) : ∃ x, a[i]? = some x ∧ RelV ι x v := by
  have hi : i < a.length := by rw [h.1]; exact (List.getElem?_eq_some_iff.1 hv).1
  exact ⟨a[i], List.getElem?_eq_getElem hi, h.2 i _ v (List.getElem?_eq_getElem hi) hv⟩
theorem RelL.replicate {ι : Io} {a : AV} {v : Value} (n : Nat) (h : RelV ι a v) : RelL ι (List.replicate n a) (List.replicate n v) :=
  ⟨by simp, fun i x y hx hy => by
    rw [List.getElem?_replicate] at hx hy
    split at hx <;> simp_all⟩
theorem RelL.flat {ι : Io} {a : List AV} {a' : List Value} (n : Nat) (h : RelL ι a a') : RelL ι ((List.replicate n a).flatten) ((List.replicate n a').flatten) := by
  induction n with
  | zero => simpa using RelL.nil
  | succ n ih => simp only [List.replicate_succ, List.flatten_cons]; exact h.append ih
theorem RelL.set {ι : Io} {l : List AV} {l' : List Value} {a : AV} {v : Value} (i : Nat) (h : RelL ι l l') (hv : RelV ι a v) : RelL ι (l.set i a) (l'.set i v) :=
  ⟨by simp [h.1], fun j x y hx hy => by
    rw [List.getElem?_set] at hx hy
    by_cases e : i = j
    · subst e
      rw [if_pos rfl] at hx hy
      split at hx
      · split at hy
        · simp at hx hy; subst hx; subst hy; exact hv
        · cases hy
      · cases hx
    · rw [if_neg e] at hx hy; exact h.2 j x y hx hy⟩
def RelC (ι : Io) (l : List AV) (l' : List Value) : Prop := RelL ι l l' ∧ ∀ a, a ∈ l → a.scalar = true
theorem RelC.one {ι : Io} {l : List AV} {l' : List Value} (h : RelC ι l l') : ∀ v ∈ l', v.oneCell' = true := by
  intro v hv
  obtain ⟨i, hi, rfl⟩ := List.mem_iff_getElem.1 hv
  obtain ⟨x, hx, hr⟩ := h.1.get' (List.getElem?_eq_getElem hi)
  exact hr.oneCell (h.2 x (List.mem_of_getElem? hx))
theorem RelC.agg {ι : Io} {l : List AV} {l' : List Value} (h : RelC ι l l') : RelV ι (.agg l) (.agg l'.toArray) :=
  .agg (by simpa using h.1.1) h.2 fun i a v ha hv => h.1.2 i a v ha (by simpa using hv)
theorem RelV.aggC {ι : Io} {l : List AV} {v : Value} (h : RelV ι (.agg l) v) : ∃ l' : Array Value, v = .agg l' ∧ RelC ι l l'.toList := by
  cases h with
  | agg h1 h2 h3 => exact ⟨_, rfl, ⟨by simpa using h1, fun i a v ha hv => h3 i a v ha (by simpa using hv)⟩, h2⟩
theorem RelV.tupL {ι : Io} {l : List AV} {v : Value} (h : RelV ι (.tup l) v) : ∃ l' : Array Value, v = .tuple l' ∧ RelL ι l l'.toList := by
  cases h with
  | tup h1 h3 => exact ⟨_, rfl, by simpa using h1, fun i a v ha hv => h3 i a v ha (by simpa using hv)⟩
theorem RelL.tup {ι : Io} {l : List AV} {l' : List Value} (h : RelL ι l l') : RelV ι (.tup l) (.tuple l'.toArray) :=
  .tup (by simpa using h.1) fun i a v ha hv => h.2 i a v ha (by simpa using hv)
theorem RelV.cells {ι : Io} {a : AV} {v : Value} {l : List AV} (h : RelV ι a v) (hc : a.cells = some l) : RelC ι l v.cells.toList := by
  cases a <;> simp only [AV.cells, Option.some.injEq, reduceCtorEq] at hc <;> subst hc
  case agg l => obtain ⟨l', rfl, hr⟩ := h.aggC; exact hr
  all_goals
    cases h <;> exact ⟨.cons (by constructor <;> assumption) .nil, by simp [AV.scalar]⟩
theorem RelC.take {ι : Io} {l : List AV} {l' : List Value} (n : Nat) (h : RelC ι l l') : RelC ι (l.take n) (l'.take n) := ⟨h.1.take n, fun a ha => h.2 a (List.mem_of_mem_take ha)⟩
theorem RelC.drop {ι : Io} {l : List AV} {l' : List Value} (n : Nat) (h : RelC ι l l') : RelC ι (l.drop n) (l'.drop n) := ⟨h.1.drop n, fun a ha => h.2 a (List.mem_of_mem_drop ha)⟩
theorem RelC.append {ι : Io} {a b : List AV} {a' b' : List Value} (h : RelC ι a a') (k : RelC ι b b') : RelC ι (a ++ b) (a' ++ b') :=
  ⟨h.1.append k.1, fun x hx => (List.mem_append.1 hx).elim (h.2 x) (k.2 x)⟩
theorem RelC.ext {ι ι' : Io} (he : Ext ι ι') {l : List AV} {l' : List Value} (h : RelC ι l l') : RelC ι' l l' := ⟨h.1.ext he, h.2⟩
theorem RelC.flat {ι : Io} {a : List AV} {a' : List Value} (n : Nat) (h : RelC ι a a') : RelC ι ((List.replicate n a).flatten) ((List.replicate n a').flatten) :=
  ⟨h.1.flat n, fun x hx => by
    simp only [List.mem_flatten, List.mem_replicate] at hx
    obtain ⟨l, ⟨_, rfl⟩, hx⟩ := hx
    exact h.2 x hx⟩
theorem liftS_rel (ι : Io) {v : Value} {a : AV} (h : liftS v = some a) : RelV ι a v ∧ a.scalar = true := by
  unfold liftS at h
  split at h <;> simp only [Option.some.injEq, reduceCtorEq] at h <;> subst h <;> refine ⟨?_, rfl⟩ <;> constructor
theorem okL_rel (ι : Io) : ∀ {l : List Value}, okL l = true → RelC ι (l.map liftD) l
  | [], _ => ⟨.nil, by simp⟩
  | v :: l, h => by
    unfold okL at h
    cases hx : liftS v with
    | none => rw [hx] at h; cases h
    | some x =>
      rw [hx] at h
      have ih := okL_rel ι (show okL l = true from h)
      have hr := liftS_rel ι hx
      have e : liftD v = x := by simp [liftD, hx]
      refine ⟨by simpa [e] using RelL.cons hr.1 ih.1, fun a ha => ?_⟩
      rw [List.map_cons, e] at ha
      rcases List.mem_cons.1 ha with rfl | ha
      · exact hr.2
      · exact ih.2 a ha
theorem liftL_rel (ι : Io) {l : List Value} {l' : List AV} (h : liftL l = some l') : RelC ι l' l := by
  unfold liftL at h
  cases ho : okL l with
  | true => rw [ho] at h; cases h; exact okL_rel ι ho
  | false => rw [ho] at h; cases h
theorem liftV_rel (ι : Io) {v : Value} {a : AV} (h : liftV v = some a) : RelV ι a v := by
  unfold liftV at h
  split at h
  · rename_i cs
    cases hl : liftL cs.toList with
    | none => simp [hl] at h
    | some l => simp [hl] at h; subst h; simpa using (liftL_rel ι hl).agg
  · exact (liftS_rel ι h).1
def RelE (ι : Io) (e : Env) (tmps : Array Value) : Prop := ∀ t, RelV ι (e.get t) (tmps.getD t undef)
theorem RelE.ext {ι ι' : Io} (he : Ext ι ι') {e : Env} {tmps : Array Value} (h : RelE ι e tmps) : RelE ι' e tmps := fun t => (h t).ext he
theorem RelE.put {ι : Io} {e : Env} {a : Act} (h : RelE ι e a.tmps) {v : AV} {v' : Value} (hv : RelV ι v v') (dst : Option Nat) (hd : ∀ t, dst = some t → t < a.tmps.size) : RelE ι (e.put dst v) (a.put dst v').tmps := by
  cases dst with
  | none => exact h
  | some d =>
    intro t
    rw [Env.get_put_some]
    simp only [Act.put]
    by_cases e1 : t = d
    · subst e1
      rw [if_pos rfl, Array.getD_eq_getD_getElem?, Array.getElem?_setIfInBounds, if_pos rfl, if_pos (hd t rfl)]
      exact hv
    · rw [if_neg e1, Array.getD_eq_getD_getElem?, Array.getElem?_setIfInBounds, if_neg (Ne.symm e1), ← Array.getD_eq_getD_getElem?]
      exact h t
theorem ao_rel {ι : Io} {e : Env} {a : Act} (h : RelE ι e a.tmps) (x : Operand) : RelV ι ((ao x).ev e) (a.eval x) := by
  cases x with
  | tmp t => exact h t
  | const v =>
    simp only [ao, AO.ev, Act.eval]
    cases hl : liftV v with
    | none => exact .undef v
    | some x => exact liftV_rel ι hl
  | global g => exact .undef _
  | func f => exact .fn (.func f) rfl (by simp) rfl (by simp)
theorem ao_relL {ι : Io} {e : Env} {a : Act} (h : RelE ι e a.tmps) (l : List Operand) : RelL ι ((l.map ao).map (·.ev e)) (l.map a.eval) := by
  induction l with
  | nil => exact .nil
  | cons x l ih => exact .cons (ao_rel h x) ih
def ABlk.mine : ABlk → Bool
  | .cells _ own => own
  | .dead => false
  | _ => true
def RelSt : LSt → LoopState → Prop
  | .ready, .ready | .busy, .busy | .done, .done | .exhausted, .exhausted => True
  | _, _ => False
def RelPend : Option AC → Option Code → Prop
  | none, none => True
  | some .ret, some .ret => True
  | some (.exit id), some (.exit id') => id = id'
  | _, _ => False
def RelEnt (ι : Io) (x : AEnt) (y : MapEntry) : Prop := RelV ι x.key y.key ∧ RelV ι x.val y.val ∧ x.born = y.born
def RelEs (ι : Io) (l : List AEnt) (l' : List MapEntry) : Prop := l.length = l'.length ∧ ∀ (i : Nat) (x : AEnt) (y : MapEntry), l[i]? = some x → l'[i]? = some y → RelEnt ι x y
def RelB (P : Program) (ι : Io) (base : Nat) (heap : Array Obj) (p : Pl) : ABlk → Prop
  | .cells l true => base ≤ p.B ∧ ∃ (arr : Array Value) (ty : TypeId), heap[p.B]? = some (.cells arr ty (0, 0)) ∧ arr.size = p.S ∧ p.O + l.length ≤ p.S ∧ RelC ι l ((arr.toList.drop p.O).take l.length)
  | .cells l false => p.B < base ∧ ∃ (arr : Array Value) (ty : TypeId) (fz : Nat × Nat), heap[p.B]? = some (.cells arr ty fz) ∧ p.O + l.length ≤ arr.size ∧ RelC ι l ((arr.toList.drop p.O).take l.length)
  | .map es clock => base ≤ p.B ∧ ∃ es', heap[p.B]? = some (.map es' clock) ∧ RelEs ι es es'.toList
  | .iter m since seen stepped => base ≤ p.B ∧ p.O = 0 ∧ ∃ m', heap[p.B]? = some (.mapIter m' since seen.toArray stepped) ∧ (match m, m' with | none, none => True | some r, some r' => ∃ q, ι r = some q ∧ q.B = r' | _, _ => False)
  | .loop st pend env ps asg body => base ≤ p.B ∧ ∃ r : Loop, heap[p.B]? = some (.loop r) ∧ RelSt st r.state ∧ RelPend pend r.pending ∧ RelE ι env r.tmps ∧ r.params.toList = ps ∧ comp P r.tmps.size r.assign = asg ∧ comp P r.tmps.size r.body = body ∧ (∀ t ∈ ps, t < r.tmps.size)
  | .dead => True
theorem RelEs.ext {ι ι' : Io} (he : Ext ι ι') {l : List AEnt} {l' : List MapEntry} (h : RelEs ι l l') : RelEs ι' l l' :=
  ⟨h.1, fun i x y hx hy => let ⟨a, b, c⟩ := h.2 i x y hx hy; ⟨a.ext he, b.ext he, c⟩⟩
theorem RelB.ext {P : Program} {ι ι' : Io} {base : Nat} {heap heap' : Array Obj} {p : Pl} {x : ABlk} (he : Ext ι ι') (hh : x ≠ .dead → heap'[p.B]? = heap[p.B]?) (h : RelB P ι base heap p x) : RelB P ι' base heap' p x := by
  cases x with
  | cells l own =>
    cases own with
    | true => obtain ⟨h1, arr, ty, h2, h3, h4, h5⟩ := h; exact ⟨h1, arr, ty, by rw [hh (by simp)]; exact h2, h3, h4, h5.ext he⟩
    | false => obtain ⟨h1, arr, ty, fz, h2, h4, h5⟩ := h; exact ⟨h1, arr, ty, fz, by rw [hh (by simp)]; exact h2, h4, h5.ext he⟩
  | map es clock => obtain ⟨h1, es', h2, h3⟩ := h; exact ⟨h1, es', by rw [hh (by simp)]; exact h2, h3.ext he⟩
  | iter m since seen stepped =>
    obtain ⟨h1, h0, m', h2, h3⟩ := h
    refine ⟨h1, h0, m', by rw [hh (by simp)]; exact h2, ?_⟩
    cases m <;> cases m' <;> simp_all
    obtain ⟨q, hq, hb⟩ := h3
    exact ⟨q, he _ _ hq, hb⟩
  | loop st pend env ps asg body => obtain ⟨h1, r, h2, h3, h4, h5, h6⟩ := h; exact ⟨h1, r, by rw [hh (by simp)]; exact h2, h3, h4, h5.ext he, h6⟩
  | dead => trivial
structure RelS (P : Program) (base : Nat) (ι : Io) (h : H) (w : World) : Prop where
  blk : ∀ b x, h.get b = some x → ∃ p, ι b = some p ∧ p.B < w.heap.size ∧ RelB P ι base w.heap p x
  unused : ∀ b, h.get b = none → ι b = none
  inj : ∀ b b' x x' p p', h.get b = some x → h.get b' = some x' → x.mine = true → x'.mine = true → ι b = some p → ι b' = some p' → p.B = p'.B → b = b'
  top : ∀ b x, h.get b = some x → b < h.next
def Img (ι : Io) (h : H) (B : Nat) : Prop := ∃ b x p, h.get b = some x ∧ x.mine = true ∧ ι b = some p ∧ p.B = B
def SameS (w w' : World) : Prop := w'.os = w.os ∧ w'.tape = w.tape ∧ w'.output = w.output
theorem SameS.trans {a b c : World} (h : SameS a b) (k : SameS b c) : SameS a c := ⟨k.1.trans h.1, k.2.1.trans h.2.1, k.2.2.trans h.2.2⟩
structure StepR (ι : Io) (h : H) (w : World) (ι' : Io) (h' : H) (w' : World) : Prop where
  ext : Ext ι ι'
  size : w.heap.size ≤ w'.heap.size
  fr : ∀ B, B < w.heap.size → ¬ Img ι h B → w'.heap[B]? = w.heap[B]? ∧ ¬ Img ι' h' B
  os : SameS w w'
theorem StepR.refl (ι : Io) (h : H) (w : World) : StepR ι h w ι h w := ⟨.refl ι, Nat.le_refl _, fun _ _ h => ⟨rfl, h⟩, rfl, rfl, rfl⟩
theorem StepR.trans {ι ι' ι'' : Io} {h h' h'' : H} {w w' w'' : World} (s : StepR ι h w ι' h' w') (t : StepR ι' h' w' ι'' h'' w'') : StepR ι h w ι'' h'' w'' :=
  ⟨s.ext.trans t.ext, Nat.le_trans s.size t.size, fun B hB hi => by
    obtain ⟨h1, h2⟩ := s.fr B hB hi
    obtain ⟨h3, h4⟩ := t.fr B (Nat.lt_of_lt_of_le hB s.size) h2
    exact ⟨h3.trans h1, h4⟩, s.os.trans t.os⟩
theorem RelB.base {P : Program} {ι : Io} {base : Nat} {heap : Array Obj} {p : Pl} {x : ABlk} (h : RelB P ι base heap p x) (hm : x.mine = true) : base ≤ p.B := by
  cases x with
  | cells l own => cases own with
    | true => exact h.1
    | false => cases hm
  | dead => cases hm
  | _ => exact h.1
theorem RelB.below {P : Program} {ι : Io} {base : Nat} {heap : Array Obj} {p : Pl} {x : ABlk} (h : RelB P ι base heap p x) (hm : x.mine = false) (hd : x ≠ .dead) : p.B < base := by
  cases x with
  | cells l own => cases own with
    | true => cases hm
    | false => exact h.1
  | dead => exact absurd rfl hd
  | _ => cases hm
def Io.put (ι : Io) (b : Nat) (p : Pl) : Io := fun k => if k = b then some p else ι k
theorem Io.put_same (ι : Io) (b : Nat) (p : Pl) : (ι.put b p) b = some p := by simp [Io.put]
theorem Io.put_ne (ι : Io) {b k : Nat} (p : Pl) (h : k ≠ b) : (ι.put b p) k = ι k := by simp [Io.put, h]
theorem Ext.put {ι : Io} {b : Nat} (p : Pl) (h : ι b = none) : Ext ι (ι.put b p) := fun k q hk => by
  rw [Io.put_ne ι p (by intro e; subst e; rw [h] at hk; cases hk)]; exact hk
variable {P : Program} {base : Nat}
theorem RelS.put {ι : Io} {h : H} {w w' : World} (hS : RelS P base ι h w) {b : Nat} {x0 x : ABlk} {p : Pl} (hb : h.get b = some x0) (hm : x0.mine = true) (hp : ι b = some p)
    (hsz : w'.heap.size = w.heap.size) (hoth : ∀ k, k ≠ p.B → w'.heap[k]? = w.heap[k]?) (hx : RelB P ι base w'.heap p x) (ho : SameS w w' := by exact ⟨rfl, rfl, rfl⟩) :
    RelS P base ι (h.put b x) w' ∧ StepR ι h w ι (h.put b x) w' := by
  have hpB : p.B < w.heap.size := by obtain ⟨q, hq, hlt, _⟩ := hS.blk b x0 hb; rw [hp] at hq; cases hq; exact hlt
  have hbase : base ≤ p.B := by obtain ⟨q, hq, _, hr⟩ := hS.blk b x0 hb; rw [hp] at hq; cases hq; exact hr.base hm
  refine ⟨⟨?_, ?_, ?_, ?_⟩, ⟨.refl ι, by omega, ?_, ho⟩⟩
  · intro k y hk
    rw [H.get_put] at hk
    by_cases e : k = b
    · subst e; rw [if_pos rfl] at hk; cases hk; exact ⟨p, hp, by omega, hx⟩
    · rw [if_neg e] at hk
      obtain ⟨q, hq, hlt, hr⟩ := hS.blk k y hk
      refine ⟨q, hq, by omega, hr.ext (.refl ι) fun hd => hoth _ ?_⟩
      intro eB
      by_cases hym : y.mine = true
      · exact e (hS.inj k b y x0 q p hk hb hym hm hq hp eB)
      · have := hr.below (by simpa using hym) hd; omega
  · intro k hk
    rw [H.get_put] at hk
    split at hk
    · cases hk
    · exact hS.unused k hk
  · intro k k' y y' q q' hk hk' hy hy' hq hq' hB
    have own : ∀ j z r, (h.put b x).get j = some z → z.mine = true → ι j = some r → ∃ z0, h.get j = some z0 ∧ z0.mine = true := by
      intro j z r hj hz _
      rw [H.get_put] at hj
      by_cases e : j = b
      · subst e; exact ⟨x0, hb, hm⟩
      · rw [if_neg e] at hj; exact ⟨z, hj, hz⟩
    obtain ⟨z, hz, hzm⟩ := own k y q hk hy hq
    obtain ⟨z', hz', hzm'⟩ := own k' y' q' hk' hy' hq'
    exact hS.inj k k' z z' q q' hz hz' hzm hzm' hq hq' hB
  · intro k y hk
    rw [H.get_put] at hk
    rw [H.next_put]
    split at hk
    · rename_i e; subst e; exact hS.top k x0 hb
    · exact hS.top k y hk
  · intro B hB hi
    refine ⟨hoth B ?_, ?_⟩
    · intro e; exact hi ⟨b, x0, p, hb, hm, hp, e.symm⟩
    · rintro ⟨k, y, q, hk, hy, hq, rfl⟩
      rw [H.get_put] at hk
      by_cases e : k = b
      · subst e; exact hi ⟨k, x0, q, hb, hm, hq, rfl⟩
      · rw [if_neg e] at hk; exact hi ⟨k, y, q, hk, hy, hq, rfl⟩
theorem RelS.newAt {ι : Io} {h : H} {w w' : World} (hS : RelS P base ι h w) {a : Nat} (hn : h.get a = none) (p : Pl) {x : ABlk}
    (hsz : w.heap.size ≤ w'.heap.size) (hp : p.B < w'.heap.size) (hoth : ∀ k, k < w.heap.size → k ≠ p.B → w'.heap[k]? = w.heap[k]?)
    (hfree : ∀ b y q, h.get b = some y → y.mine = true → ι b = some q → q.B ≠ p.B) (hbase : base ≤ p.B) (hx : RelB P (ι.put a p) base w'.heap p x) :
    RelS P base (ι.put a p) (h.new a x) w' := by
  have hι := hS.unused a hn
  refine ⟨?_, ?_, ?_, ?_⟩
  · intro k y hk
    rw [H.get_new] at hk
    by_cases e : k = a
    · subst e; rw [if_pos rfl] at hk; cases hk; exact ⟨p, Io.put_same ι k p, hp, hx⟩
    · rw [if_neg e] at hk
      obtain ⟨q, hq, hlt, hr⟩ := hS.blk k y hk
      refine ⟨q, by rw [Io.put_ne ι p e]; exact hq, by omega, hr.ext (Ext.put p hι) fun hd => hoth _ hlt ?_⟩
      intro eB
      by_cases hym : y.mine = true
      · exact hfree k y q hk hym hq eB
      · have := hr.below (by simpa using hym) hd; omega
  · intro k hk
    rw [H.get_new] at hk
    by_cases e : k = a
    · rw [if_pos e] at hk; cases hk
    · rw [if_neg e] at hk; rw [Io.put_ne ι p e]; exact hS.unused k hk
  · intro k k' y y' q q' hk hk' hy hy' hq hq' hB
    rw [H.get_new] at hk hk'
    by_cases e : k = a
    · subst e
      by_cases e' : k' = k
      · exact e'.symm
      · rw [if_neg e'] at hk'
        rw [Io.put_same] at hq; cases hq
        rw [Io.put_ne ι p e'] at hq'
        exact absurd hB.symm (hfree k' y' q' hk' hy' hq')
    · rw [if_neg e] at hk
      rw [Io.put_ne ι p e] at hq
      by_cases e' : k' = a
      · subst e'
        rw [Io.put_same] at hq'; cases hq'
        exact absurd hB (hfree k y q hk hy hq)
      · rw [if_neg e'] at hk'
        rw [Io.put_ne ι p e'] at hq'
        exact hS.inj k k' y y' q q' hk hk' hy hy' hq hq' hB
  · intro k y hk
    rw [H.get_new] at hk
    rw [H.next_new]
    by_cases e : k = a
    · subst e; omega
    · rw [if_neg e] at hk; have := hS.top k y hk; omega
theorem heap_alloc_lt (w : World) (o : Obj) {k : Nat} (hk : k < w.heap.size) : (w.alloc o).heap[k]? = w.heap[k]? := by
  show (w.heap.push o)[k]? = _
  rw [Array.getElem?_push, if_neg (Nat.ne_of_lt hk)]
theorem heap_alloc_at (w : World) (o : Obj) : (w.alloc o).heap[w.heap.size]? = some o := by
  show (w.heap.push o)[w.heap.size]? = _
  rw [Array.getElem?_push, if_pos rfl]
theorem size_alloc' (w : World) (o : Obj) : (w.alloc o).heap.size = w.heap.size + 1 := Array.size_push _
theorem RelS.fresh {ι : Io} {h : H} {w : World} (hS : RelS P base ι h w) (hbw : base ≤ w.heap.size) {a : Nat} (hn : h.get a = none) (o : Obj) (p : Pl) (hpB : p.B = w.heap.size) {x : ABlk}
    (hx : RelB P (ι.put a p) base (w.alloc o).heap p x) :
    RelS P base (ι.put a p) (h.new a x) (w.alloc o) ∧ StepR ι h w (ι.put a p) (h.new a x) (w.alloc o) := by
  have hι := hS.unused a hn
  have hfree : ∀ b y q, h.get b = some y → y.mine = true → ι b = some q → q.B ≠ p.B := by
    intro b y q hb _ hq
    obtain ⟨q', hq', hlt, _⟩ := hS.blk b y hb
    rw [hq] at hq'; cases hq'; omega
  have hoth : ∀ k, k < w.heap.size → (w.alloc o).heap[k]? = w.heap[k]? := fun k hk => heap_alloc_lt w o hk
  have hsz := size_alloc' w o
  refine ⟨hS.newAt hn p (by omega) (by omega) (fun k hk _ => hoth k hk) hfree (by omega) hx, ⟨Ext.put p hι, by omega, fun B hB hi => ⟨hoth B hB, ?_⟩, rfl, rfl, rfl⟩⟩
  rintro ⟨k, y, q, hk, hy, hq, rfl⟩
  rw [H.get_new] at hk
  by_cases e : k = a
  · subst e; rw [Io.put_same] at hq; cases hq; omega
  · rw [if_neg e] at hk; rw [Io.put_ne ι p e] at hq; exact hi ⟨k, y, q, hk, hy, hq, rfl⟩
theorem RelS.kill {ι : Io} {h : H} {w : World} (hS : RelS P base ι h w) {b : Nat} {x0 : ABlk} (hb : h.get b = some x0) :
    RelS P base ι (h.put b .dead) w ∧ StepR ι h w ι (h.put b .dead) w := by
  refine ⟨⟨?_, ?_, ?_, ?_⟩, ⟨.refl ι, Nat.le_refl _, ?_, rfl, rfl, rfl⟩⟩
  · intro k y hk
    rw [H.get_put] at hk
    by_cases e : k = b
    · subst e; rw [if_pos rfl] at hk; cases hk
      obtain ⟨q, hq, hlt, _⟩ := hS.blk k x0 hb
      exact ⟨q, hq, hlt, trivial⟩
    · rw [if_neg e] at hk; exact hS.blk k y hk
  · intro k hk
    rw [H.get_put] at hk
    split at hk
    · cases hk
    · exact hS.unused k hk
  · intro k k' y y' q q' hk hk' hy hy' hq hq' hB
    rw [H.get_put] at hk hk'
    split at hk
    · cases hk; cases hy
    · split at hk'
      · cases hk'; cases hy'
      · exact hS.inj k k' y y' q q' hk hk' hy hy' hq hq' hB
  · intro k y hk
    rw [H.get_put] at hk
    rw [H.next_put]
    split at hk
    · rename_i e; subst e; exact hS.top k x0 hb
    · exact hS.top k y hk
  · intro B hB hi
    refine ⟨rfl, ?_⟩
    rintro ⟨k, y, q, hk, hy, hq, rfl⟩
    rw [H.get_put] at hk
    split at hk
    · cases hk; cases hy
    · exact hi ⟨k, y, q, hk, hy, hq, rfl⟩
theorem RelS.same {ι : Io} {h h' : H} {w w' : World} (hS : RelS P base ι h w) (hm : ∀ b, h'.get b = h.get b) (hnx : h.next ≤ h'.next) (hw : w'.heap = w.heap) : RelS P base ι h' w' :=
  ⟨fun b x hb => by rw [hm] at hb; rw [hw]; exact hS.blk b x hb, fun b hb => by rw [hm] at hb; exact hS.unused b hb,
   fun b b' x x' p p' hb hb' => by rw [hm] at hb hb'; exact hS.inj b b' x x' p p' hb hb', fun b x hb => by rw [hm] at hb; exact Nat.lt_of_lt_of_le (hS.top b x hb) hnx⟩
theorem StepR.same {ι : Io} {h h' : H} {w w' : World} (hm : ∀ b, h'.get b = h.get b) (hw : w'.heap = w.heap) (ho : SameS w w' := by exact ⟨rfl, rfl, rfl⟩) : StepR ι h w ι h' w' :=
  ⟨.refl ι, by rw [hw]; exact Nat.le_refl _, fun B _ hi => ⟨by rw [hw], fun ⟨b, x, p, hb, hx, hp, hB⟩ => hi ⟨b, x, p, by rw [← hm]; exact hb, hx, hp, hB⟩⟩, ho⟩
theorem RelS.row {ι : Io} {h : H} {w : World} (hS : RelS P base ι h w) {b : Nat} {l : List AV} {own : Bool} (hb : h.get b = some (.cells l own)) :
    ∃ p arr ty fz, ι b = some p ∧ p.B < w.heap.size ∧ w.heap[p.B]? = some (.cells arr ty fz) ∧ p.O + l.length ≤ arr.size ∧ RelC ι l ((arr.toList.drop p.O).take l.length) := by
  obtain ⟨p, hp, hlt, hr⟩ := hS.blk b _ hb
  cases own with
  | true => obtain ⟨_, arr, ty, h2, h3, h4, h5⟩ := hr; exact ⟨p, arr, ty, (0, 0), hp, hlt, h2, by omega, h5⟩
  | false => obtain ⟨_, arr, ty, fz, h2, h4, h5⟩ := hr; exact ⟨p, arr, ty, fz, hp, hlt, h2, h4, h5⟩
end Go.Ax
end
section
namespace Go.Ax
variable {P : Program} {base : Nat}
def Sim (P : Program) (base : Nat) (ι : Io) (h : H) (w : World) (s : Sem Value) (v : AV) (h' : H) : Prop :=
  ∃ v' w' ι', s.run P w = .ok v' w' ∧ RelV ι' v v' ∧ RelS P base ι' h' w' ∧ StepR ι h w ι' h' w'
theorem Sim.pure {ι : Io} {h : H} {w : World} {s : Sem Value} {v : AV} {v' : Value} (hS : RelS P base ι h w) (hr : s.run P w = .ok v' w) (hv : RelV ι v v') : Sim P base ι h w s v h :=
  ⟨v', w, ι, hr, hv, hS, .refl ι h w⟩
theorem rel_int {ι : Io} {k : IntKind} {n : Int} {v : Value} (h : RelV ι (.int k n) v) : v = .int k n := by cases h; rfl
theorem rel_bool {ι : Io} {b : Bool} {v : Value} (h : RelV ι (.bool b) v) : v = .bool b := by cases h; rfl
theorem rel_str {ι : Io} {b : ByteArray} {v : Value} (h : RelV ι (.str b) v) : v = .string b := by cases h; rfl
theorem bin_rel {ι : Io} (op : BinOp) {x y r : AV} {x' y' : Value} (t : TypeId) (w : World) (hx : RelV ι x x') (hy : RelV ι y y') (h : binAV op x y = some r) :
    ∃ r', (binOp op t x' y').run P w = .ok r' w ∧ RelV ι r r' := by
  cases x <;> cases y <;> simp only [binAV, reduceCtorEq] at h
  case int.int k a k' b =>
    obtain rfl := rel_int hx
    obtain rfl := rel_int hy
    cases op <;> simp only [binInt] at h
    case shl =>
      split at h <;> simp only [Option.some.injEq, reduceCtorEq] at h
      rename_i hn; subst h
      refine ⟨_, ?_, .int _ _⟩
      simp [binOp, Op.shift, hn]
    case shr =>
      split at h <;> simp only [Option.some.injEq, reduceCtorEq] at h
      rename_i hn; subst h
      refine ⟨_, ?_, .int _ _⟩
      simp [binOp, Op.shift, hn]
    all_goals
      split at h <;> try (simp only [reduceCtorEq] at h; done)
      rename_i hk
      simp only [ne_eq, Decidable.not_not] at hk
      subst hk
    case quo =>
      split at h <;> simp only [Option.some.injEq, reduceCtorEq] at h
      rename_i hb; subst h
      exact ⟨_, by simp [binOp, Op.intDiv, hb], .int _ _⟩
    case rem =>
      split at h <;> simp only [Option.some.injEq, reduceCtorEq] at h
      rename_i hb; subst h
      exact ⟨_, by simp [binOp, Op.intDiv, hb], .int _ _⟩
    all_goals
      simp only [Option.some.injEq] at h
      subst h
      first
        | exact ⟨_, by simp only [binOp, ne_eq, not_true_eq_false, if_false]; rfl, .int _ _⟩
        | exact ⟨_, by simp only [binOp, ne_eq, not_true_eq_false, if_false]; rfl, .bool _⟩
  case str.str a b =>
    obtain rfl := rel_str hx
    obtain rfl := rel_str hy
    cases op <;> simp only [binStr, Option.some.injEq, reduceCtorEq] at h
    case add =>
      split at h <;> simp only [Option.some.injEq, reduceCtorEq] at h
      rename_i hsz; subst h
      refine ⟨_, ?_, .str _⟩
      simp only [binOp, Op.stringOp]
      rw [if_neg (by rw [show IntKind.i64.max = 9223372036854775807 from rfl]; omega)]
      rfl
    all_goals
      subst h
      exact ⟨_, rfl, .bool _⟩
theorem un_rel {ι : Io} (op : UnOp) {x r : AV} {x' : Value} (w : World) (hx : RelV ι x x') (h : unAV op x = some r) :
    ∃ r', (Op.unary op x').run P w = .ok r' w ∧ RelV ι r r' := by
  cases x <;> simp only [unAV, reduceCtorEq] at h
  case bool b =>
    obtain rfl := rel_bool hx
    cases op <;> simp only [Option.some.injEq, reduceCtorEq] at h
    subst h
    exact ⟨_, rfl, .bool _⟩
  case int k n =>
    obtain rfl := rel_int hx
    cases op <;> simp only [Option.some.injEq, reduceCtorEq] at h <;> subst h
    · exact ⟨_, rfl, .int _ _⟩
    · exact ⟨_, rfl, .int _ _⟩
end Go.Ax
end
section
namespace Go.Ax
variable {P : Program}
theorem agn_isAgg {t : TypeId} {a : Option Nat} (h : agn P t = some a) (w : World) : (isAgg t).run P w = .ok a.isSome w := by
  unfold agn at h
  split at h
  · rename_i fs hu
    cases hs : sz P t with
    | none => simp [hs] at h
    | some n => simp [hs] at h; subst h; simp [isAgg, run_underlying hu]
  · rename_i n e hu
    cases hs : sz P t with
    | none => simp [hs] at h
    | some n => simp [hs] at h; subst h; simp [isAgg, run_underlying hu]
  · rename_i d h1 h2 hu
    simp at h; subst h
    cases d <;> simp [isAgg, run_underlying hu] <;> simp_all
  · cases h
theorem agn_some {t : TypeId} {n : Nat} (h : agn P t = some (some n)) : sz P t = some n := by
  unfold agn at h
  split at h
  · cases hs : sz P t with
    | none => simp [hs] at h
    | some m => simp [hs] at h; subst h; rfl
  · cases hs : sz P t with
    | none => simp [hs] at h
    | some m => simp [hs] at h; subst h; rfl
  · simp at h
  · cases h
theorem sz_run {t : TypeId} {n : Nat} (h : sz P t = some n) (w : World) : (sizeOf t).run P w = .ok n w := by
  unfold sz at h
  cases hi : P.info? t with
  | none => simp [hi] at h
  | some i => simp [hi] at h; subst h; simp [sizeOf, typeInfo, hi]
theorem sz_info {t : TypeId} {n : Nat} (h : sz P t = some n) : ∃ i, P.info? t = some i ∧ i.size = n := by
  unfold sz at h
  cases hi : P.info? t with
  | none => simp [hi] at h
  | some i => simp [hi] at h; exact ⟨i, rfl, h⟩
theorem sz_cellsOf {t : TypeId} {n : Nat} (h : sz P t = some n) : P.cellsOf t = n := by
  obtain ⟨i, hi, rfl⟩ := sz_info h
  simp [Program.cellsOf, hi]
def packV (a : Option Nat) (X : List Value) : Value := match a with
  | some _ => .agg X.toArray
  | none => X.headD undef
theorem run_part {t : TypeId} {a : Option Nat} {n : Nat} {X : List Value} {Z : Array Value} {off : Nat} (w : World) (ha : agn P t = some a) (hs : sz P t = some n) (hX : X.length = n) (h1 : a = none → n = 1)
    (hZ : (Z.toList.drop off).take n = X) : (part t Z off).run P w = .ok (packV a X) w := by
  unfold part
  simp only [Sem.run_bind, agn_isAgg ha, Result.andThen_ok]
  cases a with
  | some m =>
    simp only [Option.isSome_some, if_true, Sem.run_bind, sz_run hs, Result.andThen_ok, Sem.run_pure, packV]
    congr 2
    apply Array.ext'
    rw [Array.toList_extract, List.extract_eq_take_drop]
    simp only [Nat.add_sub_cancel_left]
    rw [hZ]
  | none =>
    obtain rfl := h1 rfl
    simp only [Option.isSome_none, Bool.false_eq_true, if_false]
    obtain ⟨x, rfl⟩ := List.length_eq_one_iff.1 hX
    have hx : Z[off]? = some x := by
      have := congrArg (fun l => l[0]?) hZ
      simpa using this
    simp [hx, packV]
theorem leafsEq_len : ∀ {ks : List Leaf} {xs ys : List AV} {b : Bool}, leafsEq ks xs ys = some b → xs.length = ks.length ∧ ys.length = ks.length
  | [], [], [], _, _ => ⟨rfl, rfl⟩
  | [], [], _ :: _, _, h => by simp [leafsEq] at h
  | [], _ :: _, _, _, h => by simp [leafsEq] at h
  | _ :: _, [], _, _, h => by simp [leafsEq] at h
  | _ :: _, _ :: _, [], _, h => by simp [leafsEq] at h
  | k :: ks, x :: xs, y :: ys, b, h => by
    simp only [leafsEq] at h
    split at h
    · rename_i b1 b2 _ h2
      have := leafsEq_len h2
      simp [this.1, this.2]
    · cases h
theorem leafsEq_split : ∀ {k1 k2 : List Leaf} {xs ys : List AV} {b : Bool}, leafsEq (k1 ++ k2) xs ys = some b →
    ∃ b1 b2, leafsEq k1 (xs.take k1.length) (ys.take k1.length) = some b1 ∧ leafsEq k2 (xs.drop k1.length) (ys.drop k1.length) = some b2 ∧ b = (b1 && b2)
  | [], k2, xs, ys, b, h => ⟨true, b, by simp [leafsEq], by simpa using h, by simp⟩
  | k :: k1, k2, xs, ys, b, h => by
    cases xs with
    | nil => simp [leafsEq] at h
    | cons x xs => cases ys with
      | nil => simp [leafsEq] at h
      | cons y ys =>
        simp only [List.cons_append, leafsEq] at h
        split at h
        · rename_i c1 c2 h1 h2
          obtain ⟨d1, d2, e1, e2, e3⟩ := leafsEq_split h2
          simp at h
          refine ⟨c1 && d1, d2, ?_, by simpa using e2, by rw [← h, e3, Bool.and_assoc]⟩
          simp [leafsEq, h1, e1]
        · cases h
def EqOk (P : Program) (D : Nat) (t : TypeId) (ks : List Leaf) : Prop :=
  ∀ (ι : Io) (w : World) (a : Option Nat) (xs ys : List AV) (X Y : List Value) (b : Bool), agn P t = some a → RelL ι xs X → RelL ι ys Y → leafsEq ks xs ys = some b →
    (Op.equalIn D t (packV a X) (packV a Y)).run P w = .ok b w
def CkOk (P : Program) (D : Nat) (t : TypeId) (ks : List Leaf) : Prop :=
  ∀ (ι : Io) (w : World) (em : Bool) (a : Option Nat) (xs : List AV) (X : List Value) (b : Bool), agn P t = some a → RelL ι xs X → leafsEq ks xs xs = some b → (Instr.checkKey em D t (packV a X)).run P w = .ok () w
theorem leaf_bool {ι : Io} {xs ys : List AV} {X Y : List Value} {b : Bool} (hx : RelL ι xs X) (hy : RelL ι ys Y) (h : leafsEq [.bool] xs ys = some b) :
    ∃ p q, X = [.bool p] ∧ Y = [.bool q] ∧ b = (p == q) := by
  obtain ⟨h1, h2⟩ := leafsEq_len h
  obtain ⟨x, rfl⟩ := List.length_eq_one_iff.1 h1
  obtain ⟨y, rfl⟩ := List.length_eq_one_iff.1 h2
  cases x <;> cases y <;> simp [leafsEq, leafEq] at h
  rename_i p q
  obtain ⟨v, rfl⟩ := List.length_eq_one_iff.1 (hx.1.symm.trans h1)
  obtain ⟨u, rfl⟩ := List.length_eq_one_iff.1 (hy.1.symm.trans h2)
  obtain rfl := rel_bool hx.head
  obtain rfl := rel_bool hy.head
  exact ⟨p, q, rfl, rfl, h.symm⟩
theorem leaf_int {ι : Io} {xs ys : List AV} {X Y : List Value} {b : Bool} (hx : RelL ι xs X) (hy : RelL ι ys Y) (h : leafsEq [.int] xs ys = some b) :
    ∃ k p q, X = [.int k p] ∧ Y = [.int k q] ∧ b = (p == q) := by
  obtain ⟨h1, h2⟩ := leafsEq_len h
  obtain ⟨x, rfl⟩ := List.length_eq_one_iff.1 h1
  obtain ⟨y, rfl⟩ := List.length_eq_one_iff.1 h2
  cases x <;> cases y <;> simp [leafsEq, leafEq] at h
  rename_i k p k' q
  obtain ⟨v, rfl⟩ := List.length_eq_one_iff.1 (hx.1.symm.trans h1)
  obtain ⟨u, rfl⟩ := List.length_eq_one_iff.1 (hy.1.symm.trans h2)
  obtain rfl := rel_int hx.head
  obtain rfl := rel_int hy.head
  by_cases e : k = k'
  · subst e; simp at h; exact ⟨k, p, q, rfl, rfl, h.symm⟩
  · simp [e] at h
theorem leaf_str {ι : Io} {xs ys : List AV} {X Y : List Value} {b : Bool} (hx : RelL ι xs X) (hy : RelL ι ys Y) (h : leafsEq [.str] xs ys = some b) :
    ∃ p q, X = [.string p] ∧ Y = [.string q] ∧ b = (p == q) := by
  obtain ⟨h1, h2⟩ := leafsEq_len h
  obtain ⟨x, rfl⟩ := List.length_eq_one_iff.1 h1
  obtain ⟨y, rfl⟩ := List.length_eq_one_iff.1 h2
  cases x <;> cases y <;> simp [leafsEq, leafEq] at h
  rename_i p q
  obtain ⟨v, rfl⟩ := List.length_eq_one_iff.1 (hx.1.symm.trans h1)
  obtain ⟨u, rfl⟩ := List.length_eq_one_iff.1 (hy.1.symm.trans h2)
  obtain rfl := rel_str hx.head
  obtain rfl := rel_str hy.head
  exact ⟨p, q, rfl, rfl, h.symm⟩
theorem agn_of_und {t : TypeId} {d : TypeDesc} {a : Option Nat} (hu : P.underlying t = some d) (hd : (match d with | .struct _ | .array _ _ => false | _ => true) = true) (h : agn P t = some a) : a = none := by
  unfold agn at h
  rw [hu] at h
  cases d <;> simp at hd h <;> exact h.symm
theorem agn_of_agg {t : TypeId} {d : TypeDesc} {a : Option Nat} (hu : P.underlying t = some d) (hd : (match d with | .struct _ | .array _ _ => true | _ => false) = true) (h : agn P t = some a) : ∃ n, a = some n := by
  unfold agn at h
  rw [hu] at h
  cases d <;> simp at hd h <;> (cases hs : sz P t <;> simp [hs] at h; exact ⟨_, h.symm⟩)
theorem agn_isSome {t : TypeId} {n : Nat} (hu : (P.underlying t).isSome = true) (hs : sz P t = some n) : ∃ a, agn P t = some a := by
  unfold agn
  cases h : P.underlying t with
  | none => simp [h] at hu
  | some d => cases d <;> simp [hs]
theorem leaves_und {d : Nat} {t : TypeId} {ks : List Leaf} (h : leaves P d t = some ks) : (P.underlying t).isSome = true := by
  cases d with
  | zero => simp [leaves] at h
  | succ d =>
    simp only [leaves] at h
    cases hu : P.underlying t with
    | none => simp [hu] at h
    | some _ => rfl
theorem eqFields_ok {D : Nat} {lv : TypeId → Option (List Leaf)} (ih : ∀ t ks, lv t = some ks → EqOk P D t ks) (hu : ∀ t ks, lv t = some ks → (P.underlying t).isSome = true)
    (ι : Io) (w : World) (xs ys : List AV) (X Y : Array Value)
    (hx : RelL ι xs X.toList) (hy : RelL ι ys Y.toList) : ∀ (fs : List Field) (off : Nat) (ks : List Leaf) (b : Bool), leavesF P lv fs off = some ks →
    leafsEq ks ((xs.drop off).take ks.length) ((ys.drop off).take ks.length) = some b → (Op.eqFields D X Y fs).run P w = .ok b w
  | [], off, ks, b, hl, hb => by
    simp [leavesF] at hl; subst hl
    simp [leafsEq] at hb; subst hb
    simp [Op.eqFields]
  | f :: fs, off, ks, b, hl, hb => by
    simp only [leavesF] at hl
    split at hl
    · rename_i k1 k2 h1 h2
      split at hl
      · rename_i hc
        obtain ⟨hn, ho, hs, h1'⟩ := hc
        simp only [Option.some.injEq] at hl; subst hl
        rw [hs] at h2
        simp only [Option.getD_some] at h2
        obtain ⟨b1, b2, e1, e2, rfl⟩ := leafsEq_split hb
        simp only [List.length_append] at e1 e2
        rw [List.take_take, List.take_take, Nat.min_eq_left (by omega)] at e1
        rw [List.drop_take, List.drop_take, List.drop_drop, List.drop_drop, Nat.add_sub_cancel_left] at e2
        obtain ⟨a, ha⟩ := agn_isSome (hu _ _ h1) hs
        have hx1 := (hx.drop off).take k1.length
        have hy1 := (hy.drop off).take k1.length
        obtain ⟨l1, l2⟩ := leafsEq_len e1
        have h1'' : a = none → k1.length = 1 := fun e => h1' (by rw [ha, e])
        have p1 := run_part (P := P) (Z := X) (off := off) w ha hs (by rw [← hx1.1]; exact l1) h1'' rfl
        have p2 := run_part (P := P) (Z := Y) (off := off) w ha hs (by rw [← hy1.1]; exact l2) h1'' rfl
        have e3 := ih _ _ h1 ι w a _ _ _ _ b1 ha hx1 hy1 e1
        have e4 := eqFields_ok ih hu ι w xs ys X Y hx hy fs (off + k1.length) k2 b2 h2 e2
        rw [Op.eqFields, if_pos hn]
        simp only [Sem.run_bind, ho, p1, p2, e3, Result.andThen_ok]
        cases b1
        · simp
        · simpa using e4
      · cases hl
    · cases hl
theorem eqItems_ok {D : Nat} {e : TypeId} {ks : List Leaf} {a : Option Nat} (ih : EqOk P D e ks) (ha : agn P e = some a) (hs : sz P e = some ks.length) (h1 : a = none → ks.length = 1)
    (ι : Io) (w : World) (xs ys : List AV) (X Y : Array Value) (hx : RelL ι xs X.toList) (hy : RelL ι ys Y.toList) : ∀ (n i : Nat) (b : Bool),
    leafsEq ((List.replicate n ks).flatten) (xs.drop (i * ks.length)) (ys.drop (i * ks.length)) = some b → (Op.eqItems D e ks.length X Y (List.range' i n)).run P w = .ok b w
  | 0, i, b, hb => by
    simp only [List.replicate_zero, List.flatten_nil] at hb
    have := leafsEq_len hb
    have hb' : b = true := by
      cases h1 : xs.drop (i * ks.length) with
      | nil => cases h2 : ys.drop (i * ks.length) with
        | nil => rw [h1, h2] at hb; simpa [leafsEq] using hb.symm
        | cons _ _ => rw [h2] at this; simp at this
      | cons _ _ => rw [h1] at this; simp at this
    subst hb'
    simp [Op.eqItems]
  | n + 1, i, b, hb => by
    rw [List.replicate_succ, List.flatten_cons] at hb
    obtain ⟨b1, b2, e1, e2, rfl⟩ := leafsEq_split hb
    rw [List.drop_drop, List.drop_drop] at e2
    have hx1 := (hx.drop (i * ks.length)).take ks.length
    have hy1 := (hy.drop (i * ks.length)).take ks.length
    obtain ⟨l1, l2⟩ := leafsEq_len e1
    have p1 := run_part (P := P) (Z := X) (off := i * ks.length) w ha hs (by rw [← hx1.1]; exact l1) h1 rfl
    have p2 := run_part (P := P) (Z := Y) (off := i * ks.length) w ha hs (by rw [← hy1.1]; exact l2) h1 rfl
    have e3 := ih ι w a _ _ _ _ b1 ha hx1 hy1 e1
    have e4 := eqItems_ok ih ha hs h1 ι w xs ys X Y hx hy n (i + 1) b2 (by rw [Nat.succ_mul]; exact e2)
    rw [List.range'_succ, Op.eqItems]
    simp only [Sem.run_bind, p1, p2, e3, Result.andThen_ok]
    cases b1
    · simp
    · simpa using e4
theorem leaves_eqOk : ∀ (d : Nat) (t : TypeId) (ks : List Leaf), leaves P d t = some ks → ∀ D, d ≤ D → EqOk P D t ks
  | 0, t, ks, h => by simp [leaves] at h
  | d + 1, t, ks, h => by
    intro D hD ι w a xs ys X Y b ha hx hy hb
    obtain ⟨D, rfl⟩ : ∃ m, D = m + 1 := ⟨D - 1, by omega⟩
    simp only [leaves] at h
    split at h
    · rename_i hu
      simp only [Option.some.injEq] at h; subst h
      obtain rfl := agn_of_und hu rfl ha
      obtain ⟨p, q, rfl, rfl, rfl⟩ := leaf_bool hx hy hb
      exact run_equalIn_bool w D t p q hu
    · rename_i k hu
      simp only [Option.some.injEq] at h; subst h
      obtain rfl := agn_of_und hu rfl ha
      obtain ⟨k', p, q, rfl, rfl, rfl⟩ := leaf_int hx hy hb
      exact run_equalIn_int w D t k' k p q hu
    · rename_i hu
      simp only [Option.some.injEq] at h; subst h
      obtain rfl := agn_of_und hu rfl ha
      obtain ⟨p, q, rfl, rfl, rfl⟩ := leaf_str hx hy hb
      rw [beq_toListBytes]
      exact run_equalIn_string w D t p q hu
    · rename_i fs hu
      split at h
      · cases h
      · rename_i hst
        obtain ⟨n, rfl⟩ := agn_of_agg hu rfl ha
        obtain ⟨l1, l2⟩ := leafsEq_len hb
        have hf : P.fieldsOf t = fs := by simp [Program.fieldsOf, hu]
        simp only [packV]
        rw [run_equalIn_struct (P := P) w D t _ _ (by rw [hf]; exact hu) (by simpa using hst), hf]
        exact eqFields_ok (fun t ks h => leaves_eqOk d t ks h D (by omega)) (fun t ks h => leaves_und h) ι w xs ys X.toArray Y.toArray (by simpa using hx) (by simpa using hy) fs.toList 0 ks b h
          (by rw [List.drop_zero, List.drop_zero, List.take_of_length_le (by omega), List.take_of_length_le (by omega)]; exact hb)
    · rename_i n e hu
      split at h
      · rename_i l hl
        split at h
        · rename_i hc
          obtain ⟨hs, h1⟩ := hc
          simp only [Option.some.injEq] at h; subst h
          obtain ⟨m, rfl⟩ := agn_of_agg hu rfl ha
          obtain ⟨i, hi, _⟩ := sz_info hs
          obtain ⟨ae, hae⟩ := agn_isSome (leaves_und hl) hs
          simp only [packV]
          rw [run_equalIn_array (P := P) w D _ _ hu hi, sz_cellsOf hs, List.range_eq_range']
          exact eqItems_ok (leaves_eqOk d e l hl D (by omega)) hae hs (fun e' => h1 (by rw [hae, e'])) ι w xs ys X.toArray Y.toArray (by simpa using hx) (by simpa using hy) n 0 b (by simpa using hb)
        · cases h
      · cases h
    · cases h
def ckFields (em : Bool) (d : Nat) (xs : Array Value) : List Field → Sem Unit
  | [] => pure ()
  | f :: fs => do
    if f.name ≠ "_" then
      let a ← part f.type xs f.offset
      Instr.checkKey em d f.type a
    ckFields em d xs fs
def ckItems (em : Bool) (d : Nat) (e : TypeId) (c : Nat) (xs : Array Value) : List Nat → Sem Unit
  | [] => pure ()
  | i :: is => do
    let a ← part e xs (i * c)
    Instr.checkKey em d e a
    ckItems em d e c xs is
theorem run_ck_struct (w : World) (em : Bool) (d : Nat) {t : TypeId} {fs : Array Field} (xs : Array Value) (hu : P.underlying t = some (.struct fs)) :
    (Instr.checkKey em (d + 1) t (.agg xs)).run P w = (ckFields em d xs fs.toList).run P w := by
  simp only [Instr.checkKey, Sem.run_bind, run_underlying hu, Result.andThen_ok]
  rw [← Array.forIn_toList]
  generalize fs.toList = l
  clear hu
  induction l generalizing w with
  | nil => simp [ckFields]
  | cons f l ih =>
    simp only [List.forIn_cons, ckFields, Sem.run_bind, Sem.run_ite]
    split
    · generalize (part f.type xs f.offset).run P w = r1
      cases r1 with
      | ok a w1 =>
        simp only [Result.andThen_ok, Sem.run_bind]
        generalize (Instr.checkKey em d f.type a).run P w1 = r2
        cases r2 with
        | ok u w2 => simpa using ih w2
        | halt x w2 => simp [Result.andThen]
      | halt x w1 => simp [Result.andThen]
    · simpa using ih w
theorem run_ck_array (w : World) (em : Bool) (d : Nat) {t e : TypeId} {n c : Nat} (xs : Array Value) (hu : P.underlying t = some (.array n e)) (hs : sz P e = some c) :
    (Instr.checkKey em (d + 1) t (.agg xs)).run P w = (ckItems em d e c xs (List.range n)).run P w := by
  simp only [Instr.checkKey, Sem.run_bind, run_underlying hu, Result.andThen_ok]
  simp only [Std.Legacy.Range.forIn_eq_forIn_range', Std.Legacy.Range.size, Nat.sub_zero, Nat.add_one_sub_one, Nat.div_one, List.range_eq_range']
  generalize List.range' 0 n = is
  induction is generalizing w with
  | nil => simp [ckItems]
  | cons j is ih =>
    simp only [List.forIn_cons, ckItems, Sem.run_bind, sz_run hs, Result.andThen_ok]
    generalize (part e xs (j * c)).run P w = r1
    cases r1 with
    | ok a w1 =>
      simp only [Result.andThen_ok]
      generalize (Instr.checkKey em d e a).run P w1 = r2
      cases r2 with
      | ok u w2 => simpa using ih w2
      | halt x w2 => simp [Result.andThen]
    | halt x w1 => simp [Result.andThen]
theorem ckFields_ok {D : Nat} {em : Bool} {lv : TypeId → Option (List Leaf)} (ih : ∀ t ks, lv t = some ks → CkOk P D t ks) (hu : ∀ t ks, lv t = some ks → (P.underlying t).isSome = true)
    (ι : Io) (w : World) (xs : List AV) (X : Array Value) (hx : RelL ι xs X.toList) : ∀ (fs : List Field) (off : Nat) (ks : List Leaf) (b : Bool), leavesF P lv fs off = some ks →
    leafsEq ks ((xs.drop off).take ks.length) ((xs.drop off).take ks.length) = some b → (ckFields em D X fs).run P w = .ok () w
  | [], off, ks, b, hl, hb => by simp [ckFields]
  | f :: fs, off, ks, b, hl, hb => by
    simp only [leavesF] at hl
    split at hl
    · rename_i k1 k2 h1 h2
      split at hl
      · rename_i hc
        obtain ⟨hn, ho, hs, h1'⟩ := hc
        simp only [Option.some.injEq] at hl; subst hl
        rw [hs] at h2
        simp only [Option.getD_some] at h2
        obtain ⟨b1, b2, e1, e2, rfl⟩ := leafsEq_split hb
        simp only [List.length_append] at e1 e2
        rw [List.take_take, Nat.min_eq_left (by omega)] at e1
        rw [List.drop_take, List.drop_drop, Nat.add_sub_cancel_left] at e2
        obtain ⟨a, ha⟩ := agn_isSome (hu _ _ h1) hs
        have hx1 := (hx.drop off).take k1.length
        obtain ⟨l1, l2⟩ := leafsEq_len e1
        have h1'' : a = none → k1.length = 1 := fun e => h1' (by rw [ha, e])
        have p1 := run_part (P := P) (Z := X) (off := off) w ha hs (by rw [← hx1.1]; exact l1) h1'' rfl
        have e3 := ih _ _ h1 ι w em a _ _ b1 ha hx1 e1
        have e4 := ckFields_ok (em := em) ih hu ι w xs X hx fs (off + k1.length) k2 b2 h2 e2
        rw [ckFields]
        simp only [if_pos hn, Sem.run_bind, ho, p1, e3, Result.andThen_ok]
        exact e4
      · cases hl
    · cases hl
theorem ckItems_ok {D : Nat} {em : Bool} {e : TypeId} {ks : List Leaf} {a : Option Nat} (ih : CkOk P D e ks) (ha : agn P e = some a) (hs : sz P e = some ks.length) (h1 : a = none → ks.length = 1)
    (ι : Io) (w : World) (xs : List AV) (X : Array Value) (hx : RelL ι xs X.toList) : ∀ (n i : Nat) (b : Bool),
    leafsEq ((List.replicate n ks).flatten) (xs.drop (i * ks.length)) (xs.drop (i * ks.length)) = some b → (ckItems em D e ks.length X (List.range' i n)).run P w = .ok () w
  | 0, i, b, hb => by simp [ckItems]
  | n + 1, i, b, hb => by
    rw [List.replicate_succ, List.flatten_cons] at hb
    obtain ⟨b1, b2, e1, e2, rfl⟩ := leafsEq_split hb
    rw [List.drop_drop] at e2
    have hx1 := (hx.drop (i * ks.length)).take ks.length
    obtain ⟨l1, l2⟩ := leafsEq_len e1
    have p1 := run_part (P := P) (Z := X) (off := i * ks.length) w ha hs (by rw [← hx1.1]; exact l1) h1 rfl
    have e3 := ih ι w em a _ _ b1 ha hx1 e1
    have e4 := ckItems_ok (em := em) ih ha hs h1 ι w xs X hx n (i + 1) b2 (by rw [Nat.succ_mul]; exact e2)
    rw [List.range'_succ, ckItems]
    simp only [Sem.run_bind, p1, e3, Result.andThen_ok]
    exact e4
theorem leaves_ckOk : ∀ (d : Nat) (t : TypeId) (ks : List Leaf), leaves P d t = some ks → ∀ D, d ≤ D → CkOk P D t ks
  | 0, t, ks, h => by simp [leaves] at h
  | d + 1, t, ks, h => by
    intro D hD ι w em a xs X b ha hx hb
    obtain ⟨D, rfl⟩ : ∃ m, D = m + 1 := ⟨D - 1, by omega⟩
    simp only [leaves] at h
    split at h
    · rename_i hu
      obtain rfl := agn_of_und hu rfl ha
      simp [Instr.checkKey, run_underlying hu]
    · rename_i k hu
      obtain rfl := agn_of_und hu rfl ha
      simp [Instr.checkKey, run_underlying hu]
    · rename_i hu
      obtain rfl := agn_of_und hu rfl ha
      simp [Instr.checkKey, run_underlying hu]
    · rename_i fs hu
      split at h
      · cases h
      · obtain ⟨n, rfl⟩ := agn_of_agg hu rfl ha
        obtain ⟨l1, l2⟩ := leafsEq_len hb
        simp only [packV]
        rw [run_ck_struct (P := P) w em D _ hu]
        exact ckFields_ok (fun t ks h => leaves_ckOk d t ks h D (by omega)) (fun t ks h => leaves_und h) ι w xs X.toArray (by simpa using hx) fs.toList 0 ks b h
          (by rw [List.drop_zero, List.take_of_length_le (by omega)]; exact hb)
    · rename_i n e hu
      split at h
      · rename_i l hl
        split at h
        · rename_i hc
          obtain ⟨hs, h1⟩ := hc
          simp only [Option.some.injEq] at h; subst h
          obtain ⟨m, rfl⟩ := agn_of_agg hu rfl ha
          obtain ⟨ae, hae⟩ := agn_isSome (leaves_und hl) hs
          simp only [packV]
          rw [run_ck_array (P := P) w em D _ hu hs, List.range_eq_range']
          exact ckItems_ok (leaves_ckOk d e l hl D (by omega)) hae hs (fun e' => h1 (by rw [hae, e'])) ι w xs X.toArray (by simpa using hx) n 0 b (by simpa using hb)
        · cases h
      · cases h
    · cases h
end Go.Ax
end
section
namespace Go.Ax
variable {P : Program} {base : Nat}
def NextV (n : Next) (v : Value) : Prop := n = .value v ∨ (n = .skip ∧ v = undef)
def OpSim (P : Program) (base : Nat) (o : Oper) (op : AOp) : Prop :=
  ∀ (ι : Io) (e : Env) (h : H) (w : World) (a : Act) (aid : Nat) (v : AV) (h' : H) (fp : FP), RelS P base ι h w → base ≤ w.heap.size → RelE ι e a.tmps → h.get aid = none →
    (opLoc op e).run aid h = some (v, h', fp) →
    ∃ n v' w' ι', (execOp a.eval o).run P w = .ok n w' ∧ NextV n v' ∧ RelV ι' v v' ∧ RelS P base ι' h' w' ∧ StepR ι h w ι' h' w'
theorem Loc.run_val (r : Option AV) (aid : Nat) (h : H) : (Loc.val r).run aid h = r.map fun v => (v, h, .loc [] [] none) := by
  cases r <;> simp [Loc.run, Loc.val, getAll, H.puts]
theorem Loc.run_no (aid : Nat) (h : H) : Loc.no.run aid h = none := by simp [Loc.run, Loc.no, getAll]
theorem OpSim.val {o : Oper} {op : AOp} (s : (Operand → Value) → Sem Value) (r : Env → Option AV) (hl : ∀ e, opLoc op e = Loc.val (r e))
    (hx : ∀ ρ, execOp ρ o = (do pure (.value (← s ρ)))) (key : ∀ (ι : Io) (e : Env) (a : Act) (w : World) (x : AV), RelE ι e a.tmps → r e = some x → ∃ v', (s a.eval).run P w = .ok v' w ∧ RelV ι x v') :
    OpSim P base o op := by
  intro ι e h w a aid v h' fp hS _ hE _ hr
  rw [hl, Loc.run_val] at hr
  cases hre : r e with
  | none => simp [hre] at hr
  | some x =>
    simp [hre] at hr
    obtain ⟨rfl, rfl, _⟩ := hr
    obtain ⟨v', h1, h2⟩ := key ι e a w x hE hre
    exact ⟨.value v', v', w, ι, by rw [hx]; simp [h1], .inl rfl, h2, hS, .refl ι h w⟩
theorem sim_bad {o : Oper} : OpSim P base o .bad := by
  intro ι e h w a aid v h' fp hS _ hE _ hr
  simp [opLoc, Loc.run_no] at hr
theorem sim_mv {o : Oper} (x : Operand) (ho : o.op = .move x ∨ o.op = .assign x) : OpSim P base o (.mv (ao x)) := by
  intro ι e h w a aid v h' fp hS _ hE _ hr
  simp only [opLoc, Loc.run_val, Option.map_some, Option.some.injEq, Prod.mk.injEq] at hr
  obtain ⟨rfl, rfl, _⟩ := hr
  refine ⟨.value (a.eval x), a.eval x, w, ι, ?_, .inl rfl, ao_rel hE x, hS, .refl ι h w⟩
  rcases ho with ho | ho <;> simp [execOp, ho]
theorem rel_ptr {ι : Io} {b o : Nat} {v : Value} (h : RelV ι (.ptr (some (b, o))) v) : ∃ p, ι b = some p ∧ v = .pointer (some ⟨p.B, p.O + o, none⟩) := by
  cases h; exact ⟨_, by assumption, rfl⟩
theorem sim_nilchk {o : Oper} (x : Operand) (ho : o.op = .nilCheck x) : OpSim P base o (.nilchk (ao x)) := by
  intro ι e h w a aid v h' fp hS _ hE _ hr
  simp only [opLoc, Loc.run_val] at hr
  have hx := ao_rel hE x
  split at hr
  · rename_i p hp
    simp only [Option.map_some, Option.some.injEq, Prod.mk.injEq] at hr
    obtain ⟨rfl, rfl, _⟩ := hr
    rw [hp] at hx
    obtain ⟨b, k⟩ := p
    obtain ⟨q, hq, hv⟩ := rel_ptr hx
    refine ⟨.value (a.eval x), a.eval x, w, ι, ?_, .inl rfl, hx, hS, .refl ι h w⟩
    simp [execOp, ho, hv]
  · simp at hr
theorem sim_pick {o : Oper} (c x y : Operand) (ho : o.op = .pick c x y) : OpSim P base o (.pick (ao c) (ao x) (ao y)) := by
  intro ι e h w a aid v h' fp hS _ hE _ hr
  simp only [opLoc, Loc.run_val] at hr
  have hc := ao_rel hE c
  split at hr
  · rename_i hp
    simp only [Option.map_some, Option.some.injEq, Prod.mk.injEq] at hr
    obtain ⟨rfl, rfl, _⟩ := hr
    rw [hp] at hc
    exact ⟨.value (a.eval x), a.eval x, w, ι, by simp [execOp, ho, rel_bool hc, asBool], .inl rfl, ao_rel hE x, hS, .refl ι h w⟩
  · rename_i hp
    simp only [Option.map_some, Option.some.injEq, Prod.mk.injEq] at hr
    obtain ⟨rfl, rfl, _⟩ := hr
    rw [hp] at hc
    exact ⟨.value (a.eval y), a.eval y, w, ι, by simp [execOp, ho, rel_bool hc, asBool], .inl rfl, ao_rel hE y, hS, .refl ι h w⟩
  · simp at hr
def plainPair (u v : Value) : Bool := match u, v with
  | .nilIface, .nilIface => false
  | .agg _, .agg _ => false
  | _, _ => true
def boxyPair (u v : Value) : Bool := match u, v with
  | .int _ _, .int _ _ => false
  | .string _, .string _ => false
  | .float _ _, .float _ _ => false
  | .complex _ _ _, .complex _ _ _ => false
  | _, _ => true
theorem eqGuard_scalar (op : BinOp) (t : TypeId) (x y : Operand) (w : World) {u v : Value} (h : plainPair u v = true) :
    (eqGuard op t x y u v).run P w = .ok () w := by
  unfold eqGuard
  cases op <;> simp <;> (cases u <;> cases v <;> simp_all [plainPair])
theorem sim_bin {o : Oper} (op : BinOp) (t t' : TypeId) (x y : Operand) (ho : o.op = .binOp op t x y t') : OpSim P base o (.bin op (ao x) (ao y)) := by
  refine OpSim.val (fun ρ => do eqGuard op t x y (ρ x) (ρ y); binOp op t (ρ x) (ρ y)) (fun e => binAV op ((ao x).ev e) ((ao y).ev e)) (fun e => rfl) (fun ρ => by simp [execOp, ho]) ?_
  intro ι e a w r hE hr
  have hx := ao_rel hE x
  have hy := ao_rel hE y
  obtain ⟨r', h1, h2⟩ := bin_rel (P := P) op t w hx hy hr
  refine ⟨r', ?_, h2⟩
  have hg : (eqGuard op t x y (a.eval x) (a.eval y)).run P w = .ok () w := by
    apply eqGuard_scalar
    have key : ∀ X Y X' Y', RelV ι X X' → RelV ι Y Y' → binAV op X Y = some r → plainPair X' Y' = true := by
      intro X Y X' Y' hx hy hr
      cases X <;> cases Y <;> simp [binAV] at hr
      · rw [rel_int hx, rel_int hy]; rfl
      · rw [rel_str hx, rel_str hy]; rfl
    exact key _ _ _ _ hx hy hr
  simp [hg, h1]
theorem rel_eqAV {ι : Io} {ag : Bool} {ks : List Leaf} {x y : AV} {x' y' : Value} {b : Bool} (hx : RelV ι x x') (hy : RelV ι y y') (h : eqAV ag ks x y = some b) :
    ∃ (a : Option Nat) (xs ys : List AV) (X Y : List Value), a.isSome = ag ∧ RelL ι xs X ∧ RelL ι ys Y ∧ leafsEq ks xs ys = some b ∧ x' = packV a X ∧ y' = packV a Y ∧ (a = none → X.length = 1) := by
  unfold eqAV at h
  split at h
  · rename_i xs ys
    obtain ⟨X, rfl, h1⟩ := hx.aggC
    obtain ⟨Y, rfl, h2⟩ := hy.aggC
    exact ⟨some 0, xs, ys, X.toList, Y.toList, rfl, h1.1, h2.1, h, by simp [packV], by simp [packV], by simp⟩
  · exact ⟨none, [x], [y], [x'], [y'], rfl, .cons hx .nil, .cons hy .nil, h, rfl, rfl, fun _ => rfl⟩
  · cases h
theorem packV_agn {a a' : Option Nat} (h : a.isSome = a'.isSome) (X : List Value) : packV a X = packV a' X := by
  cases a <;> cases a' <;> simp_all [packV]
theorem eq_of_leaves {ι : Io} {d D : Nat} {t : TypeId} {ag : Bool} {ks : List Leaf} {x y : AV} {x' y' : Value} {b : Bool} (w : World) (hl : leaves P d t = some ks) (hag : ∃ a, agn P t = some a ∧ a.isSome = ag) (hD : d ≤ D)
    (hx : RelV ι x x') (hy : RelV ι y y') (h : eqAV ag ks x y = some b) : (Op.equalIn D t x' y').run P w = .ok b w := by
  obtain ⟨a, xs, ys, X, Y, h1, h2, h3, h4, rfl, rfl, _⟩ := rel_eqAV hx hy h
  obtain ⟨a', ha', hs⟩ := hag
  rw [packV_agn (a' := a') (by rw [h1, hs]), packV_agn (a := a) (a' := a') (by rw [h1, hs])]
  exact leaves_eqOk d t ks hl D hD ι w a' xs ys X Y b ha' h2 h3 h4
theorem run_eqlike {op : BinOp} {neg : Bool} (hop : op = if neg then .neq else .eql) {t : TypeId} {x y : Value} {b : Bool} {w : World} (hi : boxyPair x y = true)
    (h : (Op.equal t x y).run P w = .ok b w) : (binOp op t x y).run P w = .ok (.bool (b != neg)) w := by
  subst hop
  cases neg
  · simp only [Bool.false_eq_true, if_false]
    have : binOp .eql t x y = (do pure (.bool (← Op.equal t x y))) := by cases x <;> cases y <;> first | rfl | (simp [boxyPair] at hi)
    rw [this]; simp [h]
  · simp only [if_true]
    have : binOp .neq t x y = (do pure (.bool (!(← Op.equal t x y)))) := by cases x <;> cases y <;> first | rfl | (simp [boxyPair] at hi)
    rw [this]; simp [h]
theorem sim_eqf {o : Oper} (neg : Bool) (ag : Bool) (ks : List Leaf) (t t' : TypeId) (x y : Operand) (ho : o.op = .binOp (if neg then .neq else .eql) t x y t')
    (hc : (ag = true ∧ leaves P 8 t = some ks ∧ P.eqGuardType P.depth t = false ∧ (∃ a, agn P t = some a ∧ a.isSome = true)) ∨ (ag = false ∧ ks = [.bool] ∧ P.underlying t = some .bool)) : OpSim P base o (.eqf neg ag ks (ao x) (ao y)) := by
  refine OpSim.val (fun ρ => do eqGuard (if neg then .neq else .eql) t x y (ρ x) (ρ y); binOp (if neg then .neq else .eql) t (ρ x) (ρ y)) (fun e => (eqAV ag ks ((ao x).ev e) ((ao y).ev e)).map fun b => .bool (b != neg)) (fun e => rfl) (fun ρ => by simp [execOp, ho]) ?_
  intro ι e a w r hE hr
  have hx := ao_rel hE x
  have hy := ao_rel hE y
  cases hb : eqAV ag ks ((ao x).ev e) ((ao y).ev e) with
  | none => simp [hb] at hr
  | some b =>
    simp [hb] at hr; subst hr
    refine ⟨_, ?_, .bool _⟩
    rcases hc with ⟨rfl, hl, hg, hag⟩ | ⟨rfl, rfl, hu⟩
    · have he := eq_of_leaves (P := P) (D := 10000) w hl hag (by omega) hx hy hb
      obtain ⟨a', xs, ys, X, Y, h1, h2, h3, h4, hX, hY, _⟩ := rel_eqAV hx hy hb
      obtain ⟨n, rfl⟩ := Option.isSome_iff_exists.1 h1
      rw [hX, hY] at he ⊢
      simp only [packV] at he ⊢
      rw [Sem.run_bind, run_eqGuard_agg w _ t x y _ _ hg, Result.andThen_ok]
      exact run_eqlike rfl rfl he
    · obtain ⟨a', xs, ys, X, Y, h1, h2, h3, h4, hX, hY, _⟩ := rel_eqAV hx hy hb
      obtain ⟨p, q, rfl, rfl, rfl⟩ := leaf_bool h2 h3 h4
      obtain rfl : a' = none := by simpa using h1
      simp only [packV, List.headD_cons] at hX hY
      rw [hX, hY, Sem.run_bind, eqGuard_scalar _ t x y w rfl, Result.andThen_ok]
      exact run_eqlike rfl rfl (run_equal_bool w t p q hu)
theorem sim_eqlike {o : Oper} (neg : Bool) (t t' : TypeId) (x y : Operand) (ho : o.op = .binOp (if neg then .neq else .eql) t x y t') {op : AOp} (eq : AV → AV → Option Bool)
    (hl : ∀ e, opLoc op e = .val ((eq ((ao x).ev e) ((ao y).ev e)).map fun b => .bool (b != neg)))
    (key : ∀ (ι : Io) (X Y : AV) (X' Y' : Value) (b : Bool) (w : World), RelV ι X X' → RelV ι Y Y' → eq X Y = some b → (Op.equal t X' Y').run P w = .ok b w ∧ plainPair X' Y' = true ∧ boxyPair X' Y' = true) :
    OpSim P base o op := by
  refine OpSim.val (fun ρ => do eqGuard (if neg then .neq else .eql) t x y (ρ x) (ρ y); binOp (if neg then .neq else .eql) t (ρ x) (ρ y)) (fun e => (eq ((ao x).ev e) ((ao y).ev e)).map fun b => .bool (b != neg)) hl (fun ρ => by simp [execOp, ho]) ?_
  intro ι e a w r hE hr
  cases hb : eq ((ao x).ev e) ((ao y).ev e) with
  | none => simp [hb] at hr
  | some b =>
    simp [hb] at hr; subst hr
    obtain ⟨h1, h2, h3⟩ := key ι _ _ _ _ b w (ao_rel hE x) (ao_rel hE y) hb
    refine ⟨_, ?_, .bool _⟩
    rw [Sem.run_bind, eqGuard_scalar _ t x y w h2, Result.andThen_ok]
    exact run_eqlike rfl h3 h1
theorem equal_of {t : TypeId} {x y : Value} {w : World} {r : Result Bool} (h : ∀ d, (Op.equalIn (d + 1) t x y).run P w = r) : (Op.equal t x y).run P w = r := h 9999
theorem rel_ptr_any {ι : Io} {p : Option (Nat × Nat)} {v : Value} (h : RelV ι (.ptr p) v) : ∃ p', v = .pointer p' ∧ p'.isNone = p.isNone := by cases h <;> exact ⟨_, rfl, rfl⟩
theorem rel_slc_any {ι : Io} {p : Option (Nat × Nat)} {n c es : Nat} {ex : Bool} {v : Value} (h : RelV ι (.slc p n c ex es) v) : ∃ p' C, v = .slice p' n C ∧ p'.isNone = p.isNone := by cases h <;> exact ⟨_, _, rfl, rfl⟩
theorem rel_map_any {ι : Io} {p : Option Nat} {v : Value} (h : RelV ι (.map p) v) : ∃ p', v = .map p' ∧ p'.isNone = p.isNone := by cases h <;> exact ⟨_, rfl, rfl⟩
theorem rel_fn_any {ι : Io} {f : Fn} {a b : List AV} {v : Value} (h : RelV ι (.fn f a b) v) : ∃ f' a' b', v = .func f' a' b' := by cases h; exact ⟨_, _, _, rfl⟩
theorem rel_nilfn {ι : Io} {v : Value} (h : RelV ι .nilfn v) : v = .nilFunc := by cases h; rfl
theorem sim_eqp {o : Oper} (neg : Bool) (t t' el : TypeId) (x y : Operand) (ho : o.op = .binOp (if neg then .neq else .eql) t x y t') (hu : P.underlying t = some (.pointer el)) :
    OpSim P base o (.eqp neg (ao x) (ao y)) := by
  refine sim_eqlike neg t t' x y ho eqPtr (fun e => rfl) ?_
  intro ι X Y X' Y' b w hx hy h
  unfold eqPtr at h
  split at h
  · obtain ⟨p', rfl, hp⟩ := rel_ptr_any hx
    obtain ⟨q', rfl, hq⟩ := rel_ptr_any hy
    obtain rfl : p' = none := by simpa using hp
    simp only [Option.some.injEq] at h; subst h
    refine ⟨?_, rfl, rfl⟩
    rw [← hq]
    exact equal_of fun d => by simp [Op.equalIn, run_underlying hu]
  · obtain ⟨p', rfl, hp⟩ := rel_ptr_any hx
    obtain ⟨q', rfl, hq⟩ := rel_ptr_any hy
    obtain rfl : q' = none := by simpa using hq
    obtain ⟨z, rfl⟩ : ∃ z, p' = some z := by cases p' <;> simp_all
    simp only [Option.some.injEq] at h; subst h
    refine ⟨?_, rfl, rfl⟩
    exact equal_of fun d => by simp [Op.equalIn, run_underlying hu]
  · cases h
theorem sim_eqn {o : Oper} (neg : Bool) (kd : Nat) (t t' : TypeId) (x y : Operand) (ho : o.op = .binOp (if neg then .neq else .eql) t x y t')
    (hu : (kd = 0 ∧ ∃ el, P.underlying t = some (.slice el)) ∨ (kd = 1 ∧ ∃ k el, P.underlying t = some (.map k el)) ∨ (kd = 2 ∧ ∃ ps rs v, P.underlying t = some (.func ps rs v))) :
    OpSim P base o (.eqn neg kd (ao x) (ao y)) := by
  refine sim_eqlike neg t t' x y ho (eqNil kd) (fun e => rfl) ?_
  intro ι X Y X' Y' b w hx hy h
  rcases hu with ⟨rfl, el, hu⟩ | ⟨rfl, k, el, hu⟩ | ⟨rfl, ps, rs, v, hu⟩
  · unfold eqNil at h
    split at h <;> try contradiction
    · obtain ⟨p', C, rfl, hp⟩ := rel_slc_any hx
      obtain ⟨q', C', rfl, hq⟩ := rel_slc_any hy
      obtain rfl : p' = none := by simpa using hp
      simp only [Option.some.injEq] at h; subst h
      refine ⟨?_, rfl, rfl⟩
      rw [← hq]
      exact equal_of fun d => by simp [Op.equalIn, run_underlying hu]
    · obtain ⟨p', C, rfl, hp⟩ := rel_slc_any hx
      obtain ⟨q', C', rfl, hq⟩ := rel_slc_any hy
      obtain rfl : q' = none := by simpa using hq
      obtain ⟨z, rfl⟩ : ∃ z, p' = some z := by cases p' <;> simp_all
      simp only [Option.some.injEq] at h; subst h
      refine ⟨?_, rfl, rfl⟩
      exact equal_of fun d => by simp [Op.equalIn, run_underlying hu]
  · unfold eqNil at h
    split at h <;> try contradiction
    · obtain ⟨p', rfl, hp⟩ := rel_map_any hx
      obtain ⟨q', rfl, hq⟩ := rel_map_any hy
      obtain rfl : p' = none := by simpa using hp
      simp only [Option.some.injEq] at h; subst h
      refine ⟨?_, rfl, rfl⟩
      rw [← hq]
      exact equal_of fun d => by simp [Op.equalIn, run_underlying hu]
    · obtain ⟨p', rfl, hp⟩ := rel_map_any hx
      obtain ⟨q', rfl, hq⟩ := rel_map_any hy
      obtain rfl : q' = none := by simpa using hq
      obtain ⟨z, rfl⟩ : ∃ z, p' = some z := by cases p' <;> simp_all
      simp only [Option.some.injEq] at h; subst h
      refine ⟨?_, rfl, rfl⟩
      exact equal_of fun d => by simp [Op.equalIn, run_underlying hu]
  · unfold eqNil at h
    split at h <;> try contradiction
    · simp only [Option.some.injEq] at h; subst h
      rw [rel_nilfn hx, rel_nilfn hy]
      exact ⟨equal_of fun d => by simp [Op.equalIn, run_underlying hu], rfl, rfl⟩
    · simp only [Option.some.injEq] at h; subst h
      obtain ⟨f', a', b', rfl⟩ := rel_fn_any hy
      rw [rel_nilfn hx]
      exact ⟨equal_of fun d => by simp [Op.equalIn, run_underlying hu], rfl, rfl⟩
    · simp only [Option.some.injEq] at h; subst h
      obtain ⟨f', a', b', rfl⟩ := rel_fn_any hx
      rw [rel_nilfn hy]
      exact ⟨equal_of fun d => by simp [Op.equalIn, run_underlying hu], rfl, rfl⟩
end Go.Ax
end
section
namespace Go.Ax
variable {P : Program} {base : Nat}
theorem addr_add (B k n : Nat) : (⟨B, k, none⟩ : Addr).add n = ⟨B, k + n, none⟩ := by
  unfold Addr.add; split <;> simp_all
theorem sim_un {o : Oper} (op : UnOp) (t : TypeId) (x : Operand) (ho : o.op = .unOp op t x) : OpSim P base o (.un op (ao x)) := by
  refine OpSim.val (fun ρ => Op.unary op (ρ x)) (fun e => unAV op ((ao x).ev e)) (fun e => rfl) (fun ρ => by simp [execOp, ho]) ?_
  intro ι e a w r hE hr
  exact un_rel op w (ao_rel hE x) hr
theorem sim_conv {o : Oper} (s d : TypeId) (k k0 : IntKind) (x : Operand) (ho : o.op = .convert s d x) (hs : P.underlying s = some (.int k0)) (hd : P.underlying d = some (.int k)) : OpSim P base o (.conv k (ao x)) := by
  refine OpSim.val (fun ρ => convert s d (ρ x)) (fun e => match (ao x).ev e with | .int _ n => some (.int k (k.wrap n)) | _ => none) (fun e => rfl) (fun ρ => by simp [execOp, ho]) ?_
  intro ι e a w r hE hr
  have hx := ao_rel hE x
  split at hr
  · rename_i k' n hp
    simp only [Option.some.injEq] at hr; subst hr
    rw [hp] at hx
    rw [rel_int hx]
    exact ⟨_, by simp [convert, run_underlying hs, run_underlying hd, Conv.intToInt], .int _ _⟩
  · cases hr
theorem sim_convS {o : Oper} (s d : TypeId) (x : Operand) (ho : o.op = .convert s d x) (hs : P.underlying s = some .string) (hd : P.underlying d = some .string) : OpSim P base o (.convS (ao x)) := by
  refine OpSim.val (fun ρ => convert s d (ρ x)) (fun e => match (ao x).ev e with | .str n => some (.str n) | _ => none) (fun e => rfl) (fun ρ => by simp [execOp, ho]) ?_
  intro ι e a w r hE hr
  have hx := ao_rel hE x
  split at hr
  · rename_i n hp
    simp only [Option.some.injEq] at hr; subst hr
    rw [hp] at hx
    rw [rel_str hx]
    exact ⟨_, by simp [convert, run_underlying hs, run_underlying hd], .str _⟩
  · cases hr
theorem sim_mkfn {o : Oper} (g : FuncId) (first caps : Array Operand) (ho : o.op = .makeFunc (.func g) first caps) : OpSim P base o (.mkfn g (first.toList.map ao) (caps.toList.map ao)) := by
  refine OpSim.val (fun ρ => Instr.makeFunc (.func g) (first.map ρ) (caps.map ρ)) (fun e => some (.fn (.func g) ((first.toList.map ao).map (·.ev e)) ((caps.toList.map ao).map (·.ev e)))) (fun e => rfl) (fun ρ => by simp [execOp, ho]) ?_
  intro ι e a w r hE hr
  simp only [Option.some.injEq] at hr; subst hr
  have h1 := ao_relL hE first.toList
  have h2 := ao_relL hE caps.toList
  refine ⟨.func (.func g) (first.map a.eval) (caps.map a.eval), rfl, .fn (.func g) (by simp) (fun i x v hx hv => h1.2 i x v hx ?_) (by simp) (fun i x v hx hv => h2.2 i x v hx ?_)⟩
  · rw [← Array.getElem?_toList, Array.toList_map] at hv; exact hv
  · rw [← Array.getElem?_toList, Array.toList_map] at hv; exact hv
theorem sim_mkif {o : Oper} (t : TypeId) (d : TypeDesc) (x : Operand) (ho : o.op = .makeInterface t x) (hu : P.underlying t = some d) (hd : (match d with | .interface _ => false | _ => true) = true) : OpSim P base o (.mkif t (ao x)) := by
  refine OpSim.val (fun ρ => Instr.makeInterface t (ρ x)) (fun e => some (.iface t ((ao x).ev e))) (fun e => rfl) (fun ρ => by simp [execOp, ho]) ?_
  intro ι e a w r hE hr
  simp only [Option.some.injEq] at hr; subst hr
  refine ⟨.iface t (a.eval x), ?_, .iface (ao_rel hE x)⟩
  cases d <;> simp [Instr.makeInterface, run_underlying hu] at hd ⊢
theorem sim_faddr {o : Oper} (t : TypeId) (x : Operand) (i : Nat) (fs : Array Field) (f : Field) (n : Nat) (ho : o.op = .fieldAddr t x i) (hu : P.underlying t = some (.struct fs)) (hf : fs[i]? = some f) (hs : sz P f.type = some (n + 1)) :
    OpSim P base o (.faddr f.offset (ao x)) := by
  refine OpSim.val (fun ρ => Instr.fieldAt t (ρ x) i) (fun e => match (ao x).ev e with | .ptr (some a) => some (.ptr (some (a.1, a.2 + f.offset))) | _ => none) (fun e => rfl) (fun ρ => by simp [execOp, ho]) ?_
  intro ι e a w r hE hr
  have hx := ao_rel hE x
  split at hr
  · rename_i p hp
    obtain ⟨b, k⟩ := p
    simp only [Option.some.injEq] at hr; subst hr
    rw [hp] at hx
    obtain ⟨q, hq, hv⟩ := rel_ptr hx
    rw [hv]
    refine ⟨.pointer (some ⟨q.B, q.O + (k + f.offset), none⟩), ?_, .ptr hq⟩
    simp [Instr.fieldAt, run_underlying hu, hf, Instr.sureAddr, fieldPlace, sz_run hs, addr_add, Nat.add_assoc]
  · cases hr
theorem partC_rel {ι : Io} {t : TypeId} {n : Option Nat} {l : List AV} {l' : Array Value} {off : Nat} {r : AV} (w : World) (ha : agn P t = some n) (h : RelC ι l l'.toList) (hr : partC l off n = some r) :
    ∃ r', (part t l' off).run P w = .ok r' w ∧ RelV ι r r' := by
  unfold part
  simp only [Sem.run_bind, agn_isAgg ha, Result.andThen_ok]
  cases n with
  | none =>
    simp only [partC] at hr
    obtain ⟨v, hv, hrel⟩ := h.1.get hr
    rw [Array.getElem?_toList] at hv
    refine ⟨v, ?_, hrel⟩
    simp [hv]
  | some m =>
    simp only [partC] at hr
    split at hr
    · simp only [Option.some.injEq] at hr; subst hr
      refine ⟨.agg (l'.extract off (off + m)), by simp [sz_run (agn_some ha)], ?_⟩
      have h2 := ((h.drop off).take m).agg
      have e : ((l'.toList.drop off).take m).toArray = l'.extract off (off + m) := by
        apply Array.ext'
        rw [Array.toList_extract, List.extract_eq_take_drop, Nat.add_sub_cancel_left]
      rw [← e]; exact h2
    · cases hr
theorem sim_field {o : Oper} (t : TypeId) (x : Operand) (i : Nat) (fs : Array Field) (f : Field) (n : Option Nat) (ho : o.op = .field t x i) (hu : P.underlying t = some (.struct fs)) (hf : fs[i]? = some f) (ha : agn P f.type = some n) :
    OpSim P base o (.field f.offset n (ao x)) := by
  refine OpSim.val (fun ρ => Instr.field t (ρ x) i) (fun e => match (ao x).ev e with | .agg l => partC l f.offset n | _ => none) (fun e => rfl) (fun ρ => by simp [execOp, ho]) ?_
  intro ι e a w r hE hr
  have hx := ao_rel hE x
  split at hr
  · rename_i l hp
    rw [hp] at hx
    obtain ⟨l', hl', hc⟩ := hx.aggC
    rw [hl']
    obtain ⟨r', h1, h2⟩ := partC_rel w ha hc hr
    exact ⟨r', by simp [Instr.field, run_underlying hu, hf, asAgg, h1], h2⟩
  · cases hr
theorem sim_idxA {o : Oper} (t el : TypeId) (x i : Operand) (n s : Nat) (m : Option Nat) (ho : o.op = .index t x i) (hu : P.underlying t = some (.array n el)) (hs : sz P el = some s) (ha : agn P el = some m) :
    OpSim P base o (.idxA n s m (ao x) (ao i)) := by
  refine OpSim.val (fun ρ => Instr.index t (ρ x) (ρ i)) (fun e => match (ao x).ev e, (ao i).ev e with
    | .agg l, .int _ j => if 0 ≤ j ∧ j < (n : Int) then partC l (j.toNat * s) m else none
    | _, _ => none) (fun e => rfl) (fun ρ => by simp [execOp, ho]) ?_
  intro ι e a w r hE hr
  have hx := ao_rel hE x
  have hi := ao_rel hE i
  split at hr
  · rename_i l k j hp hq
    rw [hp] at hx
    rw [hq] at hi
    obtain ⟨l', hl', hc⟩ := hx.aggC
    rw [hl', rel_int hi]
    split at hr
    · rename_i hj
      obtain ⟨r', h1, h2⟩ := partC_rel w ha hc hr
      exact ⟨r', by simp [Instr.index, asIntOf, run_underlying hu, hj, sz_run hs, h1], h2⟩
    · cases hr
  · cases hr
theorem sim_idxS {o : Oper} (t : TypeId) (x i : Operand) (ho : o.op = .index t x i) (hu : P.underlying t = some .string) : OpSim P base o (.idxS (ao x) (ao i)) := by
  refine OpSim.val (fun ρ => Instr.index t (ρ x) (ρ i)) (fun e => match (ao x).ev e, (ao i).ev e with
    | .str s, .int _ j => if 0 ≤ j then (s[j.toNat]?).map fun b => .int .u8 b.toNat else none
    | _, _ => none) (fun e => rfl) (fun ρ => by simp [execOp, ho]) ?_
  intro ι e a w r hE hr
  have hx := ao_rel hE x
  have hi := ao_rel hE i
  split at hr
  · rename_i s k j hp hq
    rw [hp] at hx
    rw [hq] at hi
    rw [rel_str hx, rel_int hi]
    split at hr
    · rename_i hj
      cases hb : s[j.toNat]? with
      | none => simp [hb] at hr
      | some b =>
        simp [hb] at hr; subst hr
        exact ⟨.int .u8 b.toNat, by simp [Instr.index, asIntOf, run_underlying hu, hj, hb], .int _ _⟩
    · cases hr
  · cases hr
theorem sim_iaddrA {o : Oper} (t el : TypeId) (x i : Operand) (n s : Nat) (ho : o.op = .indexAddr t x i) (hu : P.underlying t = some (.array n el)) (hs : sz P el = some s) :
    OpSim P base o (.iaddrA n s (ao x) (ao i)) := by
  refine OpSim.val (fun ρ => Instr.indexAt t (ρ x) (ρ i)) (fun e => match (ao x).ev e, (ao i).ev e with
    | .ptr (some a), .int _ j => if 0 ≤ j ∧ j < (n : Int) then some (.ptr (some (moved a j.toNat s))) else none
    | _, _ => none) (fun e => rfl) (fun ρ => by simp [execOp, ho]) ?_
  intro ι e a w r hE hr
  have hx := ao_rel hE x
  have hi := ao_rel hE i
  split at hr
  · rename_i p k j hp hq
    obtain ⟨b, c⟩ := p
    rw [hp] at hx
    rw [hq] at hi
    obtain ⟨q, hq', hv⟩ := rel_ptr hx
    rw [hv, rel_int hi]
    split at hr
    · rename_i hj
      simp only [Option.some.injEq] at hr; subst hr
      refine ⟨.pointer (some ⟨q.B, q.O + (c + j.toNat * s), none⟩), ?_, .ptr hq'⟩
      simp [Instr.indexAt, asIntOf, run_underlying hu, Instr.sureAddr, hj, sz_run hs, addr_add, Nat.add_assoc]
    · cases hr
  · cases hr
theorem sim_iaddrS {o : Oper} (t el : TypeId) (x i : Operand) (s : Nat) (ho : o.op = .indexAddr t x i) (hu : P.underlying t = some (.slice el)) (hs : sz P el = some s) :
    OpSim P base o (.iaddrS s (ao x) (ao i)) := by
  refine OpSim.val (fun ρ => Instr.indexAt t (ρ x) (ρ i)) (fun e => match (ao x).ev e, (ao i).ev e with
    | .slc (some a) len _ _ _, .int _ j => if 0 ≤ j ∧ j < (len : Int) then some (.ptr (some (moved a j.toNat s))) else none
    | _, _ => none) (fun e => rfl) (fun ρ => by simp [execOp, ho]) ?_
  intro ι e a w r hE hr
  have hx := ao_rel hE x
  have hi := ao_rel hE i
  split at hr
  · rename_i p len cap ex es k j hp hq
    obtain ⟨b, c⟩ := p
    rw [hp] at hx
    rw [hq] at hi
    split at hr
    · rename_i hj
      simp only [Option.some.injEq] at hr; subst hr
      generalize a.eval x = X at hx ⊢
      cases hx with
      | slc h1 h2 h3 h4 h5 =>
        rename_i C A q
        rcases h5 with h5 | ⟨rfl, _⟩
        · omega
        · rw [rel_int hi]
          refine ⟨.pointer (some ⟨q.B, q.O + (c + j.toNat * s), none⟩), ?_, .ptr h1⟩
          simp [Instr.indexAt, asIntOf, run_underlying hu, hj, sz_run hs, addr_add, Nat.add_assoc]
    · cases hr
  · cases hr
theorem sim_ext {o : Oper} (x : Operand) (i : Nat) (ho : o.op = .extract x i) : OpSim P base o (.ext (ao x) i) := by
  refine OpSim.val (fun ρ => Instr.extract (ρ x) i) (fun e => match (ao x).ev e with | .tup l => l[i]? | _ => none) (fun e => rfl) (fun ρ => by simp [execOp, ho]) ?_
  intro ι e a w r hE hr
  have hx := ao_rel hE x
  split at hr
  · rename_i l hp
    rw [hp] at hx
    obtain ⟨l', hl', hc⟩ := hx.tupL
    rw [hl']
    obtain ⟨v, hv, hrel⟩ := hc.get hr
    rw [Array.getElem?_toList] at hv
    exact ⟨v, by simp [Instr.extract, hv], hrel⟩
  · cases hr
theorem run_builtin {o : Oper} {c : Call} {b : Builtin} (ho : o.op = .call c) (hb : c.callee = .builtin b) (ρ : Operand → Value) :
    ∃ cs, execOp ρ o = builtin b c.argTypes o.type cs (c.args.map ρ) := by
  simp only [execOp, ho, resolve, hb]
  exact ⟨_, rfl⟩
theorem args_one {c : Call} {x : Operand} (h : c.args.toList = [x]) (ρ : Operand → Value) : c.args.map ρ = #[ρ x] := by
  apply Array.ext'; simp [h]
theorem args_two {c : Call} {x y : Operand} (h : c.args.toList = [x, y]) (ρ : Operand → Value) : c.args.map ρ = #[ρ x, ρ y] := by
  apply Array.ext'; simp [h]
theorem sim_len {o : Oper} (c : Call) (t el : TypeId) (x : Operand) (ho : o.op = .call c) (hb : c.callee = .builtin .len) (ha : c.args.toList = [x]) (ht : c.argTypes[0]? = some t) (hu : P.underlying t = some (.slice el)) :
    OpSim P base o (.len (ao x)) := by
  refine OpSim.val (fun ρ => Builtin.len_ c.argTypes o.type #[ρ x]) (fun e => match (ao x).ev e with | .slc _ n _ _ _ => some (.int .i64 n) | _ => none) (fun e => rfl) (fun ρ => by obtain ⟨cs, h⟩ := run_builtin ho hb ρ; rw [h, args_one ha]; rfl) ?_
  intro ι e a w r hE hr
  have hx := ao_rel hE x
  split at hr
  · rename_i p n cc ex es hp
    simp only [Option.some.injEq] at hr; subst hr
    rw [hp] at hx
    obtain ⟨p', C, hv, _⟩ := rel_slc_any hx
    rw [hv]
    exact ⟨_, by simp [Builtin.len_, ht, run_underlying hu, goInt], .int _ _⟩
  · cases hr
theorem sim_lenS {o : Oper} (c : Call) (t : TypeId) (x : Operand) (ho : o.op = .call c) (hb : c.callee = .builtin .len) (ha : c.args.toList = [x]) (ht : c.argTypes[0]? = some t) (hu : P.underlying t = some .string) :
    OpSim P base o (.lenS (ao x)) := by
  refine OpSim.val (fun ρ => Builtin.len_ c.argTypes o.type #[ρ x]) (fun e => match (ao x).ev e with | .str s => some (.int .i64 s.size) | _ => none) (fun e => rfl) (fun ρ => by obtain ⟨cs, h⟩ := run_builtin ho hb ρ; rw [h, args_one ha]; rfl) ?_
  intro ι e a w r hE hr
  have hx := ao_rel hE x
  split at hr
  · rename_i s hp
    simp only [Option.some.injEq] at hr; subst hr
    rw [hp] at hx
    rw [rel_str hx]
    exact ⟨_, by simp [Builtin.len_, ht, run_underlying hu, goInt], .int _ _⟩
  · cases hr
theorem sim_lenC {o : Oper} (c : Call) (t el : TypeId) (n : Nat) (x : Operand) (ho : o.op = .call c) (hb : c.callee = .builtin .len) (ha : c.args.toList = [x]) (ht : c.argTypes[0]? = some t) (hu : P.underlying t = some (.array n el)) :
    OpSim P base o (.lenC n) := by
  refine OpSim.val (fun ρ => Builtin.len_ c.argTypes o.type #[ρ x]) (fun e => some (.int .i64 n)) (fun e => rfl) (fun ρ => by obtain ⟨cs, h⟩ := run_builtin ho hb ρ; rw [h, args_one ha]; rfl) ?_
  intro ι e a w r hE hr
  simp only [Option.some.injEq] at hr; subst hr
  exact ⟨_, by simp [Builtin.len_, ht, run_underlying hu, goInt], .int _ _⟩
theorem bound_run {ι : Io} {x : AV} {x' : Value} {y n : Nat} {code : BoundsCode} (w : World) (hx : RelV ι x x') {d : Nat} (h : bound (some x) d y = some n) {y' : Nat} (hy : y ≤ y') :
    (Instr.sliceBound x' y' code).run P w = .ok n w ∧ n ≤ y := by
  unfold bound at h
  split at h
  · rename_i he; cases he
  · rename_i k i he
    simp only [Option.some.injEq] at he; subst he
    split at h
    · rename_i hi
      simp only [Option.some.injEq] at h; subst h
      rw [rel_int hx]
      refine ⟨?_, by omega⟩
      have : 0 ≤ i ∧ i ≤ (y' : Int) := ⟨hi.1, by omega⟩
      simp [Instr.sliceBound, asIntOf, this]
    · cases h
  · cases h
theorem bounds_run {ι : Io} {lo hi mx : Option Operand} {e : Env} {a : Act} (isS : Bool) (w : World) (hE : RelE ι e a.tmps) {len cap C l h m : Nat} (hc : cap ≤ C)
    (hb : bounds3 len cap ((lo.map ao).map (·.ev e)) ((hi.map ao).map (·.ev e)) ((mx.map ao).map (·.ev e)) = some (l, h, m)) :
    ∃ M, (Instr.sliceBounds isS len C (lo.map a.eval) (hi.map a.eval) (mx.map a.eval)).run P w = .ok (l, h, M) w ∧ l ≤ h ∧ (hi = none → h = len) ∧ (hi ≠ none → h ≤ m) ∧
      ((mx = none ∧ M = C ∧ m = cap) ∨ (mx ≠ none ∧ M = m ∧ m ≤ cap ∧ hi ≠ none)) := by
  unfold bounds3 at hb
  simp only [Option.bind_eq_bind, Option.bind_eq_some_iff] at hb
  obtain ⟨m', hm, h', hh, hb⟩ := hb
  split at hb
  · cases hb
  rename_i hmh
  simp only [Option.bind_eq_some_iff] at hb
  obtain ⟨l', hl, hb⟩ := hb
  simp only [Option.some.injEq, Prod.mk.injEq] at hb
  obtain ⟨rfl, rfl, rfl⟩ := hb
  cases mx with
  | none =>
    simp [bound] at hm
    subst hm
    cases hi with
    | none =>
      simp [bound] at hh
      subst hh
      cases lo with
      | none =>
        simp [bound] at hl
        subst hl
        exact ⟨C, by simp [Instr.sliceBounds], by omega, fun _ => rfl, fun h => absurd rfl h, .inl ⟨rfl, rfl, rfl⟩⟩
      | some lo =>
        have := bound_run (P := P) (code := .sliceB) w (ao_rel hE lo) (by simpa using hl) (Nat.le_refl _)
        exact ⟨C, by simp [Instr.sliceBounds, this.1], this.2, fun _ => rfl, fun h => absurd rfl h, .inl ⟨rfl, rfl, rfl⟩⟩
    | some hi =>
      have h1 := bound_run (P := P) (code := if isS then .sliceAcap else .sliceAlen) w (ao_rel hE hi) (by simpa using hh) hc
      cases lo with
      | none =>
        simp [bound] at hl
        subst hl
        exact ⟨C, by simp [Instr.sliceBounds, h1.1], by omega, fun h => by simp at h, fun _ => h1.2, .inl ⟨rfl, rfl, rfl⟩⟩
      | some lo =>
        have := bound_run (P := P) (code := .sliceB) w (ao_rel hE lo) (by simpa using hl) (Nat.le_refl _)
        exact ⟨C, by simp [Instr.sliceBounds, h1.1, this.1], this.2, fun h => by simp at h, fun _ => h1.2, .inl ⟨rfl, rfl, rfl⟩⟩
  | some mx =>
    have h0 := bound_run (P := P) (code := if isS then .slice3Acap else .slice3Alen) w (ao_rel hE mx) (by simpa using hm) hc
    cases hi with
    | none => simp at hmh
    | some hi =>
      have h1 := bound_run (P := P) (code := .slice3B) w (ao_rel hE hi) (by simpa using hh) (Nat.le_refl _)
      cases lo with
      | none =>
        simp [bound] at hl
        subst hl
        exact ⟨m', by simp [Instr.sliceBounds, h0.1, h1.1], by omega, fun h => by simp at h, fun _ => h1.2, .inr ⟨by simp, rfl, h0.2, by simp⟩⟩
      | some lo =>
        have := bound_run (P := P) (code := .slice3C) w (ao_rel hE lo) (by simpa using hl) (Nat.le_refl _)
        exact ⟨m', by simp [Instr.sliceBounds, h0.1, h1.1, this.1], this.2, fun h => by simp at h, fun _ => h1.2, .inr ⟨by simp, rfl, h0.2, by simp⟩⟩
theorem sim_slcS {o : Oper} (t : TypeId) (x : Operand) (lo hi : Option Operand) (ho : o.op = .slice t x lo hi none) (hu : P.underlying t = some .string) : OpSim P base o (.slcS (ao x) (lo.map ao) (hi.map ao)) := by
  refine OpSim.val (fun ρ => Instr.sliceAt t (ρ x) (lo.map ρ) (hi.map ρ) none) (fun e => match (ao x).ev e with
    | .str s => (bounds3 s.size s.size ((lo.map ao).map (·.ev e)) ((hi.map ao).map (·.ev e)) none).map fun (l, h, _) => .str (s.extract l h)
    | _ => none) (fun e => rfl) (fun ρ => by simp [execOp, ho]) ?_
  intro ι e a w r hE hr
  have hx := ao_rel hE x
  split at hr
  · rename_i s hp
    rw [hp] at hx
    rw [rel_str hx]
    cases hb : bounds3 s.size s.size ((lo.map ao).map (·.ev e)) ((hi.map ao).map (·.ev e)) none with
    | none => rw [hb] at hr; cases hr
    | some q =>
      obtain ⟨l, h, m⟩ := q
      rw [hb] at hr
      simp only [Option.map_some, Option.some.injEq] at hr; subst hr
      obtain ⟨M, h1, _⟩ := bounds_run (P := P) (mx := none) false w hE (Nat.le_refl _) hb
      simp only [Option.map_none] at h1
      exact ⟨.string (s.extract l h), by simp [Instr.sliceAt, run_underlying hu, Instr.slice, h1], .str _⟩
  · cases hr
theorem sim_slcA {o : Oper} (t el : TypeId) (n s : Nat) (x : Operand) (lo hi mx : Option Operand) (ho : o.op = .slice t x lo hi mx) (hu : P.underlying t = some (.array n el)) (hs : sz P el = some s) :
    OpSim P base o (.slcA n s (ao x) (lo.map ao) (hi.map ao) (mx.map ao)) := by
  refine OpSim.val (fun ρ => Instr.sliceAt t (ρ x) (lo.map ρ) (hi.map ρ) (mx.map ρ)) (fun e => match (ao x).ev e with
    | .ptr (some a) => (bounds3 n n ((lo.map ao).map (·.ev e)) ((hi.map ao).map (·.ev e)) ((mx.map ao).map (·.ev e))).bind fun (l, h, m) =>
        some (.slc (some (moved a l s)) (h - l) (m - l) true 0)
    | _ => none) (fun e => rfl) (fun ρ => by simp [execOp, ho]) ?_
  intro ι e a w r hE hr
  have hx := ao_rel hE x
  split at hr
  · rename_i p hp
    obtain ⟨b, c⟩ := p
    rw [hp] at hx
    obtain ⟨q, hq, hv⟩ := rel_ptr hx
    rw [hv]
    cases hb : bounds3 n n ((lo.map ao).map (·.ev e)) ((hi.map ao).map (·.ev e)) ((mx.map ao).map (·.ev e)) with
    | none => rw [hb] at hr; cases hr
    | some z =>
      obtain ⟨l, h, m⟩ := z
      rw [hb] at hr
      simp only [Option.bind_some, Option.some.injEq] at hr; subst hr
      obtain ⟨M, h1, h2, h3, h4, h5⟩ := bounds_run (P := P) false w hE (Nat.le_refl _) hb
      have hMm : M = m ∧ m ≤ n := by rcases h5 with ⟨_, a, b⟩ | ⟨_, a, b, _⟩ <;> omega
      obtain ⟨rfl, hmn⟩ := hMm
      have hhm : h ≤ M := by
        by_cases e' : hi = none
        · rcases h5 with ⟨_, a, b⟩ | ⟨_, a, b, hh⟩
          · have := h3 e'; omega
          · exact absurd e' hh
        · exact h4 e'
      refine ⟨.slice (some (if M = l then (⟨q.B, q.O + c, none⟩ : Addr) else (⟨q.B, q.O + c, none⟩ : Addr).add (l * s))) (h - l) (M - l), ?_, ?_⟩
      · simp [Instr.sliceAt, run_underlying hu, Instr.sureAddr, h1, sz_run hs]
      · refine .slc hq (by omega) (Nat.le_refl _) (fun _ => rfl) ?_
        by_cases e' : M = l
        · left; omega
        · right; rw [if_neg e', addr_add]; exact ⟨by rw [Nat.add_assoc], .inl rfl⟩
  · cases hr
theorem sim_slc {o : Oper} (t el : TypeId) (s : Nat) (x : Operand) (lo hi mx : Option Operand) (ho : o.op = .slice t x lo hi mx) (hu : P.underlying t = some (.slice el)) (hs : sz P el = some s) :
    OpSim P base o (.slc s (ao x) (lo.map ao) (hi.map ao) (mx.map ao)) := by
  refine OpSim.val (fun ρ => Instr.sliceAt t (ρ x) (lo.map ρ) (hi.map ρ) (mx.map ρ)) (fun e => match (ao x).ev e with
    | .slc a len cap ex es => (bounds3 len cap ((lo.map ao).map (·.ev e)) ((hi.map ao).map (·.ev e)) ((mx.map ao).map (·.ev e))).bind fun (l, h, m) =>
        match a with
        | none => some (.slc none (h - l) (m - l) (ex || (mx.map ao).isSome) es)
        | some a => bif Nat.beq es 0 || Nat.beq es s then some (.slc (some (moved a l s)) (h - l) (m - l) (ex || (mx.map ao).isSome) es) else none
    | _ => none) (fun e => rfl) (fun ρ => by simp [execOp, ho]) ?_
  intro ι e a w r hE hr
  have hx := ao_rel hE x
  split at hr
  · rename_i A len cap ex es hp
    rw [hp] at hx
    cases hb : bounds3 len cap ((lo.map ao).map (·.ev e)) ((hi.map ao).map (·.ev e)) ((mx.map ao).map (·.ev e)) with
    | none => rw [hb] at hr; cases hr
    | some z =>
      obtain ⟨l, h, m⟩ := z
      rw [hb] at hr
      simp only [Option.bind_some] at hr
      generalize a.eval x = X at hx ⊢
      have hmx : (mx.map ao).isSome = mx.isSome := by cases mx <;> rfl
      rw [hmx] at hr
      cases hx with
      | slcN =>
        obtain ⟨M, h1, h2, h3, h4, h5⟩ := bounds_run (P := P) true w hE (Nat.le_refl 0) hb
        simp only [Option.some.injEq] at hr; subst hr
        have hz : l = 0 ∧ h = 0 ∧ m = 0 := by
          have : m = 0 := by rcases h5 with ⟨_, a, b⟩ | ⟨_, a, b, _⟩ <;> omega
          have : h = 0 := by
            by_cases e' : hi = none
            · exact h3 e'
            · have := h4 e'; omega
          omega
        obtain ⟨rfl, rfl, rfl⟩ := hz
        refine ⟨.slice none 0 M, ?_, ?_⟩
        · simp [Instr.sliceAt, run_underlying hu, Instr.slice, h1, sz_run hs]
        · have : M = 0 := by rcases h5 with ⟨_, a, _⟩ | ⟨_, a, _⟩ <;> exact a
          subst this
          exact .slcN
      | slc g1 g2 g3 g4 g5 =>
        rename_i b o' C A' q
        obtain ⟨M, h1, h2, h3, h4, h5⟩ := bounds_run (P := P) true w hE g3 hb
        simp only [cond_eq_ite, Bool.or_eq_true, Nat.beq_eq] at hr
        split at hr
        · rename_i hes
          simp only [Option.some.injEq] at hr; subst hr
          have hmM : m ≤ M ∧ M ≤ C ∧ m ≤ cap := by rcases h5 with ⟨_, a, b⟩ | ⟨_, a, b, _⟩ <;> omega
          have hhm : h ≤ m := by
            by_cases e' : hi = none
            · rcases h5 with ⟨_, a, b⟩ | ⟨_, a, b, hh⟩
              · have := h3 e'; omega
              · exact absurd e' hh
            · exact h4 e'
          refine ⟨.slice (some (if M = l then A' else A'.add (l * s))) (h - l) (M - l), ?_, ?_⟩
          · simp only [Instr.sliceAt, Sem.run_bind, run_underlying hu, Result.andThen_ok, Instr.slice, h1, sz_run hs, Sem.run_pure]
            congr 2
            split <;> rfl
          · refine .slc g1 (by omega) (by omega) ?_ ?_
            · intro he
              simp only [Bool.or_eq_true] at he
              rcases h5 with ⟨hm, a, b⟩ | ⟨_, a, _⟩
              · subst hm
                rcases he with he | he
                · have := g4 he; omega
                · simp at he
              · omega
            · by_cases e' : M = l
              · left; omega
              · rcases g5 with g5 | ⟨rfl, g5⟩
                · left; omega
                · right
                  rw [if_neg e', addr_add]
                  refine ⟨by simp only [moved]; rw [Nat.add_assoc], ?_⟩
                  rcases hes with hes | hes
                  · exact .inl hes
                  · rcases g5 with g5 | g5
                    · exact .inl g5
                    · right
                      subst hes
                      simp only [moved]
                      have e1 : l * es + (M - l) * es = M * es := by rw [← Nat.add_mul]; congr 1; omega
                      have e2 : M * es ≤ C * es := Nat.mul_le_mul_right _ hmM.2.1
                      omega
        · cases hr
  · cases hr
theorem mm_none (mx : Bool) (k : IntKind) : ∀ (l : List AV), l.foldl (mmStep mx k) none = none
  | [] => rfl
  | _ :: l => mm_none mx k l
theorem fold_rel {ι : Io} (mx : Bool) (k : IntKind) (w : World) : ∀ (l : List AV) (l' : List Value) (x y : Int), RelL ι l l' →
    l.foldl (mmStep mx k) (some x) = some y → (l'.foldlM (if mx then Builtin.max2 else Builtin.min2) (.int k x)).run P w = .ok (.int k y) w
  | [], [], x, y, _, h => by simp at h; subst h; rfl
  | [], _ :: _, x, y, hl, h => by have := hl.1; simp at this
  | _ :: _, [], x, y, hl, h => by have := hl.1; simp at this
  | a :: l, v :: l', x, y, hl, h => by
    simp only [List.foldl_cons] at h
    cases a with
    | int k' z =>
      simp only [mmStep] at h
      split at h
      · rename_i hk
        subst hk
        have hv := rel_int hl.head
        subst hv
        have ih := fold_rel mx k' w l l' _ y hl.tail h
        simp only [List.foldlM_cons, Sem.run_bind]
        cases mx
        · simpa [Builtin.min2] using ih
        · simpa [Builtin.max2] using ih
      · rw [mm_none] at h; cases h
    | _ => simp only [mmStep] at h; rw [mm_none] at h; cases h
theorem sim_mnx {o : Oper} (mx : Bool) (c : Call) (ho : o.op = .call c) (hb : c.callee = .builtin (if mx then .max else .min)) : OpSim P base o (.mnx mx (c.args.toList.map ao)) := by
  refine OpSim.val (fun ρ => (if mx then Builtin.max_ else Builtin.min_) c.argTypes o.type (c.args.map ρ)) (fun e => minmax mx ((c.args.toList.map ao).map (·.ev e))) (fun e => rfl)
    (fun ρ => by obtain ⟨cs, h⟩ := run_builtin ho hb ρ; rw [h]; cases mx <;> rfl) ?_
  intro ι e a w r hE hr
  have hl := ao_relL hE c.args.toList
  have hargs : (c.args.map a.eval).toList = c.args.toList.map a.eval := by simp
  generalize hL : (c.args.toList.map ao).map (·.ev e) = L at hl hr
  generalize hV : c.args.toList.map a.eval = V at hl hargs
  cases L with
  | nil => simp [minmax] at hr
  | cons x L =>
    cases V with
    | nil => have := hl.1; simp at this
    | cons v V =>
      cases x <;> simp only [minmax, reduceCtorEq] at hr
      rename_i k z
      have hv := rel_int hl.head
      subst hv
      cases hf : L.foldl (mmStep mx k) (some z) with
      | none => rw [hf] at hr; simp at hr
      | some y =>
        rw [hf] at hr
        simp at hr; subst hr
        have := fold_rel (P := P) mx k w L V z y hl.tail hf
        refine ⟨.int k y, ?_, .int _ _⟩
        cases mx
        · simp only [Bool.false_eq_true, if_false, Builtin.min_, hargs] at this ⊢; exact this
        · simp only [if_true, Builtin.max_, hargs] at this ⊢; exact this
end Go.Ax
end
section
namespace Go.Ax
variable {P : Program} {base : Nat}
theorem cell_of {w : World} {B k : Nat} {arr : Array Value} {ty : TypeId} {fz : Nat × Nat} (h : w.heap[B]? = some (.cells arr ty fz)) : w.cell? ⟨B, k, none⟩ = arr[k]? := by
  simp [World.cell?, h]
theorem getElem?_window {α : Type} (L : List α) (O n i : Nat) : ((L.drop O).take n)[i]? = if i < n then L[O + i]? else none := by
  rw [List.getElem?_take]
  split <;> simp [List.getElem?_drop]
theorem window_sub {α : Type} (L : List α) (O n o m : Nat) (h : o + m ≤ n) : ((((L.drop O).take n).drop o).take m) = (L.drop (O + o)).take m := by
  apply List.ext_getElem?
  intro i
  simp only [List.getElem?_take, List.getElem?_drop]
  by_cases a : i < m
  · rw [if_pos a, if_pos (by omega), if_pos a, Nat.add_assoc]
  · rw [if_neg a, if_neg a]
theorem window_splice {α : Type} (L : List α) (O n o : Nat) (vs : List α) (h1 : O + n ≤ L.length) (h2 : o + vs.length ≤ n) :
    ((L.take (O + o) ++ vs ++ L.drop (O + o + vs.length)).drop O).take n = ((L.drop O).take n).take o ++ vs ++ ((L.drop O).take n).drop (o + vs.length) := by
  apply List.ext_getElem?
  intro i
  rw [getElem?_window]
  simp only [List.getElem?_append, List.length_append, List.length_take, List.length_drop, List.getElem?_take, List.getElem?_drop]
  have e1 : min (O + o) L.length = O + o := by omega
  have e2 : min o (min n (L.length - O)) = o := by omega
  rw [e1, e2]
  by_cases a : i < n
  · rw [if_pos a]
    by_cases b : i < o
    · rw [if_pos (by omega : O + i < O + o + vs.length), if_pos (by omega : O + i < O + o), if_pos (by omega : O + i < O + o), if_pos (by omega : i < o + vs.length), if_pos b, if_pos b, if_pos a]
    · by_cases c : i < o + vs.length
      · rw [if_pos (by omega : O + i < O + o + vs.length), if_neg (by omega : ¬ O + i < O + o), if_pos c, if_neg b]
        congr 1; omega
      · rw [if_neg (by omega : ¬ O + i < O + o + vs.length), if_neg c, if_pos (by omega)]
        congr 1; omega
  · rw [if_neg a]
    rw [if_neg (by omega : ¬ i < o + vs.length), if_neg (by omega)]
theorem run_load_var {ι : Io} {h : H} {w : World} (hS : RelS P base ι h w) {b o : Nat} {l : List AV} {own : Bool} (hb : h.get b = some (.cells l own)) {p : Pl} (hp : ι b = some p)
    {t : TypeId} {n : Option Nat} (ha : agn P t = some n) {r : AV} (hr : partC l o n = some r) :
    ∃ r', (loadVar t ⟨p.B, p.O + o, none⟩).run P w = .ok r' w ∧ RelV ι r r' := by
  obtain ⟨q, arr, ty, fz, hq, hlt, hg, hle, hc⟩ := hS.row hb
  rw [hp] at hq; cases hq
  unfold loadVar
  simp only [Sem.run_bind, agn_isAgg ha, Result.andThen_ok]
  cases n with
  | none =>
    simp only [partC] at hr
    obtain ⟨v, hv, hrel⟩ := hc.1.get hr
    rw [getElem?_window] at hv
    split at hv
    · refine ⟨v, ?_, hrel⟩
      have : w.cell? ⟨p.B, p.O + o, none⟩ = some v := by rw [cell_of hg, ← Array.getElem?_toList]; exact hv
      simp [this]
    · cases hv
  | some m =>
    simp only [partC] at hr
    split at hr
    · rename_i hm
      simp only [Option.some.injEq] at hr; subst hr
      have h2 := ((hc.drop o).take m)
      rw [window_sub _ _ _ _ _ hm] at h2
      have hlen : ((arr.toList.drop (p.O + o)).take m).length = m := by simp; omega
      have hl := run_loadCells_list (P := P) w ⟨p.B, p.O + o, none⟩ ((arr.toList.drop (p.O + o)).take m) (by
        intro j v hj
        rw [getElem?_window] at hj
        split at hj
        · rw [addr_add, cell_of hg, ← Array.getElem?_toList]; exact hj
        · cases hj)
      rw [hlen] at hl
      refine ⟨.agg ((arr.toList.drop (p.O + o)).take m).toArray, ?_, h2.agg⟩
      simp only [Option.isSome_some, if_true, Sem.run_bind, sz_run (agn_some ha), Result.andThen_ok, hl, Sem.run_pure]
    · cases hr
theorem getAll_one {h : H} {b : Nat} {bs : List ABlk} (hg : getAll h [b] = some bs) : ∃ x, h.get b = some x ∧ bs = [x] := by
  simp only [getAll] at hg
  split at hg
  · rename_i x xs hx hxs
    simp at hxs; subst hxs
    simp at hg; exact ⟨x, hx, hg.symm⟩
  · cases hg
theorem getAll_two {h : H} {b c : Nat} {bs : List ABlk} (hg : getAll h [b, c] = some bs) : ∃ x y, h.get b = some x ∧ h.get c = some y ∧ bs = [x, y] := by
  have h0 : getAll h [b, c] = match h.get b, getAll h [c] with | some x, some xs => some (x :: xs) | _, _ => none := rfl
  rw [h0] at hg
  split at hg
  · rename_i x xs hx hxs
    obtain ⟨y, hy, rfl⟩ := getAll_one hxs
    simp at hg; exact ⟨x, y, hx, hy, hg.symm⟩
  · cases hg
theorem Loc.run_inv {l : Loc} {aid : Nat} {h h' : H} {v : AV} {fp : FP} (hr : l.run aid h = some (v, h', fp)) :
    ∃ bs v0 ups nw, getAll h l.rd = some bs ∧ l.f bs = some (v0, ups, nw) ∧ ((nw = none ∧ v = v0 ∧ h' = h.puts ups) ∨ (∃ x, nw = some x ∧ v = atNew aid v0 ∧ h' = (h.puts ups).new aid x)) := by
  unfold Loc.run at hr
  split at hr
  · cases hr
  · rename_i bs hbs
    split at hr
    · cases hr
    · rename_i v0 ups hf
      simp only [Option.some.injEq, Prod.mk.injEq] at hr
      exact ⟨bs, v0, ups, none, hbs, hf, .inl ⟨rfl, hr.1.symm, hr.2.1.symm⟩⟩
    · rename_i v0 ups x hf
      simp only [Option.some.injEq, Prod.mk.injEq] at hr
      exact ⟨bs, v0, ups, some x, hbs, hf, .inr ⟨x, rfl, hr.1.symm, hr.2.1.symm⟩⟩
theorem sim_load {o : Oper} (t : TypeId) (x : Operand) (n : Option Nat) (ho : o.op = .load t x) (ha : agn P t = some n) : OpSim P base o (.load n (ao x)) := by
  intro ι e h w a aid v h' fp hS _ hE _ hr
  have hx := ao_rel hE x
  simp only [opLoc] at hr
  split at hr
  · rename_i b k hp
    obtain ⟨bs, v0, ups, nw, hg, hf, hcase⟩ := Loc.run_inv hr
    obtain ⟨blk, hb, rfl⟩ := getAll_one hg
    simp only at hf
    split at hf
    · rename_i l own heq
      simp only [List.cons.injEq, and_true] at heq; subst heq
      cases hpc : partC l k n with
      | none => rw [hpc] at hf; cases hf
      | some r =>
        rw [hpc] at hf
        simp only [Option.map_some, Option.some.injEq, Prod.mk.injEq] at hf
        obtain ⟨rfl, rfl, rfl⟩ := hf
        rcases hcase with ⟨_, rfl, rfl⟩ | ⟨x, hx', _⟩
        · rw [hp] at hx
          obtain ⟨q, hq, hv⟩ := rel_ptr hx
          obtain ⟨r', h1, h2⟩ := run_load_var hS hb hq ha hpc
          exact ⟨.value r', r', w, ι, by simp [execOp, ho, Instr.loadAt, hv, Instr.sureAddr, h1], .inl rfl, h2, hS, .refl _ _ _⟩
        · cases hx'
    · cases hf
  · rw [Loc.run_no] at hr; cases hr
theorem RelS.write {ι : Io} {h : H} {w : World} (hS : RelS P base ι h w) {b o : Nat} {l : List AV} (hb : h.get b = some (.cells l true)) {p : Pl} (hp : ι b = some p) {cs : List AV} {vs : List Value} (hc : RelC ι cs vs)
    (hle : o + cs.length ≤ l.length) : ∃ w', (storeCells ⟨p.B, p.O + o, none⟩ vs).run P w = .ok () w' ∧ RelS P base ι (h.put b (.cells (splice l o cs) true)) w' ∧ StepR ι h w ι (h.put b (.cells (splice l o cs) true)) w' := by
  obtain ⟨q, hq, hlt, hr⟩ := hS.blk b _ hb
  rw [hp] at hq; cases hq
  obtain ⟨hbase, arr, ty, hg, hsz, hfit, hrel⟩ := hr
  have hvl : vs.length = cs.length := hc.1.1.symm
  have hst := run_storeCells_at P p.B (p.O + o) ty vs 0 arr w hg (by omega) hc.one
  refine ⟨_, hst, hS.put hb rfl hp (by simp) (fun k hk => setRow_other _ _ _ _ hk) ?_⟩
  have hlen : (splice l o cs).length = l.length := by simp [splice]; omega
  refine ⟨hbase, _, ty, setRow_heap w p.B arr _ ty (0, 0) hg, ?_, by rw [hlen]; exact hfit, ?_⟩
  · simp; omega
  · rw [hlen]
    simp only [Nat.add_zero]
    rw [window_splice _ _ _ _ _ (by simp; omega) (by omega)]
    unfold splice
    rw [hvl]
    exact ((hrel.take o).append hc).append (hrel.drop (o + cs.length))
theorem sim_store {o : Oper} (t : TypeId) (x y : Operand) (n : Nat) (ho : o.op = .store t x y) (hs : sz P t = some n) : OpSim P base o (.store n (ao x) (ao y)) := by
  intro ι e h w a aid v h' fp hS _ hE _ hr
  have hx := ao_rel hE x
  have hy := ao_rel hE y
  simp only [opLoc] at hr
  split at hr
  · rename_i b k cs hp hcs
    split at hr
    · rename_i hn
      obtain ⟨bs, v0, ups, nw, hg, hf, hcase⟩ := Loc.run_inv hr
      obtain ⟨blk, hb, rfl⟩ := getAll_one hg
      simp only at hf
      split at hf
      · rename_i l heq
        simp only [List.cons.injEq, and_true] at heq; subst heq
        split at hf
        · rename_i hfit
          simp only [Option.some.injEq, Prod.mk.injEq] at hf
          obtain ⟨rfl, rfl, rfl⟩ := hf
          rcases hcase with ⟨_, rfl, rfl⟩ | ⟨x, hx', _⟩
          · rw [hp] at hx
            obtain ⟨q, hq, hv⟩ := rel_ptr hx
            have hc := hy.cells hcs
            obtain ⟨w', h1, h2, h3⟩ := hS.write (o := k) hb hq hc (by omega)
            refine ⟨.skip, undef, w', ι, ?_, .inr ⟨rfl, rfl⟩, .undef _, h2, h3⟩
            have hsize : (a.eval y).cells.size = n := by have := hc.1.1; simp at this; omega
            simp [execOp, ho, Instr.storeAt, hv, Instr.sureAddr, storeVar, sz_run hs, hsize, h1]
          · cases hx'
        · cases hf
      · cases hf
    · rw [Loc.run_no] at hr; cases hr
  · rw [Loc.run_no] at hr; cases hr
theorem RelS.newRow {ι : Io} {h : H} {w : World} (hS : RelS P base ι h w) (hbw : base ≤ w.heap.size) {aid : Nat} (hn : h.get aid = none) (ty : TypeId) {l : List AV} {cells : Array Value} (hc : RelC ι l cells.toList) :
    ∃ p, p.B = w.heap.size ∧ p.O = 0 ∧ p.S = cells.size ∧ (ι.put aid p) aid = some p ∧ RelS P base (ι.put aid p) (h.new aid (.cells l true)) (w.alloc (.cells cells ty)) ∧ StepR ι h w (ι.put aid p) (h.new aid (.cells l true)) (w.alloc (.cells cells ty)) := by
  refine ⟨⟨w.heap.size, 0, cells.size⟩, rfl, rfl, rfl, Io.put_same _ _ _, hS.fresh hbw hn _ _ rfl ⟨hbw, cells, ty, heap_alloc_at _ _, rfl, by show 0 + l.length ≤ cells.size; have := hc.1.1; simp at this; omega, ?_⟩⟩
  have := hc.ext (Ext.put (⟨w.heap.size, 0, cells.size⟩ : Pl) (hS.unused aid hn))
  rw [List.drop_zero, List.take_of_length_le (by rw [hc.1.1]; exact Nat.le_refl _)]
  exact this
theorem zeroL_rel {t : TypeId} {z : List AV} (h : zeroL P t = some z) : ∃ v, (∀ w, (zeroValue t).run P w = .ok v w) ∧ (∀ ι, RelC ι z v.cells.toList) ∧ ∃ i, P.info? t = some i ∧ i.zero = some v := by
  unfold zeroL at h
  split at h
  · rename_i i hi
    split at h
    · rename_i v hv
      split at h
      · rename_i a ha
        exact ⟨v, fun w => by simp [zeroValue, typeInfo, hi, hv], fun ι => (liftV_rel ι ha).cells h, i, hi, hv⟩
      · cases h
    · cases h
  · cases h
theorem zeroA_rel {t : TypeId} {z : AV} (h : zeroA P t = some z) : ∃ v, (∀ w, (zeroValue t).run P w = .ok v w) ∧ (∀ ι, RelV ι z v) := by
  unfold zeroA at h
  split at h
  · rename_i i hi
    split at h
    · rename_i v hv
      exact ⟨v, fun w => by simp [zeroValue, typeInfo, hi, hv], fun ι => liftV_rel ι h⟩
    · cases h
  · cases h
theorem sim_alloc {o : Oper} (t : TypeId) (z : List AV) (ho : o.op = .alloc t) (hz : zeroL P t = some z) : OpSim P base o (.alloc z) := by
  intro ι e h w a aid v h' fp hS hbw hE hn hr
  obtain ⟨bs, v0, ups, nw, hg, hf, hcase⟩ := Loc.run_inv hr
  simp only [opLoc, Option.some.injEq, Prod.mk.injEq] at hf
  obtain ⟨rfl, rfl, rfl⟩ := hf
  rcases hcase with ⟨hx', _⟩ | ⟨x, hx', rfl, rfl⟩
  · cases hx'
  · simp only [Option.some.injEq] at hx'; subst hx'
    obtain ⟨zv, h1, h2, _⟩ := zeroL_rel hz
    obtain ⟨p, hB, hO, hS', hi, h3, h4⟩ := hS.newRow hbw hn t (h2 ι)
    refine ⟨.value (.pointer (some ⟨w.heap.size, 0, none⟩)), .pointer (some ⟨w.heap.size, 0, none⟩), _, _, ?_, .inl rfl, ?_, h3, h4⟩
    · simp only [execOp, ho, Sem.run_bind, Instr.alloc, h1, Result.andThen_ok]
      rfl
    · have := RelV.ptr (ι := ι.put aid p) (o := 0) hi
      rw [hB, hO] at this
      exact this
theorem sim_box {o : Oper} (t : TypeId) (x : Operand) (ho : o.op = .box t x) : OpSim P base o (.box (ao x)) := by
  intro ι e h w a aid v h' fp hS hbw hE hn hr
  have hx := ao_rel hE x
  simp only [opLoc] at hr
  split at hr
  · rename_i l hl
    obtain ⟨bs, v0, ups, nw, hg, hf, hcase⟩ := Loc.run_inv hr
    simp only [Option.some.injEq, Prod.mk.injEq] at hf
    obtain ⟨rfl, rfl, rfl⟩ := hf
    rcases hcase with ⟨hx', _⟩ | ⟨x, hx', rfl, rfl⟩
    · cases hx'
    · simp only [Option.some.injEq] at hx'; subst hx'
      obtain ⟨p, hB, hO, hS', hi, h3, h4⟩ := hS.newRow hbw hn t (hx.cells hl)
      refine ⟨.value (.pointer (some ⟨w.heap.size, 0, none⟩)), .pointer (some ⟨w.heap.size, 0, none⟩), _, _, ?_, .inl rfl, ?_, h3, h4⟩
      · simp only [execOp, ho, Sem.run_bind, Instr.box]
        rfl
      · have := RelV.ptr (ι := ι.put aid p) (o := 0) hi
        rw [hB, hO] at this
        exact this
  · rw [Loc.run_no] at hr; cases hr
theorem foldl_setIfInBounds (cs : List Value) : ∀ (k : Nat) (A : Array Value) (off : Nat), off + k + cs.length ≤ A.size →
    ((cs.zipIdx k).foldl (fun A (p : Value × Nat) => A.setIfInBounds (off + p.2) p.1) A).toList = A.toList.take (off + k) ++ cs ++ A.toList.drop (off + k + cs.length) := by
  induction cs with
  | nil => intro k A off h; simp
  | cons c cs ih =>
    intro k A off h
    simp only [List.zipIdx_cons, List.foldl_cons]
    rw [ih (k + 1) _ off (by simp at h ⊢; omega)]
    have := list_seg_step A.toList (off + k) c cs (by simp at h ⊢; omega)
    simpa [Array.toList_setIfInBounds, Nat.add_assoc] using this
theorem fill_rel {ι : Io} {e : Env} {a : Act} (hE : RelE ι e a.tmps) (place : Nat → Option (Nat × Nat)) : ∀ (ps : List (Nat × Operand)) (qs : List (Nat × Nat × AO)) (z l : List AV) (Z : Array Value),
    partsOf place ps = some qs → RelC ι z Z.toList → fillC e z qs = some l → ∃ L, Instr.fill place Z (ps.map fun (i, x) => (i, a.eval x)) = some L ∧ RelC ι l L.toList
  | [], qs, z, l, Z, hp, hz, hf => by
    simp [partsOf] at hp; subst hp
    simp [fillC] at hf; subst hf
    exact ⟨Z, by simp [Instr.fill], hz⟩
  | (i, x) :: ps, qs, z, l, Z, hp, hz, hf => by
    simp only [partsOf] at hp
    split at hp
    · rename_i off n r hpl hr
      simp only [Option.some.injEq] at hp; subst hp
      simp only [fillC] at hf
      split at hf
      · rename_i cs hcs
        split at hf
        · rename_i hc
          have hrel := (ao_rel hE x).cells hcs
          have hlen : (a.eval x).cells.size = n := by have := hrel.1.1; simp at this; omega
          have hZ : z.length = Z.size := by have := hz.1.1; simpa using this
          have hfold := foldl_setIfInBounds (a.eval x).cells.toList 0 Z off (by simp; omega)
          simp only [Nat.add_zero] at hfold
          have hz' : RelC ι (z.take off ++ cs ++ z.drop (off + n)) (((a.eval x).cells.toList.zipIdx 0).foldl (fun A (p : Value × Nat) => A.setIfInBounds (off + p.2) p.1) Z).toList := by
            rw [hfold]
            have : (a.eval x).cells.toList.length = n := by simp; omega
            rw [this]
            exact ((hz.take off).append hrel).append (hz.drop (off + n))
          obtain ⟨L, h1, h2⟩ := fill_rel hE place ps r _ l _ hr hz' hf
          refine ⟨L, ?_, h2⟩
          simp only [List.map_cons, Instr.fill, hpl]
          rw [if_neg (by simp [hlen]; omega)]
          rw [← h1]
          congr 1
          have e3 := Array.foldl_toList (fun (cs : Array Value) (p : Value × Nat) => cs.setIfInBounds (off + p.2) p.1) (init := Z) (xs := (a.eval x).cells.zipIdx)
          rw [Array.toList_zipIdx] at e3
          exact e3.symm
        · cases hf
      · cases hf
    · cases hp
end Go.Ax
end
section
namespace Go.Ax
variable {P : Program} {base : Nat}
theorem mapM_places (fs : Array Field) (hall : fs.all (fun f => (sz P f.type).isSome) = true) (w : World) :
    (fs.mapM (fun f => do pure (f.offset, ← sizeOf f.type) : Field → Sem (Nat × Nat))).run P w = .ok (fs.map fun f => (f.offset, (sz P f.type).getD 0)) w := by
  rw [Array.mapM_eq_mapM_toList]
  have key : ∀ (l : List Field), (∀ f ∈ l, (sz P f.type).isSome = true) → (l.mapM (fun f => do pure (f.offset, ← sizeOf f.type) : Field → Sem (Nat × Nat))).run P w = .ok (l.map fun f => (f.offset, (sz P f.type).getD 0)) w := by
    intro l
    induction l with
    | nil => intro _; simp
    | cons f l ih =>
      intro h
      obtain ⟨n, hn⟩ := Option.isSome_iff_exists.1 (h f (by simp))
      rw [List.mapM_cons]
      simp only [Sem.run_bind, sz_run hn, Result.andThen_ok, Sem.run_pure, ih (fun g hg => h g (by simp [hg])), List.map_cons, hn, Option.getD_some]
  rw [Sem.run_map, key fs.toList (by
    intro f hf
    obtain ⟨i, hi, rfl⟩ := Array.mem_iff_getElem.1 (Array.mem_toList_iff.1 hf)
    exact Array.all_eq_true.1 hall i hi), Result.andThen_ok]
  congr 1
  apply Array.ext'
  simp
theorem place_eq (fs : Array Field) (hall : fs.all (fun f => (sz P f.type).isSome) = true) : (fun (i : Nat) => (fs[i]?).bind (fieldSz P)) = (fun (i : Nat) => (fs.map fun f => (f.offset, (sz P f.type).getD 0))[i]?) := by
  funext i
  rw [Array.getElem?_map]
  cases h : fs[i]? with
  | none => rfl
  | some f =>
    have : (sz P f.type).isSome = true := by
      have := Array.all_eq_true.1 hall i (Array.getElem?_eq_some_iff.1 h).1
      rw [(Array.getElem?_eq_some_iff.1 h).2] at this
      exact this
    obtain ⟨n, hn⟩ := Option.isSome_iff_exists.1 this
    simp [fieldSz, hn]
theorem sim_build {o : Oper} (t : TypeId) (ps : Array (Nat × Operand)) (z : List AV) (place : Nat → Option (Nat × Nat)) (l : List (Nat × Nat × AO)) (ho : o.op = .build t ps) (hz : zeroL P t = some z)
    (hl : partsOf place ps.toList = some l)
    (hd : (∃ fs, P.underlying t = some (.struct fs) ∧ fs.all (fun f => (sz P f.type).isSome) = true ∧ place = fun i => (fs[i]?).bind (fieldSz P)) ∨
      (∃ k el n, P.underlying t = some (.array k el) ∧ sz P el = some n ∧ place = fun i => some (i * n, n))) : OpSim P base o (.build z l) := by
  refine OpSim.val (fun ρ => Instr.build t (ps.map fun (i, x) => (i, ρ x))) (fun e => (fillC e z l).map .agg) (fun e => rfl) (fun ρ => by simp [execOp, ho]) ?_
  intro ι e a w r hE hr
  cases hf : fillC e z l with
  | none => rw [hf] at hr; cases hr
  | some r0 =>
    rw [hf] at hr
    simp only [Option.map_some, Option.some.injEq] at hr; subst hr
    obtain ⟨zv, h1, h2, _⟩ := zeroL_rel hz
    obtain ⟨L, h3, h4⟩ := fill_rel hE place ps.toList l z r0 zv.cells hl (h2 ι) hf
    refine ⟨.agg L, ?_, by simpa using h4.agg⟩
    have hps : (ps.map fun (i, x) => (i, a.eval x)).toList = ps.toList.map fun (i, x) => (i, a.eval x) := by simp
    rcases hd with ⟨fs, hu, hall, hpl⟩ | ⟨k, el, n, hu, hs, hpl⟩
    · unfold Instr.build
      simp only [Sem.run_bind, h1, Result.andThen_ok, run_underlying hu, mapM_places fs hall, hps]
      rw [hpl, place_eq fs hall] at h3
      simp only [h3, Sem.run_pure]
    · unfold Instr.build
      simp only [Sem.run_bind, h1, Result.andThen_ok, run_underlying hu, sz_run hs, hps]
      rw [hpl] at h3
      simp only [h3, Sem.run_pure]
theorem flat_get {α : Type} (l : List α) : ∀ (n i : Nat), ((List.replicate n l).flatten)[i]? = if i < n * l.length then l[i % l.length]? else none
  | 0, i => by simp
  | n + 1, i => by
    rw [List.replicate_succ, List.flatten_cons, List.getElem?_append]
    by_cases h : i < l.length
    · rw [if_pos h, if_pos (by rw [Nat.succ_mul]; omega), Nat.mod_eq_of_lt h]
    · rw [if_neg h, flat_get l n (i - l.length)]
      have e : (i - l.length) % l.length = i % l.length := by rw [Nat.mod_eq_sub_mod (by omega : i ≥ l.length)]
      rw [e, Nat.succ_mul]
      by_cases h2 : i - l.length < n * l.length
      · rw [if_pos h2, if_pos (by omega)]
      · rw [if_neg h2, if_neg (by omega)]
theorem range_cells (z : Array Value) (n : Nat) (hz : 0 < z.size) : ((Array.range (n * z.size)).map (z[· % z.size]!)).toList = (List.replicate n z.toList).flatten := by
  apply List.ext_getElem?
  intro i
  rw [flat_get]
  simp only [Array.toList_map, Array.toList_range, List.getElem?_map, Array.length_toList]
  by_cases h : i < n * z.size
  · rw [if_pos h, List.getElem?_range h]
    have hm : i % z.size < z.size := Nat.mod_lt _ hz
    simp [hm]
  · rw [if_neg h, List.getElem?_eq_none (by simpa using h)]
    rfl
theorem sim_bslice {o : Oper} (t el : TypeId) (len n : Nat) (ps : Array (Nat × Operand)) (z : List AV) (l : List (Nat × Nat × AO)) (ho : o.op = .buildSlice t len ps) (hu : P.underlying t = some (.slice el)) (hz : zeroL P el = some z) (hs : sz P el = some n)
    (hc : z.length = n ∧ 0 < n ∧ len * n ≤ 1024) (hl : partsOf (fun i => some (i * n, n)) ps.toList = some l) : OpSim P base o (.bslice ((List.replicate len z).flatten) len n l) := by
  intro ι e h w a aid v h' fp hS hbw hE hn hr
  simp only [opLoc] at hr
  split at hr
  · rename_i cs hcs
    obtain ⟨bs, v0, ups, nw, hg, hf, hcase⟩ := Loc.run_inv hr
    simp only [Option.some.injEq, Prod.mk.injEq] at hf
    obtain ⟨rfl, rfl, rfl⟩ := hf
    rcases hcase with ⟨hx', _⟩ | ⟨x, hx', rfl, rfl⟩
    · cases hx'
    · simp only [Option.some.injEq] at hx'; subst hx'
      obtain ⟨zv, h1, h2, _⟩ := zeroL_rel hz
      have hzs : zv.cells.size = n := by have := (h2 ι).1.1; simp at this; omega
      have hps : (ps.map fun (i, x) => (i, a.eval x)).toList = ps.toList.map fun (i, x) => (i, a.eval x) := by simp
      -- the row of zeros
      obtain ⟨row, hrow, hrun⟩ : ∃ row : Array Value, row.toList = (List.replicate len zv.cells.toList).flatten ∧
          (Instr.buildSlice t len (ps.map fun (i, x) => (i, a.eval x))).run P w = (match Instr.fill (fun i => some (i * n, n)) row (ps.toList.map fun (i, x) => (i, a.eval x)) with
            | some cells => .ok (.slice (some ⟨w.heap.size, 0, none⟩) len len) (w.alloc (.cells cells el))
            | none => .halt (.stuck "buildSlice: a part of the wrong size") w) := by
        refine ⟨(Array.range (len * zv.cells.size)).map (zv.cells[· % zv.cells.size]!), range_cells _ _ (by omega), ?_⟩
        unfold Instr.buildSlice
        simp only [Sem.run_bind, run_underlying hu, Result.andThen_ok, sz_run hs]
        rw [if_neg (by omega)]
        by_cases h0 : len * n = 0
        · have hl0 : len = 0 := by rcases Nat.mul_eq_zero.1 h0 with h | h <;> omega
          subst hl0
          simp only [Nat.zero_mul, if_true, Sem.run_bind, Sem.run_pure, Result.andThen_ok, hps]
          have er : (Array.map (fun x => (#[] : Array Value)[x % (#[] : Array Value).size]!) (Array.range 0)) = Array.map (fun x => zv.cells[x % zv.cells.size]!) (Array.range 0) := by simp
          rw [er]
          cases hfl : Instr.fill (fun i => some (i * n, n)) (Array.map (fun x => zv.cells[x % zv.cells.size]!) (Array.range 0)) (ps.toList.map fun (i, x) => (i, a.eval x)) with
          | none => rfl
          | some cells => rfl
        · rw [if_neg h0]
          simp only [Sem.run_bind, h1, Sem.run_pure, Result.andThen_ok, hps, hzs]
          cases hfl : Instr.fill (fun i => some (i * n, n)) (Array.map (fun x => zv.cells[x % n]!) (Array.range (len * n))) (ps.toList.map fun (i, x) => (i, a.eval x)) with
          | none => rfl
          | some cells => rfl
      have hrel : RelC ι ((List.replicate len z).flatten) row.toList := by rw [hrow]; exact (h2 ι).flat len
      obtain ⟨L, h3, h4⟩ := fill_rel hE _ ps.toList l _ cs row hl hrel hcs
      rw [h3] at hrun
      simp only at hrun
      have hLs : cs.length = len * n := by
        have : ∀ (ps : List (Nat × Nat × AO)) (z l : List AV), fillC e z ps = some l → l.length = z.length := by
          intro ps
          induction ps with
          | nil => intro z l h; simp [fillC] at h; rw [h]
          | cons p ps ih =>
            intro z l h
            obtain ⟨off, m, x⟩ := p
            simp only [fillC] at h
            split at h
            · split at h
              · rename_i hc
                rw [ih _ _ h]
                simp; omega
              · cases h
            · cases h
        rw [this _ _ _ hcs]
        simp [hc.1]
      obtain ⟨p, hB, hO, hS', hi, h5, h6⟩ := hS.newRow hbw hn el h4
      refine ⟨.value (.slice (some ⟨w.heap.size, 0, none⟩) len len), .slice (some ⟨w.heap.size, 0, none⟩) len len, _, _, ?_, .inl rfl, ?_, h5, h6⟩
      · simp [execOp, ho, hrun]
      · refine .slc hi (Nat.le_refl _) (Nat.le_refl _) (fun _ => rfl) (.inr ⟨by rw [hB, hO], .inr ?_⟩)
        have := h4.1.1
        simp at this
        rw [hO, hS']; omega
  · rw [Loc.run_no] at hr; cases hr
theorem sim_mkslc {o : Oper} (t el : TypeId) (i : TypeInfo) (z : List AV) (x y : Operand) (ho : o.op = .makeSlice t x y) (hu : P.underlying t = some (.slice el)) (hi : P.info? el = some i) (hz : zeroL P el = some z)
    (hc : z.length = i.size ∧ 0 < i.size ∧ 0 < i.bytes) : OpSim P base o (.mkslc z i.bytes (ao x) (ao y)) := by
  intro ι e h w a aid v h' fp hS hbw hE hn hr
  have hx := ao_rel hE x
  have hy := ao_rel hE y
  simp only [opLoc] at hr
  split at hr
  · rename_i l c hpx hpy
    split at hr
    · rename_i hb
      obtain ⟨bs, v0, ups, nw, hg, hf, hcase⟩ := Loc.run_inv hr
      simp only [Option.some.injEq, Prod.mk.injEq] at hf
      obtain ⟨rfl, rfl, rfl⟩ := hf
      rcases hcase with ⟨hx', _⟩ | ⟨r, hx', rfl, rfl⟩
      · cases hx'
      · simp only [Option.some.injEq] at hx'; subst hx'
        obtain ⟨zv, h1, h2, i', hi', hzv⟩ := zeroL_rel hz
        rw [hi] at hi'; cases hi'
        have hzs : zv.cells.size = i.size := by have := (h2 ι).1.1; simp at this; omega
        rw [hpx] at hx
        rw [hpy] at hy
        obtain ⟨hl0, hlc, hroom⟩ := hb
        simp only [room] at hroom
        have hbig : c ≤ 70368744177664 := by
          have : (c : Int) ≤ (i.bytes : Int) * c := by
            have h1 : (1 : Int) * c ≤ (i.bytes : Int) * c := Int.mul_le_mul_of_nonneg_right (by omega) (by omega)
            simpa using h1
          omega
        have wl : IntKind.i64.wrap l = l := by
          simp only [IntKind.wrap, IntKind.bits, IntKind.signed]
          simp
          omega
        have wc : IntKind.i64.wrap c = c := by
          simp only [IntKind.wrap, IntKind.bits, IntKind.signed]
          simp
          omega
        have hrow : ((Array.range (c.toNat * i.size)).map (zv.cells[· % zv.cells.size]!)).toList = (List.replicate c.toNat zv.cells.toList).flatten := by
          rw [← hzs]; exact range_cells _ _ (by omega)
        have hrel : RelC ι ((List.replicate c.toNat z).flatten) ((Array.range (c.toNat * i.size)).map (zv.cells[· % zv.cells.size]!)).toList := by rw [hrow]; exact (h2 ι).flat _
        obtain ⟨p, hB, hO, hS', hip, h5, h6⟩ := hS.newRow hbw hn el hrel
        refine ⟨.value (.slice (some ⟨w.heap.size, 0, none⟩) l.toNat c.toNat), .slice (some ⟨w.heap.size, 0, none⟩) l.toNat c.toNat, _, _, ?_, .inl rfl, ?_, h5, h6⟩
        · have t1 : ¬ (c < 0) := by omega
          have t2 : ¬ ((i.bytes : Int) * c > 281474976710656) := by omega
          have t3 : ¬ (l < 0) := by omega
          have t4 : ¬ (l > c) := by omega
          simp only [execOp, ho, Sem.run_bind, Instr.makeSlice, run_underlying hu, Result.andThen_ok, asInt, rel_int hx, rel_int hy, asIntOf, Sem.run_pure, typeInfo, run_program, hi, wl, wc]
          simp only [show ((2 : Int) ^ 48) = 281474976710656 from rfl, t1, t2, t3, t4, decide_false, Bool.or_false, Bool.false_or, Bool.false_eq_true, if_false, Sem.run_bind, Sem.run_pure, Result.andThen_ok, run_askRoom, sizeOf, typeInfo, run_program, hi]
          by_cases h0 : c.toNat * i.size = 0
          · simp only [h0, if_true, Sem.run_bind, Sem.run_pure, Result.andThen_ok]
            have er : (Array.map (fun x => (#[] : Array Value)[x % (#[] : Array Value).size]!) (Array.range 0)) = Array.map (fun x => zv.cells[x % zv.cells.size]!) (Array.range 0) := by simp
            rw [er]
            rfl
          · simp only [h0, if_false, Sem.run_bind, h1, Sem.run_pure, Result.andThen_ok]
            rfl
        · refine .slc hip (by omega) (Nat.le_refl _) (fun _ => rfl) (.inr ⟨by rw [hB, hO], .inr ?_⟩)
          have : ((Array.range (c.toNat * i.size)).map (zv.cells[· % zv.cells.size]!)).size = c.toNat * i.size := by simp
          rw [hO, hS', this, hc.1]; omega
    · rw [Loc.run_no] at hr; cases hr
  · rw [Loc.run_no] at hr; cases hr
end Go.Ax
end
section
namespace Go.Ax
variable {P : Program} {base : Nat}
theorem firstCells_rel {ι : Io} {h : H} {w : World} (hS : RelS P base ι h w) {b o n c es sz m : Nat} {ex : Bool} {v : Value} {l : List AV} {own : Bool} (hv : RelV ι (.slc (some (b, o)) n c ex es) v) (hb : h.get b = some (.cells l own))
    (hm : m ≤ n) (hfit : o + m * sz ≤ l.length) : ∃ cs : List Value, (∀ w' : World, w'.heap = w.heap → (Builtin.firstCells sz m v).run P w' = .ok cs.toArray w') ∧ RelC ι ((l.drop o).take (m * sz)) cs ∧ cs.length = m * sz := by
  obtain ⟨p, arr, ty, fz, hp, hlt, hg, hle, hc⟩ := hS.row hb
  cases hv with
  | slc h1 h2 h3 h4 h5 =>
    rename_i C A q
    rw [hp] at h1; cases h1
    rcases h5 with h5 | ⟨rfl, _⟩
    · have : m = 0 := by omega
      subst this
      refine ⟨[], fun w' _ => ?_, by simp only [Nat.zero_mul, List.take_zero]; exact ⟨.nil, fun a ha => by cases ha⟩, by simp⟩
      have := run_loadCells_list (P := P) w' A [] (by simp)
      simpa [Builtin.firstCells] using this
    · have h2 := (hc.drop o).take (m * sz)
      rw [window_sub _ _ _ _ _ hfit] at h2
      have hlen : ((arr.toList.drop (p.O + o)).take (m * sz)).length = m * sz := by simp; omega
      refine ⟨(arr.toList.drop (p.O + o)).take (m * sz), fun w' hw => ?_, h2, hlen⟩
      have hl := run_loadCells_list (P := P) w' ⟨p.B, p.O + o, none⟩ ((arr.toList.drop (p.O + o)).take (m * sz)) (by
        intro j v hj
        rw [getElem?_window] at hj
        split at hj
        · rw [addr_add, cell_of (by rw [hw]; exact hg), ← Array.getElem?_toList]; exact hj
        · cases hj)
      rw [hlen] at hl
      simp only [Builtin.firstCells]
      exact hl
theorem rel_slc_len {ι : Io} {p : Option (Nat × Nat)} {n c es : Nat} {ex : Bool} {v : Value} (h : RelV ι (.slc p n c ex es) v) : ∃ p' C, v = .slice p' n C ∧ n ≤ C := by
  cases h with
  | slcN => exact ⟨_, _, rfl, Nat.le_refl _⟩
  | slc h1 h2 h3 h4 h5 => exact ⟨_, _, rfl, by omega⟩
theorem run_app {t tx ty el elx : TypeId} {i : TypeInfo} {zv : Value} {args : Array TypeId} (h0 : args[0]? = some t) (h1 : args[1]? = some tx) (ht : P.underlying t = some (.slice el)) (hx : P.underlying tx = some (.slice elx)) (hi : P.info? el = some i) (hz : i.zero = some zv) (hby : 0 < i.bytes)
    (bs : Option Addr) (sl sc : Nat) (x : Value) (n : Nat) (news olds : List Value) (w : World) (hn : ∃ A C, x = .slice A n C)
    (hnew : ∀ w' : World, w'.heap = w.heap → (Builtin.firstCells i.size n x).run P w' = .ok news.toArray w') (hold : sc < sl + n → ∀ w' : World, w'.heap = w.heap → (Builtin.firstCells i.size sl (.slice bs sl sc)).run P w' = .ok olds.toArray w')
    (hroom : (3 * (sl + n) + 2000) * i.bytes ≤ 70368744177664) :
    (Builtin.append_ args ty #[.slice bs sl sc, x]).run P w =
      if sl + n ≤ sc then ((match bs with | some a => storeCells (a.add (sl * i.size)) news | none => pure ()).run P w).andThen fun _ w' => .ok (.slice bs (sl + n) sc) w'
      else .ok (.slice (some ⟨w.heap.size, 0, none⟩) (sl + n) (grownCap w (sl + n) sc el))
        (w.drew.alloc (.cells (olds.toArray ++ news.toArray ++ Builtin.zeroCells zv.cells (grownCap w (sl + n) sc el - (sl + n))) el)) := by
  obtain ⟨A, C, rfl⟩ := hn
  have hbd : sl + n ≤ 70368744177664 := by
    have : (3 * (sl + n) + 2000) * 1 ≤ (3 * (sl + n) + 2000) * i.bytes := Nat.mul_le_mul_left _ hby
    omega
  unfold Builtin.append_
  simp only [h0, h1, List.getElem?_toArray, List.getElem?_cons_zero, List.getElem?_cons_succ, Sem.run_bind, run_underlying ht, run_underlying hx, Result.andThen_ok, sizeOf, typeInfo, run_program, hi, Sem.run_pure, Bool.false_eq_true, if_false, Builtin.lenOf, Sem.run_ite, Bool.not_false, if_true]
  by_cases hle : sl + n ≤ sc
  · rw [if_pos hle, if_pos hle]
    rw [hnew w rfl]
    simp only [Result.andThen_ok]
    cases bs with
    | none => simp
    | some a => simp
  · rw [if_neg hle, if_neg hle]
    have hlt : sc < sl + n := by omega
    have e1 : ¬ (((sl + n : Nat) : Int) > IntKind.i64.max ∧ (False ∨ i.bytes = 0)) := by rintro ⟨_, h | h⟩ <;> omega
    have hnx := nextslicecap_le hlt
    have e2 : ¬ (Builtin.nextslicecap (sl + n) sc * i.bytes > 2 ^ 48) := by
      have : Builtin.nextslicecap (sl + n) sc * i.bytes ≤ (3 * (sl + n) + 2000) * i.bytes := Nat.mul_le_mul_right _ (by omega)
      have e : (2 : Nat) ^ 48 = 281474976710656 := rfl
      omega
    have ho := hold hlt
    simp only [e1, e2, if_false, Sem.run_bind, Result.andThen_ok, Sem.run_pure, run_choose_drew, Question.forced, Bool.false_eq_true, run_askRoom, ho w.drew rfl, hnew w.drew rfl, zeroValue, typeInfo, run_program, hi, hz]
    simp only [newRow, Sem.run_bind, run_newObj_alloc, Result.andThen_ok, Sem.run_pure]
    rfl
theorem RelS.grown {ι : Io} {h : H} {w : World} (hS : RelS P base ι h w) (hbw : base ≤ w.heap.size) {aid : Nat} (hn : h.get aid = none) {el : TypeId} {z : List AV} {zv : Value} {size need cap : Nat} (hz : ∀ ι, RelC ι z zv.cells.toList) (hzs : zv.cells.size = size) (hcap : need ≤ cap)
    {l : List AV} {L : List Value} (hl : RelC ι l L) (hlen : L.length = need * size) :
    ∃ ι', RelV ι' (.slc (some (aid, 0)) need need false size) (.slice (some ⟨w.heap.size, 0, none⟩) need cap) ∧
      RelS P base ι' (h.new aid (.cells l true)) (w.drew.alloc (.cells (L.toArray ++ Builtin.zeroCells zv.cells (cap - need)) el)) ∧
      StepR ι h w ι' (h.new aid (.cells l true)) (w.drew.alloc (.cells (L.toArray ++ Builtin.zeroCells zv.cells (cap - need)) el)) := by
  have hS1 : RelS P base ι h w.drew := hS.same (fun _ => rfl) (Nat.le_refl _) rfl
  have hsz : (L.toArray ++ Builtin.zeroCells zv.cells (cap - need)).size = cap * size := by
    rw [Array.size_append, size_zeroCells, hzs, List.size_toArray, hlen, ← Nat.add_mul]
    congr 1; omega
  refine ⟨ι.put aid ⟨w.heap.size, 0, cap * size⟩, ?_, ?_⟩
  · refine .slc (Io.put_same _ _ _) (Nat.le_refl _) hcap (fun h => by cases h) (.inr ⟨rfl, .inr ?_⟩)
    show 0 + 0 + cap * size ≤ cap * size
    omega
  · have hll : l.length = need * size := by rw [hl.1.1, hlen]
    have hB : RelB P (ι.put aid ⟨w.heap.size, 0, cap * size⟩) base (w.drew.alloc (.cells (L.toArray ++ Builtin.zeroCells zv.cells (cap - need)) el)).heap ⟨w.heap.size, 0, cap * size⟩ (.cells l true) := by
      refine ⟨hbw, _, el, heap_alloc_at w.drew _, hsz, ?_, ?_⟩
      · show 0 + l.length ≤ cap * size
        rw [hll, Nat.zero_add]; exact Nat.mul_le_mul_right _ hcap
      · have e : (L.toArray ++ Builtin.zeroCells zv.cells (cap - need)).toList = L ++ (Builtin.zeroCells zv.cells (cap - need)).toList := by simp
        rw [e, List.drop_zero, List.take_append_of_le_length (by rw [hl.1.1]; exact Nat.le_refl _), List.take_of_length_le (by rw [hl.1.1]; exact Nat.le_refl _)]
        exact hl.ext (Ext.put _ (hS.unused aid hn))
    have := hS1.fresh (show base ≤ w.drew.heap.size from hbw) hn (.cells (L.toArray ++ Builtin.zeroCells zv.cells (cap - need)) el) ⟨w.heap.size, 0, cap * size⟩ rfl hB
    exact ⟨this.1, ⟨this.2.ext, this.2.size, this.2.fr, this.2.os⟩⟩
theorem RelS.inPlace {ι : Io} {h : H} {w : World} (hS : RelS P base ι h w) {sb so : Nat} {l : List AV} (hb : h.get sb = some (.cells l true)) {p : Pl} (hp : ι sb = some p) {aid : Nat} (hn : h.get aid = none) {n : Nat} (hso : so + n ≤ l.length)
    {news : List AV} {vs : List Value} (hc : RelC ι news vs) (hroom : p.O + so + n + vs.length ≤ p.S) :
    ∃ w' ι', (storeCells ⟨p.B, p.O + so + n, none⟩ vs).run P w = .ok () w' ∧ ι' aid = some ⟨p.B, p.O + so, p.S⟩ ∧ RelS P base ι' ((h.put sb .dead).new aid (.cells ((l.drop so).take n ++ news) true)) w' ∧
      StepR ι h w ι' ((h.put sb .dead).new aid (.cells ((l.drop so).take n ++ news) true)) w' := by
  obtain ⟨q, hq, hlt, hr⟩ := hS.blk sb _ hb
  rw [hp] at hq; cases hq
  obtain ⟨hbase, arr, ty, hg, hsz, hfit, hrel⟩ := hr
  have hst := run_storeCells_at P p.B (p.O + so + n) ty vs 0 arr w hg (by omega) hc.one
  obtain ⟨hS1, _⟩ := hS.kill hb
  have hne : aid ≠ sb := by intro e; subst e; rw [hn] at hb; cases hb
  have hn1 : (h.put sb .dead).get aid = none := by rw [H.get_put, if_neg hne]; exact hn
  have hι := hS.unused aid hn
  have hll : ((l.drop so).take n ++ news).length = n + vs.length := by
    rw [List.length_append, List.length_take, List.length_drop, hc.1.1]; omega
  have hfree : ∀ b y q, (h.put sb .dead).get b = some y → y.mine = true → ι b = some q → q.B ≠ p.B := by
    intro b y q hb' hy hq e
    rw [H.get_put] at hb'
    split at hb'
    · cases hb'; cases hy
    · rename_i hbs
      exact hbs (hS.inj b sb y _ q p hb' hb hy rfl hq hp e)
  refine ⟨_, ι.put aid ⟨p.B, p.O + so, p.S⟩, hst, Io.put_same _ _ _, hS1.newAt hn1 ⟨p.B, p.O + so, p.S⟩ (by simp) (by simpa using hlt) (fun k _ hk => setRow_other _ _ _ _ hk) hfree hbase ?_, ?_⟩
  · refine ⟨hbase, _, ty, setRow_heap w p.B arr _ ty (0, 0) hg, ?_, ?_, ?_⟩
    · simp; omega
    · show p.O + so + _ ≤ p.S
      rw [hll]; omega
    · rw [hll]
      simp only [Nat.add_zero]
      have e : ((arr.toList.take (p.O + so + n) ++ vs ++ arr.toList.drop (p.O + so + n + vs.length)).drop (p.O + so)).take (n + vs.length) = ((arr.toList.drop (p.O + so)).take n) ++ vs := by
        apply List.ext_getElem?
        intro i
        rw [getElem?_window]
        have e1 : min (p.O + so + n) arr.toList.length = p.O + so + n := by simp; omega
        have e2 : (List.take n (List.drop (p.O + so) arr.toList)).length = n := by simp; omega
        rw [List.getElem?_append (l₁ := List.take n (List.drop (p.O + so) arr.toList)), e2]
        simp only [List.getElem?_append, List.length_append, List.length_take, e1, List.getElem?_take, List.getElem?_drop]
        by_cases a : i < n
        · rw [if_pos (by omega), if_pos (by omega), if_pos (by omega), if_pos a, if_pos a, if_pos (by omega)]
        · rw [if_neg a]
          by_cases b : i < n + vs.length
          · rw [if_pos b, if_pos (by omega), if_neg (by omega)]
            congr 1; omega
          · rw [if_neg b, List.getElem?_eq_none (by omega)]
      rw [e]
      have h2 := (hrel.drop so).take n
      rw [window_sub _ _ _ _ _ hso] at h2
      exact (h2.append hc).ext (Ext.put _ hι)
  · refine ⟨Ext.put _ hι, by simp, fun B hB hi => ⟨setRow_other _ _ _ _ ?_, ?_⟩, rfl, rfl, rfl⟩
    · intro e; exact hi ⟨sb, _, p, hb, rfl, hp, e.symm⟩
    · rintro ⟨k, y, q, hk, hy, hq, rfl⟩
      rw [H.get_new] at hk
      split at hk
      · rename_i e; subst e
        rw [Io.put_same] at hq; cases hq
        exact hi ⟨sb, _, p, hb, rfl, hp, rfl⟩
      · rename_i e
        rw [Io.put_ne ι _ e] at hq
        rw [H.get_put] at hk
        split at hk
        · cases hk; cases hy
        · exact hi ⟨k, y, q, hk, hy, hq, rfl⟩
theorem Loc.run_ite {c : Prop} [Decidable c] {x y : Loc} {aid : Nat} {h : H} {r : AV × H × FP} (hr : (if c then x else y).run aid h = some r) : (c ∧ x.run aid h = some r) ∨ (¬ c ∧ y.run aid h = some r) := by
  split at hr
  · exact .inl ⟨by assumption, hr⟩
  · exact .inr ⟨by assumption, hr⟩
theorem sim_app {o : Oper} (c : Call) (t tx el elx : TypeId) (i : TypeInfo) (z : List AV) (s x : Operand) (ho : o.op = .call c) (hb : c.callee = .builtin .append) (ha : c.args.toList = [s, x]) (h0 : c.argTypes[0]? = some t) (h1 : c.argTypes[1]? = some tx)
    (ht : P.underlying t = some (.slice el)) (hx : P.underlying tx = some (.slice elx)) (hi : P.info? el = some i) (hz : zeroL P el = some z) (hc : 0 < i.size ∧ z.length = i.size ∧ 0 < i.bytes) : OpSim P base o (.app i.size i.bytes (ao s) (ao x)) := by
  intro ι e h w a aid v h' fp hS hbw hE hn hr
  have hs' := ao_rel hE s
  have hx' := ao_rel hE x
  obtain ⟨zv, _, hzr, i', hi', hzv⟩ := zeroL_rel hz
  rw [hi] at hi'; cases hi'
  have hzs : zv.cells.size = i.size := by have := (hzr ι).1.1; simp at this; omega
  have hrun : ∀ W n W', (Builtin.append_ c.argTypes o.type #[a.eval s, a.eval x]).run P W = .ok n W' → (execOp a.eval o).run P W = .ok (.value n) W' := by
    intro W n W' hW
    obtain ⟨cs, he⟩ := run_builtin ho hb a.eval
    rw [he, args_two ha]
    simp [builtin, hW]
  simp only [opLoc] at hr
  split at hr
  · rename_i sa sl sc sx es xa xl xc xx xes hps hpx
    rw [hps] at hs'
    rw [hpx] at hx'
    rcases Loc.run_ite hr with ⟨hroom, hr1⟩ | ⟨_, hr1⟩
    · simp only [room] at hroom
      rcases Loc.run_ite hr1 with ⟨hxl, hr2⟩ | ⟨hxl, hr2⟩
      · -- nothing comes
        subst hxl
        rw [Loc.run_val] at hr2
        simp only [Option.map_some, Option.some.injEq, Prod.mk.injEq] at hr2
        obtain ⟨rfl, rfl, _⟩ := hr2
        obtain ⟨A, C, hsv, hle⟩ := rel_slc_len hs'
        obtain ⟨A', C', hxv, _⟩ := rel_slc_len hx'
        have hnew : ∀ w' : World, w'.heap = w.heap → (Builtin.firstCells i.size 0 (a.eval x)).run P w' = .ok ([] : List Value).toArray w' := by
          intro w' _
          rw [hxv]
          cases A' with
          | none => simp [Builtin.firstCells]
          | some A' => have := run_loadCells_list (P := P) w' A' [] (by simp); simpa [Builtin.firstCells] using this
        have := run_app (P := P) (ty := o.type) h0 h1 ht hx hi hzv hc.2.2 A sl C (a.eval x) 0 [] [] w ⟨_, _, hxv⟩ hnew (by omega) (by omega)
        rw [if_pos (by omega)] at this
        have hfin : (Builtin.append_ c.argTypes o.type #[a.eval s, a.eval x]).run P w = .ok (a.eval s) w := by
          rw [hsv, this]
          cases A <;> simp [storeCells]
        exact ⟨.value (a.eval s), a.eval s, w, ι, hrun _ _ _ hfin, .inl rfl, hs', hS, .refl _ _ _⟩
      · split at hr2
        · -- the first elements
          rename_i xb xo
          rcases Loc.run_ite hr2 with ⟨hsl, hr3⟩ | ⟨_, hr3⟩
          · subst hsl
            obtain ⟨bs, v0, ups, nw, hg, hf, hcase⟩ := Loc.run_inv hr3
            obtain ⟨blk, hbx, rfl⟩ := getAll_one hg
            simp only at hf
            split at hf
            · rename_i l own heq
              simp only [List.cons.injEq, and_true] at heq; subst heq
              split at hf
              · rename_i hfit
                simp only [Option.some.injEq, Prod.mk.injEq] at hf
                obtain ⟨rfl, rfl, rfl⟩ := hf
                rcases hcase with ⟨hx', _⟩ | ⟨r, hx'', rfl, rfl⟩
                · cases hx'
                · simp only [Option.some.injEq] at hx''; subst hx''
                  obtain ⟨cs, hcs, hrel, hlen⟩ := firstCells_rel hS hx' hbx (Nat.le_refl xl) hfit
                  obtain ⟨A', C', hxv, _⟩ := rel_slc_len hx'
                  have hsv : a.eval s = .slice none 0 0 := by generalize a.eval s = X at hs' ⊢; cases hs'; rfl
                  have := run_app (P := P) (ty := o.type) h0 h1 ht hx hi hzv hc.2.2 none 0 0 (a.eval x) xl cs [] w ⟨_, _, hxv⟩ hcs (by intro _ w' _; simp [Builtin.firstCells]) (by omega)
                  rw [if_neg (by omega)] at this
                  have hcap : xl ≤ grownCap w (0 + xl) 0 el := by simp [grownCap, Question.cut]
                  obtain ⟨ι', g1, g2, g3⟩ := hS.grown hbw hn (el := el) hzr hzs hcap hrel hlen
                  refine ⟨_, _, _, ι', hrun _ _ _ (by rw [hsv]; exact this), .inl rfl, ?_, ?_, ?_⟩
                  · simpa [atNew] using g1
                  · simpa [H.puts] using g2
                  · simpa [H.puts] using g3
              · cases hf
            · cases hf
          · rw [Loc.run_no] at hr3; cases hr3
        · rename_i sb so xb xo
          obtain ⟨bs, v0, ups, nw, hg, hf, hcase⟩ := Loc.run_inv hr2
          obtain ⟨blk, blk', hbs, hbx, rfl⟩ := getAll_two hg
          simp only at hf
          split at hf
          · rename_i l own l' own' heq
            simp only [List.cons.injEq, and_true] at heq; obtain ⟨rfl, rfl⟩ := heq
            split at hf
            · rename_i hfit
              obtain ⟨hf1, hf2, hf3⟩ := hfit
              simp only [Option.some.injEq, Prod.mk.injEq] at hf
              obtain ⟨rfl, rfl, rfl⟩ := hf
              rcases hcase with ⟨hx', _⟩ | ⟨r, hx'', rfl, rfl⟩
              · cases hx'
              · simp only [Option.some.injEq] at hx''; subst hx''
                obtain ⟨cs, hcs, hrel, hlen⟩ := firstCells_rel hS hx' hbx (Nat.le_refl xl) hf2
                obtain ⟨ds, hds, hreld, hlend⟩ := firstCells_rel hS hs' hbs (Nat.le_refl sl) hf1
                obtain ⟨A', C', hxv, _⟩ := rel_slc_len hx'
                generalize hsv : a.eval s = S' at hs' hds
                cases hs' with
                | slc g1 g2 g3 g4 g5 =>
                  rename_i C A p
                  have := run_app (P := P) (ty := o.type) h0 h1 ht hx hi hzv hc.2.2 (some A) sl C (a.eval x) xl cs ds w ⟨_, _, hxv⟩ hcs (fun _ => hds) (by omega)
                  by_cases hle : sl + xl ≤ C
                  · -- in place
                    rw [if_pos hle] at this
                    have hne : ¬ (sx = true ∧ sl = sc) := by rintro ⟨e1, e2⟩; have := g4 e1; omega
                    obtain ⟨rfl, rfl⟩ : own = true ∧ es = i.size := by rcases hf3 with h | h; exact absurd h hne; exact h
                    have hups : (bif sx && Nat.beq sl sc then [] else [(sb, ABlk.dead)]) = [(sb, .dead)] := by
                      cases hsx : sx with
                      | false => rfl
                      | true =>
                        have : Nat.beq sl sc = false := by
                          cases hq : Nat.beq sl sc with
                          | false => rfl
                          | true => exact absurd ⟨hsx, Nat.eq_of_beq_eq_true hq⟩ hne
                        simp [this]
                    rcases g5 with g5 | ⟨rfl, g5⟩
                    · omega
                    · have hS0 : p.O + so + C * i.size ≤ p.S := by rcases g5 with g5 | g5; omega; exact g5
                      have hm : (sl + xl) * i.size ≤ C * i.size := Nat.mul_le_mul_right _ hle
                      rw [Nat.add_mul] at hm
                      obtain ⟨w', ι', q1, q2, q3, q4⟩ := hS.inPlace hbs g1 hn (n := sl * i.size) hf1 hrel (by omega)
                      have hadd : (⟨p.B, p.O + so, none⟩ : Addr).add (sl * i.size) = ⟨p.B, p.O + so + sl * i.size, none⟩ := addr_add _ _ _
                      simp only [hadd, q1, Result.andThen_ok] at this
                      refine ⟨_, _, w', ι', hrun _ _ _ (by rw [hsv]; exact this), .inl rfl, ?_, by rw [hups]; exact q3, by rw [hups]; exact q4⟩
                      refine .slc q2 (Nat.le_refl _) hle (fun h => by cases h) (.inr ⟨by simp, .inr ?_⟩)
                      show p.O + so + 0 + C * i.size ≤ p.S
                      omega
                  · rw [if_neg hle] at this
                    have hcap : sl + xl ≤ grownCap w (sl + xl) C el := by simp [grownCap, Question.cut]
                    have hboth := hreld.append hrel
                    have hlb : (ds ++ cs).length = (sl + xl) * i.size := by rw [List.length_append, hlen, hlend, Nat.add_mul]
                    have fin : ∀ h1, RelS P base ι h1 w → StepR ι h w ι h1 w → h1.get aid = none → ∃ n v' w' ι', (execOp a.eval o).run P w = .ok n w' ∧ NextV n v' ∧ RelV ι' (.slc (some (aid, 0)) (sl + xl) (sl + xl) false i.size) v' ∧
                        RelS P base ι' (h1.new aid (.cells ((l.drop so).take (sl * i.size) ++ (l'.drop xo).take (xl * i.size)) true)) w' ∧ StepR ι h w ι' (h1.new aid (.cells ((l.drop so).take (sl * i.size) ++ (l'.drop xo).take (xl * i.size)) true)) w' := by
                      intro h1 k1 k2 k3
                      obtain ⟨ι', r1, r2, r3⟩ := k1.grown hbw k3 (el := el) hzr hzs hcap hboth hlb
                      refine ⟨_, _, _, ι', hrun _ _ _ (by rw [hsv]; exact this), .inl rfl, r1, ?_, ?_⟩
                      · simpa using r2
                      · simpa using k2.trans r3
                    by_cases hk : (sx && Nat.beq sl sc) = true
                    · rw [hk]; exact fin h hS (.refl _ _ _) hn
                    · have hk' : (sx && Nat.beq sl sc) = false := (Bool.not_eq_true _).mp hk
                      rw [hk']
                      obtain ⟨k1, k2⟩ := hS.kill hbs
                      refine fin (h.put sb .dead) k1 k2 ?_
                      rw [H.get_put, if_neg (by intro e; subst e; rw [hn] at hbs; cases hbs)]; exact hn
            · cases hf
          · cases hf
        · rw [Loc.run_no] at hr2; cases hr2
    · rw [Loc.run_no] at hr1; cases hr1
  · rw [Loc.run_no] at hr; cases hr
theorem sim_copy {o : Oper} (c : Call) (t tx el elx : TypeId) (n : Nat) (d x : Operand) (ho : o.op = .call c) (hb : c.callee = .builtin .copy) (ha : c.args.toList = [d, x]) (h0 : c.argTypes[0]? = some t)
    (ht : P.underlying t = some (.slice el)) (_hx : P.underlying tx = some (.slice elx)) (hs : sz P el = some n) : OpSim P base o (.copy n (ao d) (ao x)) := by
  intro ι e h w a aid v h' fp hS hbw hE hn hr
  have hd := ao_rel hE d
  have hx := ao_rel hE x
  have hrun : ∀ W v W', (Builtin.copy_ c.argTypes o.type #[a.eval d, a.eval x]).run P W = .ok v W' → (execOp a.eval o).run P W = .ok (.value v) W' := by
    intro W v W' hW
    obtain ⟨cs, he⟩ := run_builtin ho hb a.eval
    rw [he, args_two ha]
    simp [builtin, hW]
  have nothing : ∀ (D : Option Addr) (dl dc : Nat) (X : Option Addr) (xl xc : Nat), Nat.min xl dl = 0 → a.eval d = .slice D dl dc → a.eval x = .slice X xl xc →
      (Builtin.copy_ c.argTypes o.type #[a.eval d, a.eval x]).run P w = .ok (.int .i64 0) w := by
    intro D dl dc X xl xc hmin h1 h2
    rw [h1, h2]
    have hf : (Builtin.firstCells n 0 (.slice X xl xc)).run P w = .ok #[] w := by
      cases X with
      | none => simp [Builtin.firstCells]
      | some X => have := run_loadCells_list (P := P) w X [] (by simp); simpa [Builtin.firstCells] using this
    unfold Builtin.copy_
    simp only [h0, List.getElem?_toArray, List.getElem?_cons_zero, List.getElem?_cons_succ, Sem.run_bind, run_underlying ht, Result.andThen_ok, Builtin.lenOf, Sem.run_pure, sz_run hs, hmin, hf]
    cases D <;> simp [storeCells, goInt]
  simp only [opLoc] at hr
  split at hr
  · rename_i db dz dl dc dx des sb so sl sc sx ses hpd hpx
    rw [hpd] at hd
    rw [hpx] at hx
    obtain ⟨bs, v0, ups, nw, hg, hf, hcase⟩ := Loc.run_inv hr
    obtain ⟨blk, blk', hbd, hbx, rfl⟩ := getAll_two hg
    simp only at hf
    split at hf
    · rename_i l l' own' heq
      simp only [List.cons.injEq, and_true] at heq; obtain ⟨rfl, rfl⟩ := heq
      split at hf
      · rename_i hfit
        simp only [Option.some.injEq, Prod.mk.injEq] at hf
        obtain ⟨rfl, rfl, rfl⟩ := hf
        rcases hcase with ⟨_, rfl, rfl⟩ | ⟨r, hx'', _⟩
        · obtain ⟨cs, hcs, hrel, hlen⟩ := firstCells_rel hS hx hbx (Nat.min_le_left sl dl) hfit.2
          obtain ⟨A', C', hxv, _⟩ := rel_slc_len hx
          generalize hdv : a.eval d = D' at hd
          cases hd with
          | slc g1 g2 g3 g4 g5 =>
            rename_i C A p
            rcases g5 with g5 | ⟨rfl, _⟩
            · have hm : min sl dl = 0 := by omega
              have hno := nothing (some A) dl C A' sl C' hm hdv hxv
              rw [hm] at hrel ⊢
              have hsp : splice l dz ((l'.drop so).take (0 * n)) = l := by simp [splice]
              rw [hsp]
              refine ⟨_, _, w, ι, hrun _ _ _ hno, .inl rfl, .int _ _, ?_, ?_⟩
              · obtain ⟨p', hp', hlt, hr'⟩ := hS.blk db _ hbd
                exact (hS.put hbd rfl hp' rfl (fun _ _ => rfl) hr').1
              · obtain ⟨p', hp', hlt, hr'⟩ := hS.blk db _ hbd
                exact (hS.put hbd rfl hp' rfl (fun _ _ => rfl) hr').2
            · have hlc : ((l'.drop so).take (min sl dl * n)).length = min sl dl * n := by rw [hrel.1.1, hlen]
              obtain ⟨w', h1, h2, h3⟩ := hS.write (o := dz) hbd g1 hrel (by rw [hlc]; exact hfit.1)
              refine ⟨_, _, w', ι, hrun _ (.int .i64 (min sl dl : Nat)) _ ?_, .inl rfl, .int _ _, h2, h3⟩
              rw [hdv, hxv]
              unfold Builtin.copy_
              rw [hxv] at hcs
              simp only [h0, List.getElem?_toArray, List.getElem?_cons_zero, List.getElem?_cons_succ, Sem.run_bind, run_underlying ht, Result.andThen_ok, Builtin.lenOf, Sem.run_pure, sz_run hs]
              have e : Nat.min sl dl = min sl dl := rfl
              rw [e, hcs w rfl]
              simp only [Result.andThen_ok, h1]
              rfl
        · cases hx''
      · cases hf
    · cases hf
  · rename_i dl dc dx des xa xl xc xx xes hpd hpx
    rw [hpd] at hd
    rw [hpx] at hx
    rw [Loc.run_val] at hr
    simp only [Option.map_some, Option.some.injEq, Prod.mk.injEq] at hr
    obtain ⟨rfl, rfl, _⟩ := hr
    obtain ⟨A', C', hxv, _⟩ := rel_slc_len hx
    have hdv : a.eval d = .slice none 0 0 ∧ dl = 0 := by generalize a.eval d = D at hd ⊢; cases hd; exact ⟨rfl, rfl⟩
    refine ⟨_, _, w, ι, hrun _ _ _ (nothing _ _ _ _ _ _ ?_ hdv.1 hxv), .inl rfl, .int _ _, hS, .refl _ _ _⟩
    exact Nat.min_zero _
  · rename_i hpd hpx
    rw [hpd] at hd
    rw [hpx] at hx
    rw [Loc.run_val] at hr
    simp only [Option.map_some, Option.some.injEq, Prod.mk.injEq] at hr
    obtain ⟨rfl, rfl, _⟩ := hr
    obtain ⟨A', C', hdv, _⟩ := rel_slc_len hd
    have hxv : ∃ xl, a.eval x = .slice none xl 0 ∧ xl = 0 := by generalize a.eval x = D at hx ⊢; cases hx; exact ⟨0, rfl, rfl⟩
    obtain ⟨xl, hxv, rfl⟩ := hxv
    refine ⟨_, _, w, ι, hrun _ _ _ (nothing _ _ _ _ _ _ ?_ hdv hxv), .inl rfl, .int _ _, hS, .refl _ _ _⟩
    exact Nat.zero_min _
  · rw [Loc.run_no] at hr; cases hr
theorem sim_clrS {o : Oper} (c : Call) (t el : TypeId) (n : Nat) (z : List AV) (x : Operand) (ho : o.op = .call c) (hb : c.callee = .builtin .clear) (ha : c.args.toList = [x]) (h0 : c.argTypes[0]? = some t)
    (ht : P.underlying t = some (.slice el)) (hz : zeroL P el = some z) (hs : sz P el = some n) (hzn : z.length = n) : OpSim P base o (.clrS z (ao x)) := by
  intro ι e h w a aid v h' fp hS hbw hE hn hr
  have hx := ao_rel hE x
  have hrun : ∀ W v W', (Builtin.clear_ c.argTypes o.type #[a.eval x]).run P W = .ok v W' → (execOp a.eval o).run P W = .ok (.value v) W' := by
    intro W v W' hW
    obtain ⟨cs, he⟩ := run_builtin ho hb a.eval
    rw [he, args_one ha]
    simp [builtin, hW]
  have tup : RelV ι (.tup []) (.tuple #[]) := .tup rfl (by simp)
  simp only [opLoc] at hr
  split at hr
  · rename_i k cc ex es hp
    rw [hp] at hx
    rw [Loc.run_val] at hr
    simp only [Option.map_some, Option.some.injEq, Prod.mk.injEq] at hr
    obtain ⟨rfl, rfl, _⟩ := hr
    have hxv : ∃ q, a.eval x = .slice none q 0 := by generalize a.eval x = D at hx ⊢; cases hx; exact ⟨0, rfl⟩
    obtain ⟨q, hxv⟩ := hxv
    refine ⟨_, _, w, ι, hrun _ (.tuple #[]) _ ?_, .inl rfl, tup, hS, .refl _ _ _⟩
    rw [hxv]
    simp [Builtin.clear_, h0, run_underlying ht]
  · rename_i b k m cc ex es hp
    rw [hp] at hx
    rcases Loc.run_ite hr with ⟨hm, hr1⟩ | ⟨hm, hr1⟩
    · subst hm
      rw [Loc.run_val] at hr1
      simp only [Option.map_some, Option.some.injEq, Prod.mk.injEq] at hr1
      obtain ⟨rfl, rfl, _⟩ := hr1
      obtain ⟨A', C', hxv, _⟩ := rel_slc_len hx
      refine ⟨_, _, w, ι, hrun _ (.tuple #[]) _ ?_, .inl rfl, tup, hS, .refl _ _ _⟩
      rw [hxv]
      cases A' <;> simp [Builtin.clear_, h0, run_underlying ht]
    · obtain ⟨bs, v0, ups, nw, hg, hf, hcase⟩ := Loc.run_inv hr1
      obtain ⟨blk, hbx, rfl⟩ := getAll_one hg
      simp only at hf
      split at hf
      · rename_i l heq
        simp only [List.cons.injEq, and_true] at heq; subst heq
        split at hf
        · rename_i hfit
          simp only [Option.some.injEq, Prod.mk.injEq] at hf
          obtain ⟨rfl, rfl, rfl⟩ := hf
          rcases hcase with ⟨_, rfl, rfl⟩ | ⟨r, hx'', _⟩
          · obtain ⟨zv, hz1, hz2, _⟩ := zeroL_rel hz
            have hzs : zv.cells.size = n := by have := (hz2 ι).1.1; simp at this; omega
            generalize hxv : a.eval x = X at hx
            cases hx with
            | slc g1 g2 g3 g4 g5 =>
              rename_i C A p
              rcases g5 with g5 | ⟨rfl, _⟩
              · omega
              · have hzc : (Builtin.zeroCells zv.cells m).toList = (List.replicate m zv.cells.toList).flatten := by
                  unfold Builtin.zeroCells
                  by_cases h0 : zv.cells.size = 0
                  · have : zv.cells = #[] := Array.eq_empty_of_size_eq_zero h0
                    rw [this]; simp
                  · exact range_cells _ _ (by omega)
                have hrel := (hz2 ι).flat m
                rw [← hzc] at hrel
                have hlf : ((List.replicate m z).flatten).length = m * z.length := by simp
                obtain ⟨w', h1, h2, h3⟩ := hS.write (o := k) hbx g1 hrel (by rw [hlf]; exact hfit)
                refine ⟨_, _, w', ι, hrun _ (.tuple #[]) _ ?_, .inl rfl, tup, h2, h3⟩
                rw [hxv]
                obtain ⟨m, rfl⟩ : ∃ q, m = q + 1 := ⟨m - 1, by omega⟩
                simp [Builtin.clear_, h0, run_underlying ht, hz1, h1]
          · cases hx''
        · cases hf
      · cases hf
  · rw [Loc.run_no] at hr; cases hr
end Go.Ax
end
section
namespace Go.Ax
variable {P : Program} {base : Nat}
theorem RelS.map {ι : Io} {h : H} {w : World} (hS : RelS P base ι h w) {r : Nat} {es : List AEnt} {c : Nat} (hb : h.get r = some (.map es c)) :
    ∃ p es', ι r = some p ∧ w.heap[p.B]? = some (.map es' c) ∧ RelEs ι es es'.toList := by
  obtain ⟨p, hp, _, _, es', h1, h2⟩ := hS.blk r _ hb
  exact ⟨p, es', hp, h1, h2⟩
def Obj.boxed : Obj → Bool
  | .cells .. => false
  | _ => true
theorem getObj_of {w : World} {r : Nat} {es : Array MapEntry} {c : Nat} (h : w.heap[r]? = some (.map es c)) : (getObj r).run P w = .ok (.map es c) w := by simp [getObj, Sem.run, h]
theorem setObj_of {w : World} {r : Nat} {o : Obj} (o' : Obj) (h : w.heap[r]? = some o) (hb : Obj.boxed o = true) : (setObj r o').run P w = .ok () (w.putObj r o') := by
  cases o <;> first | (simp [Obj.boxed] at hb; done) | simp [setObj, Sem.run, h, World.putObj]
theorem RelEs.nil {ι : Io} : RelEs ι [] [] := ⟨rfl, fun i x y h => by simp at h⟩
theorem RelEs.head {ι : Io} {x : AEnt} {y : MapEntry} {l : List AEnt} {l' : List MapEntry} (h : RelEs ι (x :: l) (y :: l')) : RelEnt ι x y := h.2 0 x y rfl rfl
theorem RelEs.tail {ι : Io} {x : AEnt} {y : MapEntry} {l : List AEnt} {l' : List MapEntry} (h : RelEs ι (x :: l) (y :: l')) : RelEs ι l l' :=
  ⟨by simpa using h.1, fun i a b ha hb => h.2 (i + 1) a b (by simpa using ha) (by simpa using hb)⟩
theorem RelEs.get {ι : Io} {a : List AEnt} {a' : List MapEntry} (h : RelEs ι a a') {i : Nat} {x : AEnt} (hx : a[i]? = some x) : ∃ v, a'[i]? = some v ∧ RelEnt ι x v := by
  have hi : i < a'.length := by rw [← h.1]; exact (List.getElem?_eq_some_iff.1 hx).1
  exact ⟨a'[i], List.getElem?_eq_getElem hi, h.2 i x _ hx (List.getElem?_eq_getElem hi)⟩
theorem RelEs.push {ι : Io} {l : List AEnt} {l' : List MapEntry} {x : AEnt} {y : MapEntry} (h : RelEs ι l l') (hx : RelEnt ι x y) : RelEs ι (l ++ [x]) (l' ++ [y]) :=
  ⟨by simp [h.1], fun i a b ha hb => by
    rw [List.getElem?_append] at ha hb
    rw [← h.1] at hb
    split at ha
    · rename_i hi; rw [if_pos hi] at hb; exact h.2 i a b ha hb
    · rename_i hi
      rw [if_neg hi] at hb
      rw [List.getElem?_singleton] at ha hb
      split at ha
      · rename_i e; rw [if_pos e] at hb; cases ha; cases hb; exact hx
      · cases ha⟩
theorem RelEs.modify {ι : Io} {l : List AEnt} {l' : List MapEntry} {f : AEnt → AEnt} {g : MapEntry → MapEntry} (i : Nat) (h : RelEs ι l l') (hf : ∀ x y, RelEnt ι x y → RelEnt ι (f x) (g y)) : RelEs ι (l.modify i f) (l'.modify i g) :=
  ⟨by simp [h.1], fun j a b ha hb => by
    rw [List.getElem?_modify] at ha hb
    cases hx : l[j]? with
    | none => rw [hx] at ha; cases ha
    | some x =>
      obtain ⟨y, hy, hr⟩ := h.get hx
      rw [hx] at ha
      rw [hy] at hb
      simp only [Option.map_eq_map, Option.map_some, Option.some.injEq] at ha hb
      subst ha; subst hb
      split
      · exact hf x y hr
      · exact hr⟩
theorem RelEs.erase {ι : Io} {l : List AEnt} {l' : List MapEntry} (i : Nat) (h : RelEs ι l l') : RelEs ι (l.eraseIdx i) (l'.eraseIdx i) :=
  ⟨by simp [List.length_eraseIdx, h.1], fun j a b ha hb => by
    rw [List.getElem?_eraseIdx] at ha hb
    split at ha
    · rename_i hj; rw [if_pos hj] at hb; exact h.2 j a b ha hb
    · rename_i hj; rw [if_neg hj] at hb; exact h.2 _ a b ha hb⟩
def RelFound (ι : Io) : Option (Nat × AV) → Option (Nat × Value) → Prop
  | none, none => True
  | some (i, v), some (j, u) => i = j ∧ RelV ι v u
  | _, _ => False
section find
variable {ι : Io} {kt : TypeId} {ag : Bool} {ks : List Leaf} {k : AV} {K : Value}
theorem keyKind_inv (h : keyKind P kt = some (ag, ks)) : leaves P 8 kt = some ks ∧ ∃ a, agn P kt = some a ∧ a.isSome = ag := by
  unfold keyKind at h
  split at h
  · rename_i l a h1 h2
    simp only [Option.some.injEq, Prod.mk.injEq] at h
    obtain ⟨rfl, rfl⟩ := h
    exact ⟨h1, a, h2, rfl⟩
  · cases h
theorem findAsk_ok (w : World) (hk : keyKind P kt = some (ag, ks)) (hK : RelV ι k K) : ∀ (es : List AEnt) (es' : List MapEntry) (i : Nat) (r : Option (Nat × AV)), RelEs ι es es' → findE ag ks k es i = some r →
    ∃ r', (Instr.findAsking kt K es' i).run P w = .ok r' w ∧ RelFound ι r r'
  | [], [], i, r, _, h => by simp [findE] at h; subst h; exact ⟨none, by simp [Instr.findAsking], trivial⟩
  | [], _ :: _, i, r, hr, h => by have := hr.1; simp at this
  | _ :: _, [], i, r, hr, h => by have := hr.1; simp at this
  | x :: es, y :: es', i, r, hr, h => by
    obtain ⟨hl, hag⟩ := keyKind_inv hk
    obtain ⟨h1, h2, h3⟩ := hr.head
    simp only [findE] at h
    split at h
    · rename_i he
      simp only [Option.some.injEq] at h; subst h
      have heq : (Op.equal kt K y.key).run P w = .ok true w := eq_of_leaves (P := P) (D := 10000) w hl hag (by omega) hK h1 he
      exact ⟨some (i, y.val), by simp [Instr.findAsking, heq], rfl, h2⟩
    · rename_i he
      have heq : (Op.equal kt K y.key).run P w = .ok false w := eq_of_leaves (P := P) (D := 10000) w hl hag (by omega) hK h1 he
      obtain ⟨r', h4, h5⟩ := findAsk_ok w hk hK es es' (i + 1) r hr.tail h
      exact ⟨r', by simp [Instr.findAsking, heq, h4], h5⟩
    · cases h
theorem findNow_ok {d : TypeDesc} (hn : ∀ (x : AV) (X : Value) (b : Bool), RelV ι x X → eqAV ag ks k x = some b → Instr.sameNow d K X = some b) : ∀ (es : List AEnt) (es' : List MapEntry) (i : Nat) (r : Option (Nat × AV)), RelEs ι es es' → findE ag ks k es i = some r →
    ∃ r', Instr.findNow d K es' i = some r' ∧ RelFound ι r r'
  | [], [], i, r, _, h => by simp [findE] at h; subst h; exact ⟨none, by simp [Instr.findNow], trivial⟩
  | [], _ :: _, i, r, hr, h => by have := hr.1; simp at this
  | _ :: _, [], i, r, hr, h => by have := hr.1; simp at this
  | x :: es, y :: es', i, r, hr, h => by
    obtain ⟨h1, h2, h3⟩ := hr.head
    simp only [findE] at h
    split at h
    · rename_i he
      simp only [Option.some.injEq] at h; subst h
      exact ⟨some (i, y.val), by simp [Instr.findNow, hn _ _ _ h1 he], rfl, h2⟩
    · rename_i he
      obtain ⟨r', h4, h5⟩ := findNow_ok hn es es' (i + 1) r hr.tail h
      exact ⟨r', by simp [Instr.findNow, hn _ _ _ h1 he, h4], h5⟩
    · cases h
theorem findKey_ok (w : World) (hk : keyKind P kt = some (ag, ks)) (hK : RelV ι k K) {es : List AEnt} {es' : List MapEntry} {r : Option (Nat × AV)} (hr : RelEs ι es es') (h : findE ag ks k es 0 = some r) :
    ∃ r', (Instr.findKey kt K es').run P w = .ok r' w ∧ RelFound ι r r' := by
  obtain ⟨hl, a, ha, hs⟩ := keyKind_inv hk
  have hu := leaves_und hl
  obtain ⟨d, hd⟩ := Option.isSome_iff_exists.1 hu
  by_cases hwide : (match P.underlying kt with | some (.array _ _) | some (.struct _) => true | _ => false) = true
  · rw [run_findKey_eq w hwide K es']
    exact findAsk_ok w hk hK es es' 0 r hr h
  · have hag : ag = false := by
      rw [← hs]
      unfold agn at ha
      rw [hd] at ha hwide
      cases d <;> simp at ha hwide <;> (subst ha; rfl)
    subst hag
    have hn : ∀ (x : AV) (X : Value) (b : Bool), RelV ι x X → eqAV false ks k x = some b → Instr.sameNow d K X = some b := by
      intro x X b hx hb
      have hl : leaves P (7 + 1) kt = some ks := hl
      simp only [leaves] at hl
      rw [hd] at hl hwide
      have hb' : leafsEq ks [k] [x] = some b := by simpa [eqAV] using hb
      cases d <;> simp at hl hwide
      · subst hl
        obtain ⟨p, q, e1, e2, rfl⟩ := leaf_bool (.cons hK .nil) (.cons hx .nil) hb'
        simp only [List.cons.injEq, and_true] at e1 e2
        subst e1; subst e2; rfl
      · subst hl
        obtain ⟨k', p, q, e1, e2, rfl⟩ := leaf_int (.cons hK .nil) (.cons hx .nil) hb'
        simp only [List.cons.injEq, and_true] at e1 e2
        subst e1; subst e2; simp [Instr.sameNow]
      · subst hl
        obtain ⟨p, q, e1, e2, rfl⟩ := leaf_str (.cons hK .nil) (.cons hx .nil) hb'
        simp only [List.cons.injEq, and_true] at e1 e2
        subst e1; subst e2; rfl
    obtain ⟨r', h1, h2⟩ := findNow_ok hn es es' 0 r hr h
    refine ⟨r', ?_, h2⟩
    simp [Instr.findKey, run_underlying hd, h1]
theorem checkKey_ok (w : World) (hk : keyKind P kt = some (ag, ks)) (hK : RelV ι k K) (em : Bool) (h : keyOk ag ks k = true) : (Instr.checkKey em 10000 kt K).run P w = .ok () w := by
  obtain ⟨hl, a, ha, hs⟩ := keyKind_inv hk
  have hb : eqAV ag ks k k = some true := by simpa [keyOk] using h
  have hb' : ∃ xs X b, RelL ι xs X ∧ leafsEq ks xs xs = some b ∧ K = packV a X := by
    cases ag with
    | true =>
      cases k <;> simp [eqAV] at hb
      rename_i zs
      obtain ⟨Z, rfl, hz⟩ := hK.aggC
      obtain ⟨n, rfl⟩ := Option.isSome_iff_exists.1 hs
      exact ⟨zs, Z.toList, true, hz.1, hb, by simp [packV]⟩
    | false =>
      obtain rfl : a = none := by simpa using hs
      exact ⟨[k], [K], true, .cons hK .nil, by simpa [eqAV] using hb, rfl⟩
  obtain ⟨xs, X, b, g1, g2, rfl⟩ := hb'
  exact leaves_ckOk 8 kt ks hl 10000 (by omega) ι w em a xs X b ha g1 g2
theorem leafs_same : ∀ {ks : List Leaf} {xs ys : List AV} {X Y : List Value}, leafsEq ks xs ys = some true → RelL ι xs X → RelL ι ys Y → X = Y ∧ ∀ v ∈ X, ∀ n, Instr.sameBits n v v = true
  | [], [], [], X, Y, _, hx, hy => by
    have h1 := hx.1; have h2 := hy.1
    simp at h1 h2
    have := List.length_eq_zero_iff.1 h1.symm
    have := List.length_eq_zero_iff.1 h2.symm
    subst X; subst Y; simp
  | [], [], _ :: _, _, _, h, _, _ => by simp [leafsEq] at h
  | [], _ :: _, _, _, _, h, _, _ => by simp [leafsEq] at h
  | _ :: _, [], _, _, _, h, _, _ => by simp [leafsEq] at h
  | _ :: _, _ :: _, [], _, _, h, _, _ => by simp [leafsEq] at h
  | q :: ks, x :: xs, y :: ys, X, Y, h, hx, hy => by
    cases X with
    | nil => have := hx.1; simp at this
    | cons u X => cases Y with
      | nil => have := hy.1; simp at this
      | cons v Y =>
        simp only [leafsEq] at h
        split at h
        · rename_i b1 b2 h1 h2
          simp only [Option.some.injEq, Bool.and_eq_true] at h
          obtain ⟨rfl, rfl⟩ := h
          obtain ⟨rfl, h4⟩ := leafs_same h2 hx.tail hy.tail
          have h5 : u = v ∧ ∀ n, Instr.sameBits n u u = true := by
            have hu := hx.head
            have hv := hy.head
            cases q <;> cases x <;> cases y <;> simp [leafEq] at h1
            · rw [rel_bool hu, rel_bool hv, h1]; exact ⟨rfl, fun n => by cases n <;> simp [Instr.sameBits]⟩
            · obtain ⟨rfl, rfl⟩ := h1
              rw [rel_int hu, rel_int hv]; exact ⟨rfl, fun n => by cases n <;> simp [Instr.sameBits]⟩
            · rename_i b c
              have e : b = c := by
                rw [beq_toListBytes, beq_iff_eq, ByteArray.toList_eq, ByteArray.toList_eq] at h1
                cases b; cases c; congr 1; exact Array.ext' h1
              subst e
              rw [rel_str hu, rel_str hv]; exact ⟨rfl, fun n => by cases n <;> simp [Instr.sameBits, beq_toListBytes]⟩
          obtain ⟨rfl, h6⟩ := h5
          refine ⟨rfl, fun z hz => ?_⟩
          rcases List.mem_cons.1 hz with rfl | hz
          · exact h6
          · exact h4 z hz
        · cases h
theorem stays_ok (w : World) {x : AV} {X : Value} (hK : RelV ι k K) (hX : RelV ι x X) (h : eqAV ag ks k x = some true) : (Instr.keyThatStays X K).run P w = .ok K w := by
  obtain ⟨a, xs, ys, X', Y', h1, h2, h3, h4, rfl, rfl, h7⟩ := rel_eqAV hK hX h
  obtain ⟨rfl, hall⟩ := leafs_same h4 h2 h3
  have : Instr.sameBits 10000 (packV a X') (packV a X') = true := by
    cases a with
    | none =>
      cases X' with
      | nil => have := h7 rfl; simp at this
      | cons v l => simpa [packV] using hall v (by simp) 10000
    | some n =>
      show ((X'.toArray.size == X'.toArray.size) && (X'.toArray.toList.zip X'.toArray.toList).all fun (x, y) => Instr.sameBits 9999 x y) = true
      simp only [beq_self_eq_true, Bool.true_and, List.all_eq_true]
      intro p hp
      obtain ⟨i, hi, rfl⟩ := List.mem_iff_getElem.1 hp
      simp only [List.getElem_zip]
      exact hall _ (List.getElem_mem _) 9999
  simp [Instr.keyThatStays, this]
end find
theorem findE_found {ag : Bool} {ks : List Leaf} {k : AV} : ∀ (es : List AEnt) (i : Nat) (j : Nat) (v : AV), findE ag ks k es i = some (some (j, v)) → ∃ x, i ≤ j ∧ es[j - i]? = some x ∧ eqAV ag ks k x.key = some true ∧ x.val = v
  | [], i, j, v, h => by simp [findE] at h
  | x :: es, i, j, v, h => by
    simp only [findE] at h
    split at h
    · rename_i he
      simp only [Option.some.injEq, Prod.mk.injEq] at h
      obtain ⟨rfl, rfl⟩ := h
      exact ⟨x, Nat.le_refl _, by simp, he, rfl⟩
    · obtain ⟨y, h1, h2, h3, h4⟩ := findE_found es (i + 1) j v h
      refine ⟨y, by omega, ?_, h3, h4⟩
      rw [show j - i = (j - (i + 1)) + 1 from by omega]
      simpa using h2
    · cases h
theorem RelS.putMap {ι : Io} {h : H} {w : World} (hS : RelS P base ι h w) {r : Nat} {es es2 : List AEnt} {c c2 : Nat} (hb : h.get r = some (.map es c)) {p : Pl} (hp : ι r = some p) {es2' : Array MapEntry} (hr : RelEs ι es2 es2'.toList) :
    ∃ w', (∀ W : World, W = w → (setObj p.B (.map es2' c2)).run P W = .ok () w') ∧ RelS P base ι (h.put r (.map es2 c2)) w' ∧ StepR ι h w ι (h.put r (.map es2 c2)) w' := by
  obtain ⟨q, es', hq, hheap, hrel⟩ := hS.map hb
  rw [hp] at hq; cases hq
  have hlt : p.B < w.heap.size := (Array.getElem?_eq_some_iff.1 hheap).1
  have hbase : base ≤ p.B := by obtain ⟨q, hq, _, hr⟩ := hS.blk r _ hb; rw [hp] at hq; cases hq; exact hr.base rfl
  refine ⟨w.putObj p.B (.map es2' c2), fun W hW => by subst hW; exact setObj_of _ hheap rfl, hS.put hb rfl hp (by simp [World.putObj]) (fun k hk => World.putObj_heap_other hk) ?_⟩
  exact ⟨hbase, es2', World.putObj_heap_same hlt, hr⟩
theorem rel_map {ι : Io} {r : Nat} {v : Value} (h : RelV ι (.map (some r)) v) : ∃ p, ι r = some p ∧ v = .map (some p.B) := by cases h; exact ⟨_, by assumption, rfl⟩
theorem rel_mapN {ι : Io} {v : Value} (h : RelV ι (.map none) v) : v = .map none := by cases h; rfl
theorem sim_lenM {o : Oper} (c : Call) (t kt et : TypeId) (x : Operand) (ho : o.op = .call c) (hb : c.callee = .builtin .len) (ha : c.args.toList = [x]) (ht : c.argTypes[0]? = some t) (hu : P.underlying t = some (.map kt et)) :
    OpSim P base o (.lenM (ao x)) := by
  intro ι e h w a aid v h' fp hS hbw hE hn hr
  have hx := ao_rel hE x
  have hrun : ∀ W v W', (Builtin.len_ c.argTypes o.type #[a.eval x]).run P W = .ok v W' → (execOp a.eval o).run P W = .ok (.value v) W' := by
    intro W v W' hW
    obtain ⟨cs, he⟩ := run_builtin ho hb a.eval
    rw [he, args_one ha]
    simp [builtin, hW]
  simp only [opLoc] at hr
  split at hr
  · rename_i hp
    rw [hp] at hx
    rw [Loc.run_val] at hr
    simp only [Option.map_some, Option.some.injEq, Prod.mk.injEq] at hr
    obtain ⟨rfl, rfl, _⟩ := hr
    exact ⟨_, _, w, ι, hrun _ (.int .i64 0) _ (by rw [rel_mapN hx]; simp [Builtin.len_, ht, run_underlying hu, goInt]), .inl rfl, .int _ _, hS, .refl _ _ _⟩
  · rename_i r hp
    rw [hp] at hx
    obtain ⟨bs, v0, ups, nw, hg, hf, hcase⟩ := Loc.run_inv hr
    obtain ⟨blk, hbr, rfl⟩ := getAll_one hg
    simp only at hf
    split at hf
    · rename_i es cl heq
      simp only [List.cons.injEq, and_true] at heq; subst heq
      simp only [Option.some.injEq, Prod.mk.injEq] at hf
      obtain ⟨rfl, rfl, rfl⟩ := hf
      rcases hcase with ⟨_, rfl, rfl⟩ | ⟨r, hx'', _⟩
      · obtain ⟨p, hp', hv⟩ := rel_map hx
        obtain ⟨q, es', hq, hheap, hrel⟩ := hS.map hbr
        rw [hp'] at hq; cases hq
        refine ⟨_, _, w, ι, hrun _ (.int .i64 es'.size) _ ?_, .inl rfl, ?_, hS, .refl _ _ _⟩
        · rw [hv]; simp [Builtin.len_, ht, run_underlying hu, goInt, getObj_of hheap]
        · have := hrel.1; simp at this; rw [this]; exact .int _ _
      · cases hx''
    · cases hf
  · rw [Loc.run_no] at hr; cases hr
theorem sim_mkmap {o : Oper} (t : TypeId) (ho : o.op = .makeMap t none) : OpSim P base o .mkmap := by
  intro ι e h w a aid v h' fp hS hbw hE hn hr
  obtain ⟨bs, v0, ups, nw, hg, hf, hcase⟩ := Loc.run_inv hr
  simp only [opLoc, Option.some.injEq, Prod.mk.injEq] at hf
  obtain ⟨rfl, rfl, rfl⟩ := hf
  rcases hcase with ⟨hx', _⟩ | ⟨x, hx', rfl, rfl⟩
  · cases hx'
  · simp only [Option.some.injEq] at hx'; subst hx'
    have := hS.fresh hbw hn (.map #[] 0) ⟨w.heap.size, 0, 0⟩ rfl (x := .map [] 0) ⟨hbw, #[], heap_alloc_at _ _, .nil⟩
    refine ⟨.value (.map (some w.heap.size)), .map (some w.heap.size), _, _, ?_, .inl rfl, ?_, this.1, this.2⟩
    · simp only [execOp, ho, Sem.run_bind, Instr.makeMap, Option.map_none]
      rfl
    · exact .map (Io.put_same _ _ _)
theorem sim_look {o : Oper} (t kt et : TypeId) (m k : Operand) (ok : Bool) (ag : Bool) (ks : List Leaf) (z : AV) (ho : o.op = .lookup t m k ok) (hu : P.underlying t = some (.map kt et)) (hk : keyKind P kt = some (ag, ks)) (hz : zeroA P et = some z) :
    OpSim P base o (.look ag ks z (ao m) (ao k) ok) := by
  intro ι e h w a aid v h' fp hS hbw hE hn hr
  have hm := ao_rel hE m
  have hK := ao_rel hE k
  obtain ⟨zv, hz1, hz2⟩ := zeroA_rel hz
  have tup : ∀ (u : AV) (U : Value) (b : Bool), RelV ι u U → RelV ι (bif ok then .tup [u, .bool b] else u) (if ok then .tuple #[U, .bool b] else U) := by
    intro u U b h
    cases ok
    · exact h
    · exact RelL.tup (.cons h (.cons (.bool b) .nil))
  simp only [opLoc] at hr
  split at hr
  · rename_i hp
    rw [hp] at hm
    rw [Loc.run_val] at hr
    split at hr
    · rename_i hok
      simp only [Option.map_some, Option.some.injEq, Prod.mk.injEq] at hr
      obtain ⟨rfl, rfl, _⟩ := hr
      have hck := checkKey_ok w hk hK true hok
      obtain ⟨r', hf1, hf2⟩ := findKey_ok (P := P) w hk hK RelEs.nil (r := none) rfl
      have : r' = none := by cases r' with | none => rfl | some _ => exact hf2.elim
      subst this
      refine ⟨_, _, w, ι, ?_, .inl rfl, tup z zv false (hz2 ι), hS, .refl _ _ _⟩
      simp [execOp, ho, Instr.lookup, run_underlying hu, rel_mapN hm, hck, hf1, hz1]
    · cases hr
  · rename_i r hp
    rw [hp] at hm
    obtain ⟨bs, v0, ups, nw, hg, hf, hcase⟩ := Loc.run_inv hr
    obtain ⟨blk, hbr, rfl⟩ := getAll_one hg
    simp only at hf
    split at hf
    · rename_i es cl heq
      simp only [List.cons.injEq, and_true] at heq; subst heq
      split at hf
      · rename_i hok
        obtain ⟨p, hp', hv⟩ := rel_map hm
        obtain ⟨q, es', hq, hheap, hrel⟩ := hS.map hbr
        rw [hp'] at hq; cases hq
        have hck := checkKey_ok w hk hK es'.isEmpty hok
        cases hfe : findE ag ks ((ao k).ev e) es 0 with
        | none => rw [hfe] at hf; cases hf
        | some fr =>
          obtain ⟨r', hf1, hf2⟩ := findKey_ok (P := P) w hk hK hrel hfe
          rw [hfe] at hf
          simp only [Option.map_some, Option.some.injEq] at hf
          cases fr with
          | none =>
            simp only [Prod.mk.injEq] at hf
            obtain ⟨rfl, rfl, rfl⟩ := hf
            rcases hcase with ⟨_, rfl, rfl⟩ | ⟨r, hx'', _⟩
            · have : r' = none := by cases r' with | none => rfl | some _ => exact hf2.elim
              subst this
              refine ⟨_, _, w, ι, ?_, .inl rfl, tup z zv false (hz2 ι), hS, .refl _ _ _⟩
              simp [execOp, ho, Instr.lookup, run_underlying hu, hv, getObj_of hheap, hck, hf1, hz1]
            · cases hx''
          | some iv =>
            obtain ⟨i, u⟩ := iv
            simp only [Prod.mk.injEq] at hf
            obtain ⟨rfl, rfl, rfl⟩ := hf
            rcases hcase with ⟨_, rfl, rfl⟩ | ⟨r, hx'', _⟩
            · cases r' with
              | none => exact hf2.elim
              | some jv =>
                obtain ⟨j, U⟩ := jv
                obtain ⟨rfl, hU⟩ := hf2
                refine ⟨_, _, w, ι, ?_, .inl rfl, tup u U true hU, hS, .refl _ _ _⟩
                simp [execOp, ho, Instr.lookup, run_underlying hu, hv, getObj_of hheap, hck, hf1]
            · cases hx''
      · cases hf
    · cases hf
  · rw [Loc.run_no] at hr; cases hr
theorem sim_mapup {o : Oper} (t kt et : TypeId) (m k x : Operand) (ag : Bool) (ks : List Leaf) (ho : o.op = .mapUpdate t m k x ∨ o.op = .insert t m k x) (hu : P.underlying t = some (.map kt et)) (hk : keyKind P kt = some (ag, ks)) :
    OpSim P base o (.mapup ag ks (ao m) (ao k) (ao x)) := by
  intro ι e h w a aid v h' fp hS hbw hE hn hr
  have hm := ao_rel hE m
  have hK := ao_rel hE k
  have hX := ao_rel hE x
  have hrun : ∀ W', (Instr.mapUpdate t (a.eval m) (a.eval k) (a.eval x)).run P w = .ok () W' → (execOp a.eval o).run P w = .ok .skip W' := by
    intro W' hW
    rcases ho with ho | ho <;> simp [execOp, ho, hW]
  simp only [opLoc] at hr
  split at hr
  · rename_i r hp
    rw [hp] at hm
    obtain ⟨bs, v0, ups, nw, hg, hf, hcase⟩ := Loc.run_inv hr
    obtain ⟨blk, hbr, rfl⟩ := getAll_one hg
    simp only at hf
    split at hf
    · rename_i es cl heq
      simp only [List.cons.injEq, and_true] at heq; subst heq
      split at hf
      · rename_i hok
        obtain ⟨p, hp', hv⟩ := rel_map hm
        obtain ⟨q, es', hq, hheap, hrel⟩ := hS.map hbr
        rw [hp'] at hq; cases hq
        have hck := checkKey_ok w hk hK false hok
        cases hfe : findE ag ks ((ao k).ev e) es 0 with
        | none => rw [hfe] at hf; cases hf
        | some fr =>
          obtain ⟨r', hf1, hf2⟩ := findKey_ok (P := P) w hk hK hrel hfe
          rw [hfe] at hf
          simp only [Option.map_some, Option.some.injEq] at hf
          cases fr with
          | none =>
            simp only [Prod.mk.injEq] at hf
            obtain ⟨rfl, rfl, rfl⟩ := hf
            rcases hcase with ⟨_, rfl, rfl⟩ | ⟨r, hx'', _⟩
            · have : r' = none := by cases r' with | none => rfl | some _ => exact hf2.elim
              subst this
              obtain ⟨w', h1, h2, h3⟩ := hS.putMap hbr hp' (es2 := es ++ [⟨(ao k).ev e, (ao x).ev e, cl⟩]) (es2' := es'.push ⟨a.eval k, a.eval x, cl⟩) (c2 := cl + 1) (by rw [Array.toList_push]; exact hrel.push ⟨hK, hX, rfl⟩)
              refine ⟨_, _, w', ι, hrun _ ?_, .inr ⟨rfl, rfl⟩, .undef _, h2, h3⟩
              simp [Instr.mapUpdate, run_underlying hu, hv, getObj_of hheap, hck, hf1, h1]
            · cases hx''
          | some iv =>
            obtain ⟨i, u⟩ := iv
            simp only [Prod.mk.injEq] at hf
            obtain ⟨rfl, rfl, rfl⟩ := hf
            rcases hcase with ⟨_, rfl, rfl⟩ | ⟨r, hx'', _⟩
            · cases r' with
              | none => exact hf2.elim
              | some jv =>
                obtain ⟨j, U⟩ := jv
                obtain ⟨rfl, hU⟩ := hf2
                obtain ⟨ent, _, hent, heq, _⟩ := findE_found es 0 i u hfe
                rw [Nat.sub_zero] at hent
                obtain ⟨ent', hent', hr1, hr2, hr3⟩ := hrel.get hent
                rw [Array.getElem?_toList] at hent'
                have hstay := stays_ok (P := P) w hK hr1 heq
                obtain ⟨w', h1, h2, h3⟩ := hS.putMap hbr hp' (es2 := es.modify i fun x_1 => { x_1 with key := (ao k).ev e, val := (ao x).ev e }) (es2' := es'.modify i fun e_1 => { e_1 with key := a.eval k, val := a.eval x }) (c2 := cl)
                  (by rw [Array.toList_modify]; exact hrel.modify i fun x y hxy => ⟨hK, hX, hxy.2.2⟩)
                refine ⟨_, _, w', ι, hrun _ ?_, .inr ⟨rfl, rfl⟩, .undef _, h2, h3⟩
                simp [Instr.mapUpdate, run_underlying hu, hv, getObj_of hheap, hck, hf1, hent', hstay, h1]
            · cases hx''
      · cases hf
    · cases hf
  · rw [Loc.run_no] at hr; cases hr
theorem sim_ment {o : Oper} (t kt et : TypeId) (m k : Operand) (ag : Bool) (ks : List Leaf) (z : AV) (ho : o.op = .mapEntry t m k) (hu : P.underlying t = some (.map kt et)) (hk : keyKind P kt = some (ag, ks)) (hz : zeroA P et = some z) :
    OpSim P base o (.ment ag ks z (ao m) (ao k)) := by
  intro ι e h w a aid v h' fp hS hbw hE hn hr
  have hm := ao_rel hE m
  have hK := ao_rel hE k
  obtain ⟨zv, hz1, hz2⟩ := zeroA_rel hz
  simp only [opLoc] at hr
  split at hr
  · rename_i r hp
    rw [hp] at hm
    obtain ⟨bs, v0, ups, nw, hg, hf, hcase⟩ := Loc.run_inv hr
    obtain ⟨blk, hbr, rfl⟩ := getAll_one hg
    simp only at hf
    split at hf
    · rename_i es cl heq
      simp only [List.cons.injEq, and_true] at heq; subst heq
      split at hf
      · rename_i hok
        obtain ⟨p, hp', hv⟩ := rel_map hm
        obtain ⟨q, es', hq, hheap, hrel⟩ := hS.map hbr
        rw [hp'] at hq; cases hq
        have hck := checkKey_ok w hk hK false hok
        cases hfe : findE ag ks ((ao k).ev e) es 0 with
        | none => rw [hfe] at hf; cases hf
        | some fr =>
          obtain ⟨r', hf1, hf2⟩ := findKey_ok (P := P) w hk hK hrel hfe
          rw [hfe] at hf
          simp only [Option.map_some, Option.some.injEq] at hf
          cases fr with
          | none =>
            simp only [Prod.mk.injEq] at hf
            obtain ⟨rfl, rfl, rfl⟩ := hf
            rcases hcase with ⟨_, rfl, rfl⟩ | ⟨r, hx'', _⟩
            · have : r' = none := by cases r' with | none => rfl | some _ => exact hf2.elim
              subst this
              obtain ⟨w', h1, h2, h3⟩ := hS.putMap hbr hp' (es2 := es ++ [⟨(ao k).ev e, z, cl⟩]) (es2' := es'.push ⟨a.eval k, zv, cl⟩) (c2 := cl + 1) (by rw [Array.toList_push]; exact hrel.push ⟨hK, hz2 ι, rfl⟩)
              refine ⟨.value (.tuple #[zv, .int .i64 cl]), _, w', ι, ?_, .inl rfl, RelL.tup (.cons (hz2 ι) (.cons (.int _ _) .nil)), h2, h3⟩
              simp [execOp, ho, Instr.mapEntry, run_underlying hu, hv, getObj_of hheap, hck, hf1, hz1, h1, goInt]
            · cases hx''
          | some iv =>
            obtain ⟨i, u⟩ := iv
            simp only [Prod.mk.injEq] at hf
            obtain ⟨rfl, rfl, rfl⟩ := hf
            rcases hcase with ⟨_, rfl, rfl⟩ | ⟨r, hx'', _⟩
            · cases r' with
              | none => exact hf2.elim
              | some jv =>
                obtain ⟨j, U⟩ := jv
                obtain ⟨rfl, hU⟩ := hf2
                obtain ⟨ent, _, hent, heq, _⟩ := findE_found es 0 i u hfe
                rw [Nat.sub_zero] at hent
                obtain ⟨ent', hent', hr1, hr2, hr3⟩ := hrel.get hent
                rw [Array.getElem?_toList] at hent'
                have hstay := stays_ok (P := P) w hK hr1 heq
                obtain ⟨w', h1, h2, h3⟩ := hS.putMap hbr hp' (es2 := es.modify i fun x_1 => { x_1 with key := (ao k).ev e }) (es2' := es'.modify i fun e_1 => { e_1 with key := a.eval k }) (c2 := cl)
                  (by rw [Array.toList_modify]; exact hrel.modify i fun x y hxy => ⟨hK, hxy.2.1, hxy.2.2⟩)
                refine ⟨.value (.tuple #[U, .int .i64 ent'.born]), _, w', ι, ?_, .inl rfl, ?_, h2, h3⟩
                · simp [execOp, ho, Instr.mapEntry, run_underlying hu, hv, getObj_of hheap, hck, hf1, hent', hstay, h1, goInt]
                · rw [hent]
                  simp only [Option.map_some, Option.getD_some, hr3]
                  exact RelL.tup (.cons hU (.cons (.int _ _) .nil))
            · cases hx''
      · cases hf
    · cases hf
  · rw [Loc.run_no] at hr; cases hr
theorem findIdx_rel {ι : Io} (b : Int) : ∀ (es : List AEnt) (es' : List MapEntry), RelEs ι es es' → es.findIdx? (fun x => decide ((x.born : Int) = b)) = es'.findIdx? (fun e => (e.born : Int) == b)
  | [], [], _ => rfl
  | [], _ :: _, hr => by have := hr.1; simp at this
  | _ :: _, [], hr => by have := hr.1; simp at this
  | x :: es, y :: es', hr => by
    obtain ⟨_, _, h3⟩ := hr.head
    rw [List.findIdx?_cons, List.findIdx?_cons, findIdx_rel b es es' hr.tail, h3]
    by_cases e : (y.born : Int) = b <;> simp [e]
theorem sim_mest {o : Oper} (t : TypeId) (m s x : Operand) (ho : o.op = .entryStore t m s x) : OpSim P base o (.mest (ao m) (ao s) (ao x)) := by
  intro ι e h w a aid v h' fp hS hbw hE hn hr
  have hm := ao_rel hE m
  have hs := ao_rel hE s
  have hX := ao_rel hE x
  simp only [opLoc] at hr
  split at hr
  · rename_i r q b hp hq
    rw [hp] at hm
    rw [hq] at hs
    obtain ⟨bs, v0, ups, nw, hg, hf, hcase⟩ := Loc.run_inv hr
    obtain ⟨blk, hbr, rfl⟩ := getAll_one hg
    simp only at hf
    split at hf
    · rename_i es cl heq
      simp only [List.cons.injEq, and_true] at heq; subst heq
      split at hf
      · rename_i i hi
        simp only [Option.some.injEq, Prod.mk.injEq] at hf
        obtain ⟨rfl, rfl, rfl⟩ := hf
        rcases hcase with ⟨_, rfl, rfl⟩ | ⟨r, hx'', _⟩
        · obtain ⟨p, hp', hv⟩ := rel_map hm
          obtain ⟨q, es', hq, hheap, hrel⟩ := hS.map hbr
          rw [hp'] at hq; cases hq
          rw [findIdx_rel b es es'.toList hrel] at hi
          have hi' : es'.findIdx? (fun e => (e.born : Int) == b) = some i := by
            rw [← hi, ← List.findIdx?_toArray]
          obtain ⟨w', h1, h2, h3⟩ := hS.putMap hbr hp' (es2 := es.modify i fun x_1 => { x_1 with val := (ao x).ev e }) (es2' := es'.modify i fun e_1 => { e_1 with val := a.eval x }) (c2 := cl)
            (by rw [Array.toList_modify]; exact hrel.modify i fun x y hxy => ⟨hxy.1, hX, hxy.2.2⟩)
          refine ⟨.skip, undef, w', ι, ?_, .inr ⟨rfl, rfl⟩, .undef _, h2, h3⟩
          simp only [execOp, ho, Sem.run_bind, Instr.entryStore, hv, getObj_of hheap, Result.andThen_ok, rel_int hs, asInt, asIntOf, Sem.run_pure, hi', h1]
        · cases hx''
      · cases hf
    · cases hf
  · rw [Loc.run_no] at hr; cases hr
theorem sim_del {o : Oper} (c : Call) (t kt et : TypeId) (m k : Operand) (ag : Bool) (ks : List Leaf) (ho : o.op = .call c) (hb : c.callee = .builtin .delete) (ha : c.args.toList = [m, k]) (h0 : c.argTypes[0]? = some t)
    (hu : P.underlying t = some (.map kt et)) (hk : keyKind P kt = some (ag, ks)) : OpSim P base o (.del ag ks (ao m) (ao k)) := by
  intro ι e h w a aid v h' fp hS hbw hE hn hr
  have hm := ao_rel hE m
  have hK := ao_rel hE k
  have tup : RelV ι (.tup []) (.tuple #[]) := .tup rfl (by simp)
  have hrun : ∀ W v W', (Builtin.delete_ c.argTypes o.type #[a.eval m, a.eval k]).run P W = .ok v W' → (execOp a.eval o).run P W = .ok (.value v) W' := by
    intro W v W' hW
    obtain ⟨cs, he⟩ := run_builtin ho hb a.eval
    rw [he, args_two ha]
    simp [builtin, hW]
  simp only [opLoc] at hr
  split at hr
  · rename_i hp
    rw [hp] at hm
    rw [Loc.run_val] at hr
    split at hr
    · rename_i hok
      simp only [Option.map_some, Option.some.injEq, Prod.mk.injEq] at hr
      obtain ⟨rfl, rfl, _⟩ := hr
      have hck := checkKey_ok w hk hK true hok
      refine ⟨_, _, w, ι, hrun _ (.tuple #[]) _ ?_, .inl rfl, tup, hS, .refl _ _ _⟩
      simp [Builtin.delete_, h0, run_underlying hu, rel_mapN hm, hck]
    · cases hr
  · rename_i r hp
    rw [hp] at hm
    obtain ⟨bs, v0, ups, nw, hg, hf, hcase⟩ := Loc.run_inv hr
    obtain ⟨blk, hbr, rfl⟩ := getAll_one hg
    simp only at hf
    split at hf
    · rename_i es cl heq
      simp only [List.cons.injEq, and_true] at heq; subst heq
      split at hf
      · rename_i hok
        obtain ⟨p, hp', hv⟩ := rel_map hm
        obtain ⟨q, es', hq, hheap, hrel⟩ := hS.map hbr
        rw [hp'] at hq; cases hq
        have hck := checkKey_ok w hk hK es'.isEmpty hok
        cases hfe : findE ag ks ((ao k).ev e) es 0 with
        | none => rw [hfe] at hf; cases hf
        | some fr =>
          obtain ⟨r', hf1, hf2⟩ := findKey_ok (P := P) w hk hK hrel hfe
          rw [hfe] at hf
          simp only [Option.map_some, Option.some.injEq] at hf
          cases fr with
          | none =>
            simp only [Prod.mk.injEq] at hf
            obtain ⟨rfl, rfl, rfl⟩ := hf
            rcases hcase with ⟨_, rfl, rfl⟩ | ⟨r, hx'', _⟩
            · have : r' = none := by cases r' with | none => rfl | some _ => exact hf2.elim
              subst this
              obtain ⟨w', h1, h2, h3⟩ := hS.putMap hbr hp' (es2 := es) (es2' := es') (c2 := cl) hrel
              refine ⟨_, _, w', ι, hrun _ (.tuple #[]) _ ?_, .inl rfl, tup, h2, h3⟩
              simp [Builtin.delete_, h0, run_underlying hu, hv, getObj_of hheap, hck, hf1, h1]
            · cases hx''
          | some iv =>
            obtain ⟨i, u⟩ := iv
            simp only [Prod.mk.injEq] at hf
            obtain ⟨rfl, rfl, rfl⟩ := hf
            rcases hcase with ⟨_, rfl, rfl⟩ | ⟨r, hx'', _⟩
            · cases r' with
              | none => exact hf2.elim
              | some jv =>
                obtain ⟨j, U⟩ := jv
                obtain ⟨rfl, hU⟩ := hf2
                obtain ⟨w', h1, h2, h3⟩ := hS.putMap hbr hp' (es2 := es.eraseIdx i) (es2' := es'.eraseIdxIfInBounds i) (c2 := cl) (by rw [Array.toList_eraseIdxIfInBounds]; exact hrel.erase i)
                refine ⟨_, _, w', ι, hrun _ (.tuple #[]) _ ?_, .inl rfl, tup, h2, h3⟩
                simp [Builtin.delete_, h0, run_underlying hu, hv, getObj_of hheap, hck, hf1, h1]
            · cases hx''
      · cases hf
    · cases hf
  · rw [Loc.run_no] at hr; cases hr
theorem sim_clrM {o : Oper} (c : Call) (t kt et : TypeId) (x : Operand) (ho : o.op = .call c) (hb : c.callee = .builtin .clear) (ha : c.args.toList = [x]) (h0 : c.argTypes[0]? = some t)
    (ht : P.underlying t = some (.map kt et)) : OpSim P base o (.clrM (ao x)) := by
  intro ι e h w a aid v h' fp hS hbw hE hn hr
  have hx := ao_rel hE x
  have tup : RelV ι (.tup []) (.tuple #[]) := .tup rfl (by simp)
  have hrun : ∀ W v W', (Builtin.clear_ c.argTypes o.type #[a.eval x]).run P W = .ok v W' → (execOp a.eval o).run P W = .ok (.value v) W' := by
    intro W v W' hW
    obtain ⟨cs, he⟩ := run_builtin ho hb a.eval
    rw [he, args_one ha]
    simp [builtin, hW]
  simp only [opLoc] at hr
  split at hr
  · rename_i hp
    rw [hp] at hx
    rw [Loc.run_val] at hr
    simp only [Option.map_some, Option.some.injEq, Prod.mk.injEq] at hr
    obtain ⟨rfl, rfl, _⟩ := hr
    refine ⟨_, _, w, ι, hrun _ (.tuple #[]) _ ?_, .inl rfl, tup, hS, .refl _ _ _⟩
    simp [Builtin.clear_, h0, run_underlying ht, rel_mapN hx]
  · rename_i r hp
    rw [hp] at hx
    obtain ⟨bs, v0, ups, nw, hg, hf, hcase⟩ := Loc.run_inv hr
    obtain ⟨blk, hbr, rfl⟩ := getAll_one hg
    simp only at hf
    split at hf
    · rename_i es cl heq
      simp only [List.cons.injEq, and_true] at heq; subst heq
      simp only [Option.some.injEq, Prod.mk.injEq] at hf
      obtain ⟨rfl, rfl, rfl⟩ := hf
      rcases hcase with ⟨_, rfl, rfl⟩ | ⟨r, hx'', _⟩
      · obtain ⟨p, hp', hv⟩ := rel_map hx
        obtain ⟨q, es', hq, hheap, hrel⟩ := hS.map hbr
        rw [hp'] at hq; cases hq
        obtain ⟨w', h1, h2, h3⟩ := hS.putMap hbr hp' (es2 := []) (es2' := #[]) (c2 := cl) .nil
        refine ⟨_, _, w', ι, hrun _ (.tuple #[]) _ ?_, .inl rfl, tup, h2, h3⟩
        simp [Builtin.clear_, h0, run_underlying ht, hv, getObj_of hheap, h1]
      · cases hx''
    · cases hf
  · rw [Loc.run_no] at hr; cases hr
theorem sim_rangeM {o : Oper} (t kt et : TypeId) (x : Operand) (ho : o.op = .range t x) (ht : P.underlying t = some (.map kt et)) : OpSim P base o (.rangeM (ao x)) := by
  intro ι e h w a aid v h' fp hS hbw hE hn hr
  have hx := ao_rel hE x
  simp only [opLoc] at hr
  have ptr : ∀ (ι' : Io) (q : Pl), q.B = w.heap.size → q.O = 0 → ι' aid = some q → RelV ι' (.ptr (some (aid, 0))) (.pointer (some ⟨w.heap.size, 0, none⟩)) := by
    intro ι' q h1 h2 h3
    have := RelV.ptr (o := 0) h3
    rw [h1, h2] at this
    exact this
  split at hr
  · rename_i hp
    rw [hp] at hx
    obtain ⟨bs, v0, ups, nw, hg, hf, hcase⟩ := Loc.run_inv hr
    simp only [Option.some.injEq, Prod.mk.injEq] at hf
    obtain ⟨rfl, rfl, rfl⟩ := hf
    rcases hcase with ⟨hx', _⟩ | ⟨y, hx', rfl, rfl⟩
    · cases hx'
    · simp only [Option.some.injEq] at hx'; subst hx'
      have := hS.fresh hbw hn (.mapIter none 0 #[] 0) ⟨w.heap.size, 0, 0⟩ rfl (x := .iter none 0 [] 0) ⟨hbw, rfl, none, heap_alloc_at _ _, trivial⟩
      refine ⟨.value (.pointer (some ⟨w.heap.size, 0, none⟩)), _, _, _, ?_, .inl rfl, ptr _ ⟨w.heap.size, 0, 0⟩ rfl rfl (Io.put_same _ _ _), this.1, this.2⟩
      simp only [execOp, ho, Sem.run_bind, Instr.range, run_underlying ht, Result.andThen_ok, rel_mapN hx, Sem.run_pure]
      rfl
  · rename_i r hp
    rw [hp] at hx
    obtain ⟨bs, v0, ups, nw, hg, hf, hcase⟩ := Loc.run_inv hr
    obtain ⟨blk, hbr, rfl⟩ := getAll_one hg
    simp only at hf
    split at hf
    · rename_i es cl heq
      simp only [List.cons.injEq, and_true] at heq; subst heq
      simp only [Option.some.injEq, Prod.mk.injEq] at hf
      obtain ⟨rfl, rfl, rfl⟩ := hf
      rcases hcase with ⟨hx', _⟩ | ⟨y, hx', rfl, rfl⟩
      · cases hx'
      · simp only [Option.some.injEq] at hx'; subst hx'
        obtain ⟨p, hp', hv⟩ := rel_map hx
        obtain ⟨q, es', hq, hheap, hrel⟩ := hS.map hbr
        rw [hp'] at hq; cases hq
        have := hS.fresh hbw hn (.mapIter (some p.B) cl #[] cl) ⟨w.heap.size, 0, 0⟩ rfl (x := .iter (some r) cl [] cl)
          ⟨hbw, rfl, some p.B, heap_alloc_at _ _, p, (Ext.put _ (hS.unused aid hn)) _ _ hp', rfl⟩
        refine ⟨.value (.pointer (some ⟨w.heap.size, 0, none⟩)), _, _, _, ?_, .inl rfl, ptr _ ⟨w.heap.size, 0, 0⟩ rfl rfl (Io.put_same _ _ _), this.1, this.2⟩
        simp only [execOp, ho, Sem.run_bind, Instr.range, run_underlying ht, Result.andThen_ok, hv, getObj_of hheap, Sem.run_pure]
        rfl
    · cases hf
  · rw [Loc.run_no] at hr; cases hr
end Go.Ax
end
section
namespace Go.Ax
variable {P : Program} {base : Nat}
theorem sim_call {o : Oper} (f : AO) (l : List AO) : OpSim P base o (.call f l) := by
  intro ι e h w a aid v h' fp hS _ hE _ hr
  simp [opLoc, Loc.run_no] at hr
theorem sim_next {o : Oper} (b : Bool) (x : AO) : OpSim P base o (.next b x) := by
  intro ι e h w a aid v h' fp hS _ hE _ hr
  simp [opLoc, Loc.run_no] at hr
theorem bind_some {c : Call} {u : TypeDesc} (h : (c.argTypes[0]?).bind P.underlying = some u) : ∃ t, c.argTypes[0]? = some t ∧ P.underlying t = some u := by
  cases ht : c.argTypes[0]? with
  | none => rw [ht] at h; cases h
  | some t => rw [ht] at h; exact ⟨t, rfl, h⟩
theorem bind_some1 {c : Call} {u : TypeDesc} (h : (c.argTypes[1]?).bind P.underlying = some u) : ∃ t, c.argTypes[1]? = some t ∧ P.underlying t = some u := by
  cases ht : c.argTypes[1]? with
  | none => rw [ht] at h; cases h
  | some t => rw [ht] at h; exact ⟨t, rfl, h⟩
theorem call_sim (o : Oper) (c : Call) (ho : o.op = .call c) : OpSim P base o (callOp P c) := by
  unfold callOp
  split
  · exact sim_call _ _
  · exact sim_bad
  · rename_i b hb
    simp only
    split
    · rename_i x ha
      split
      · rename_i hu; obtain ⟨t, h0, h1⟩ := bind_some hu; exact sim_lenS c t x ho hb ha h0 h1
      · rename_i hu; obtain ⟨t, h0, h1⟩ := bind_some hu; exact sim_len c t _ x ho hb ha h0 h1
      · rename_i hu; obtain ⟨t, h0, h1⟩ := bind_some hu; exact sim_lenM c t _ _ x ho hb ha h0 h1
      · rename_i hu; obtain ⟨t, h0, h1⟩ := bind_some hu; exact sim_lenC c t _ _ x ho hb ha h0 h1
      · exact sim_bad
    · rename_i s x ha
      split
      · rename_i el hu
        obtain ⟨t, h0, h1⟩ := bind_some hu
        split
        · rename_i i hi
          split
          · rename_i hu2
            obtain ⟨tx, h2, h3⟩ := bind_some1 hu2
            split
            · rename_i z hz
              split
              · rename_i hc
                exact sim_app c t tx el _ i z s x ho hb ha h0 h2 h1 h3 hi hz hc
              · exact sim_bad
            · exact sim_bad
          · exact sim_bad
        · exact sim_bad
      · exact sim_bad
    · rename_i d x ha
      split
      · rename_i el elx hu hu2
        obtain ⟨t, h0, h1⟩ := bind_some hu
        obtain ⟨tx, h2, h3⟩ := bind_some1 hu2
        split
        · rename_i n hs; exact sim_copy c t tx el elx n d x ho hb ha h0 h1 h3 hs
        · exact sim_bad
      · exact sim_bad
    · rename_i x ha
      split
      · rename_i el hu
        obtain ⟨t, h0, h1⟩ := bind_some hu
        split
        · rename_i z n hz hs
          split
          · rename_i hc; exact sim_clrS c t el n z x ho hb ha h0 h1 hz hs hc
          · exact sim_bad
        · exact sim_bad
      · rename_i hu; obtain ⟨t, h0, h1⟩ := bind_some hu; exact sim_clrM c t _ _ x ho hb ha h0 h1
      · exact sim_bad
    · rename_i m k ha
      split
      · rename_i kt et hu
        obtain ⟨t, h0, h1⟩ := bind_some hu
        split
        · rename_i ag l hk; exact sim_del c t kt et m k ag l ho hb ha h0 h1 hk
        · exact sim_bad
      · exact sim_bad
    · exact sim_mnx false c ho hb
    · exact sim_mnx true c ho hb
    · exact sim_bad
theorem eqop_sim {o : Oper} (neg : Bool) (t t' : TypeId) (x y : Operand) (ho : o.op = .binOp (if neg then .neq else .eql) t x y t') : OpSim P base o (eqOp P neg t (ao x) (ao y)) := by
  unfold eqOp
  split
  · have := sim_bin (P := P) (base := base) _ t t' x y ho; cases neg <;> exact this
  · have := sim_bin (P := P) (base := base) _ t t' x y ho; cases neg <;> exact this
  · rename_i hu; exact sim_eqf neg false [.bool] t t' x y ho (.inr ⟨rfl, rfl, hu⟩)
  · rename_i fs hu
    split
    · rename_i l hl
      split
      · exact sim_bad
      · rename_i hg
        have hag : ∃ a, agn P t = some a ∧ a.isSome = true := by
          have : leaves P (7 + 1) t = some l := hl
          simp only [leaves, hu] at this
          cases hs : sz P t with
          | none =>
            obtain ⟨i, hi⟩ : ∃ i, P.info? t = some i := by
              unfold Program.underlying at hu
              split at hu <;> first | exact ⟨_, by assumption⟩ | cases hu
            simp [sz, hi] at hs
          | some n => exact ⟨some n, by simp [agn, hu, hs], rfl⟩
        exact sim_eqf neg true l t t' x y ho (.inl ⟨rfl, hl, by simpa using hg, hag⟩)
    · exact sim_bad
  · rename_i n e hu
    split
    · rename_i l hl
      split
      · exact sim_bad
      · rename_i hg
        have hag : ∃ a, agn P t = some a ∧ a.isSome = true := by
          cases hs : sz P t with
          | none =>
            obtain ⟨i, hi⟩ : ∃ i, P.info? t = some i := by
              unfold Program.underlying at hu
              split at hu <;> first | exact ⟨_, by assumption⟩ | cases hu
            simp [sz, hi] at hs
          | some n => exact ⟨some n, by simp [agn, hu, hs], rfl⟩
        exact sim_eqf neg true l t t' x y ho (.inl ⟨rfl, hl, by simpa using hg, hag⟩)
    · exact sim_bad
  · rename_i el hu
    split
    · exact sim_eqp neg t t' el x y ho hu
    · exact sim_bad
  · rename_i el hu; exact sim_eqn neg 0 t t' x y ho (.inl ⟨rfl, el, hu⟩)
  · rename_i k el hu; exact sim_eqn neg 1 t t' x y ho (.inr (.inl ⟨rfl, k, el, hu⟩))
  · rename_i ps rs v hu; exact sim_eqn neg 2 t t' x y ho (.inr (.inr ⟨rfl, ps, rs, v, hu⟩))
  · exact sim_bad
theorem op_sim (o : Oper) : OpSim P base o (compOp P o) := by
  unfold compOp
  split
  · rename_i x ho; exact sim_mv x (.inl ho)
  · rename_i x ho; exact sim_mv x (.inr ho)
  · rename_i c x y ho; exact sim_pick c x y ho
  · rename_i t ho
    split
    · rename_i z hz; exact sim_alloc t z ho hz
    · exact sim_bad
  · rename_i t x ho; exact sim_box t x ho
  · rename_i t ps ho
    split
    · rename_i z fs hz hu
      split
      · rename_i hall
        split
        · rename_i l hl; exact sim_build t ps z _ l ho hz hl (.inl ⟨fs, hu, hall, rfl⟩)
        · exact sim_bad
      · exact sim_bad
    · rename_i z k e hz hu
      split
      · rename_i n hs
        split
        · rename_i l hl; exact sim_build t ps z _ l ho hz hl (.inr ⟨k, e, n, hu, hs, rfl⟩)
        · exact sim_bad
      · exact sim_bad
    · exact sim_bad
  · rename_i t len ps ho
    split
    · rename_i e hu
      split
      · rename_i z n hz hs
        split
        · rename_i hc
          split
          · rename_i l hl; exact sim_bslice t e len n ps z l ho hu hz hs hc hl
          · exact sim_bad
        · exact sim_bad
      · exact sim_bad
    · exact sim_bad
  · rename_i t x ho
    split
    · rename_i n ha; exact sim_load t x n ho ha
    · exact sim_bad
  · rename_i t x y ho
    split
    · rename_i n hs; exact sim_store t x y n ho hs
    · exact sim_bad
  · rename_i x ho; exact sim_nilchk x ho
  · rename_i op t x y t' ho
    split
    · exact eqop_sim false t t' x y ho
    · exact eqop_sim true t t' x y ho
    · exact sim_bin _ t t' x y ho
  · rename_i op t x ho; exact sim_un op t x ho
  · rename_i s d x ho
    split
    · rename_i k0 k hs hd; exact sim_conv s d k k0 x ho hs hd
    · rename_i hs hd; exact sim_convS s d x ho hs hd
    · exact sim_bad
  · rename_i g first caps ho; exact sim_mkfn g first caps ho
  · rename_i t x ho
    split
    · exact sim_bad
    · rename_i d hn hu
      exact sim_mkif t d x ho hu (by cases d <;> first | rfl | exact (hn _ rfl).elim)
    · exact sim_bad
  · rename_i t ho; exact sim_mkmap t ho
  · rename_i t l c ho
    split
    · rename_i e hu
      split
      · rename_i i z hi hz
        split
        · rename_i hc; exact sim_mkslc t e i z l c ho hu hi hz hc
        · exact sim_bad
      · exact sim_bad
    · exact sim_bad
  · rename_i t x lo hi mx ho
    split
    · rename_i hu
      split
      · exact sim_slcS t x lo hi ho hu
      · exact sim_bad
    · rename_i e hu
      split
      · rename_i n hs; exact sim_slc t e n x lo hi mx ho hu hs
      · exact sim_bad
    · rename_i k e hu
      split
      · rename_i n hs; exact sim_slcA t e k n x lo hi mx ho hu hs
      · exact sim_bad
    · exact sim_bad
  · rename_i t x i ho
    split
    · rename_i fs hu
      split
      · rename_i f hf
        split
        · rename_i n hs; exact sim_faddr t x i fs f n ho hu hf hs
        · exact sim_bad
      · exact sim_bad
    · exact sim_bad
  · rename_i t x i ho
    split
    · rename_i fs hu
      split
      · rename_i f hf
        split
        · rename_i n ha; exact sim_field t x i fs f n ho hu hf ha
        · exact sim_bad
      · exact sim_bad
    · exact sim_bad
  · rename_i t x i ho
    split
    · rename_i n e hu
      split
      · rename_i s hs; exact sim_iaddrA t e x i n s ho hu hs
      · exact sim_bad
    · rename_i e hu
      split
      · rename_i s hs; exact sim_iaddrS t e x i s ho hu hs
      · exact sim_bad
    · exact sim_bad
  · rename_i t x i ho
    split
    · rename_i n e hu
      split
      · rename_i s m hs ha; exact sim_idxA t e x i n s m ho hu hs ha
      · exact sim_bad
    · rename_i hu; exact sim_idxS t x i ho hu
    · exact sim_bad
  · rename_i t m k ok ho
    split
    · rename_i kt et hu
      split
      · rename_i ag l z hk hz; exact sim_look t kt et m k ok ag l z ho hu hk hz
      · exact sim_bad
    · exact sim_bad
  · rename_i t m k x ho
    split
    · rename_i kt et hu
      split
      · rename_i ag l hk; exact sim_mapup t kt et m k x ag l (.inl ho) hu hk
      · exact sim_bad
    · exact sim_bad
  · rename_i t m k x ho
    split
    · rename_i kt et hu
      split
      · rename_i ag l hk; exact sim_mapup t kt et m k x ag l (.inr ho) hu hk
      · exact sim_bad
    · exact sim_bad
  · rename_i t m k ho
    split
    · rename_i kt et hu
      split
      · rename_i ag l z hk hz; exact sim_ment t kt et m k ag l z ho hu hk hz
      · exact sim_bad
    · exact sim_bad
  · rename_i t m s x ho; exact sim_mest t m s x ho
  · rename_i t x ho
    split
    · rename_i kt et hu; exact sim_rangeM t kt et x ho hu
    · exact sim_bad
  · exact sim_next _ _
  · exact sim_next _ _
  · rename_i x i ho; exact sim_ext x i ho
  · rename_i c ho; exact call_sim o c ho
  · exact sim_bad
end Go.Ax
end
