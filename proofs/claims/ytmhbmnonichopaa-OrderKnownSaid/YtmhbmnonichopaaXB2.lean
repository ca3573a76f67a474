/-
  '==' of what is made of leaves, and keys of maps.
-/
import Derived.ChangeKeysEq
import Derived.WideKeyRuns
import Derived.Laws.StructEq
import Derived.Test.YtmhbmnonichopaaXB1
namespace Go.Ax

variable {P : Program}

theorem agn_isAgg {t : TypeId} {a : Option Nat} (h : agn P t = some a) (w : World) : (isAgg t).run P w = .ok a.isSome w := by
  unfold agn at h
  split at h
  · rename_i fs hu
    cases hs : sz P t with
    | none => simp [hs] at h
    | some n => simp [hs] at h; subst h; simp [isAgg, run_underlying hu]
  · rename_i n e hu
    cases hs : sz P t with
    | none => simp [hs] at h
    | some n => simp [hs] at h; subst h; simp [isAgg, run_underlying hu]
  · rename_i d h1 h2 hu
    simp at h; subst h
    cases d <;> simp [isAgg, run_underlying hu] <;> simp_all
  · cases h
theorem agn_some {t : TypeId} {n : Nat} (h : agn P t = some (some n)) : sz P t = some n := by
  unfold agn at h
  split at h
  · cases hs : sz P t with
    | none => simp [hs] at h
    | some m => simp [hs] at h; subst h; rfl
  · cases hs : sz P t with
    | none => simp [hs] at h
    | some m => simp [hs] at h; subst h; rfl
  · simp at h
  · cases h
theorem sz_run {t : TypeId} {n : Nat} (h : sz P t = some n) (w : World) : (sizeOf t).run P w = .ok n w := by
  unfold sz at h
  cases hi : P.info? t with
  | none => simp [hi] at h
  | some i => simp [hi] at h; subst h; simp [sizeOf, typeInfo, hi]
theorem sz_info {t : TypeId} {n : Nat} (h : sz P t = some n) : ∃ i, P.info? t = some i ∧ i.size = n := by
  unfold sz at h
  cases hi : P.info? t with
  | none => simp [hi] at h
  | some i => simp [hi] at h; exact ⟨i, rfl, h⟩
theorem sz_cellsOf {t : TypeId} {n : Nat} (h : sz P t = some n) : P.cellsOf t = n := by
  obtain ⟨i, hi, rfl⟩ := sz_info h
  simp [Program.cellsOf, hi]

def packV (a : Option Nat) (X : List Value) : Value := match a with
  | some _ => .agg X.toArray
  | none => X.headD undef

theorem run_part {t : TypeId} {a : Option Nat} {n : Nat} {X : List Value} {Z : Array Value} {off : Nat} (w : World) (ha : agn P t = some a) (hs : sz P t = some n) (hX : X.length = n) (h1 : a = none → n = 1)
    (hZ : (Z.toList.drop off).take n = X) : (part t Z off).run P w = .ok (packV a X) w := by
  unfold part
  simp only [Sem.run_bind, agn_isAgg ha, Result.andThen_ok]
  cases a with
  | some m =>
    simp only [Option.isSome_some, if_true, Sem.run_bind, sz_run hs, Result.andThen_ok, Sem.run_pure, packV]
    congr 2
    apply Array.ext'
    rw [Array.toList_extract, List.extract_eq_take_drop]
    simp only [Nat.add_sub_cancel_left]
    rw [hZ]
  | none =>
    obtain rfl := h1 rfl
    simp only [Option.isSome_none, Bool.false_eq_true, if_false]
    obtain ⟨x, rfl⟩ := List.length_eq_one_iff.1 hX
    have hx : Z[off]? = some x := by
      have := congrArg (fun l => l[0]?) hZ
      simpa using this
    simp [hx, packV]

theorem leafsEq_len : ∀ {ks : List Leaf} {xs ys : List AV} {b : Bool}, leafsEq ks xs ys = some b → xs.length = ks.length ∧ ys.length = ks.length
  | [], [], [], _, _ => ⟨rfl, rfl⟩
  | [], [], _ :: _, _, h => by simp [leafsEq] at h
  | [], _ :: _, _, _, h => by simp [leafsEq] at h
  | _ :: _, [], _, _, h => by simp [leafsEq] at h
  | _ :: _, _ :: _, [], _, h => by simp [leafsEq] at h
  | k :: ks, x :: xs, y :: ys, b, h => by
    simp only [leafsEq] at h
    split at h
    · rename_i b1 b2 _ h2
      have := leafsEq_len h2
      simp [this.1, this.2]
    · cases h
theorem leafsEq_split : ∀ {k1 k2 : List Leaf} {xs ys : List AV} {b : Bool}, leafsEq (k1 ++ k2) xs ys = some b →
    ∃ b1 b2, leafsEq k1 (xs.take k1.length) (ys.take k1.length) = some b1 ∧ leafsEq k2 (xs.drop k1.length) (ys.drop k1.length) = some b2 ∧ b = (b1 && b2)
  | [], k2, xs, ys, b, h => ⟨true, b, by simp [leafsEq], by simpa using h, by simp⟩
  | k :: k1, k2, xs, ys, b, h => by
    cases xs with
    | nil => simp [leafsEq] at h
    | cons x xs => cases ys with
      | nil => simp [leafsEq] at h
      | cons y ys =>
        simp only [List.cons_append, leafsEq] at h
        split at h
        · rename_i c1 c2 h1 h2
          obtain ⟨d1, d2, e1, e2, e3⟩ := leafsEq_split h2
          simp at h
          refine ⟨c1 && d1, d2, ?_, by simpa using e2, by rw [← h, e3, Bool.and_assoc]⟩
          simp [leafsEq, h1, e1]
        · cases h

def EqOk (P : Program) (D : Nat) (t : TypeId) (ks : List Leaf) : Prop :=
  ∀ (ι : Io) (w : World) (a : Option Nat) (xs ys : List AV) (X Y : List Value) (b : Bool), agn P t = some a → RelL ι xs X → RelL ι ys Y → leafsEq ks xs ys = some b →
    (Op.equalIn D t (packV a X) (packV a Y)).run P w = .ok b w
def CkOk (P : Program) (D : Nat) (t : TypeId) (ks : List Leaf) : Prop :=
  ∀ (ι : Io) (w : World) (em : Bool) (a : Option Nat) (xs : List AV) (X : List Value) (b : Bool), agn P t = some a → RelL ι xs X → leafsEq ks xs xs = some b → (Instr.checkKey em D t (packV a X)).run P w = .ok () w

theorem leaf_bool {ι : Io} {xs ys : List AV} {X Y : List Value} {b : Bool} (hx : RelL ι xs X) (hy : RelL ι ys Y) (h : leafsEq [.bool] xs ys = some b) :
    ∃ p q, X = [.bool p] ∧ Y = [.bool q] ∧ b = (p == q) := by
  obtain ⟨h1, h2⟩ := leafsEq_len h
  obtain ⟨x, rfl⟩ := List.length_eq_one_iff.1 h1
  obtain ⟨y, rfl⟩ := List.length_eq_one_iff.1 h2
  cases x <;> cases y <;> simp [leafsEq, leafEq] at h
  rename_i p q
  obtain ⟨v, rfl⟩ := List.length_eq_one_iff.1 (hx.1.symm.trans h1)
  obtain ⟨u, rfl⟩ := List.length_eq_one_iff.1 (hy.1.symm.trans h2)
  obtain rfl := rel_bool hx.head
  obtain rfl := rel_bool hy.head
  exact ⟨p, q, rfl, rfl, h.symm⟩
theorem leaf_int {ι : Io} {xs ys : List AV} {X Y : List Value} {b : Bool} (hx : RelL ι xs X) (hy : RelL ι ys Y) (h : leafsEq [.int] xs ys = some b) :
    ∃ k p q, X = [.int k p] ∧ Y = [.int k q] ∧ b = (p == q) := by
  obtain ⟨h1, h2⟩ := leafsEq_len h
  obtain ⟨x, rfl⟩ := List.length_eq_one_iff.1 h1
  obtain ⟨y, rfl⟩ := List.length_eq_one_iff.1 h2
  cases x <;> cases y <;> simp [leafsEq, leafEq] at h
  rename_i k p k' q
  obtain ⟨v, rfl⟩ := List.length_eq_one_iff.1 (hx.1.symm.trans h1)
  obtain ⟨u, rfl⟩ := List.length_eq_one_iff.1 (hy.1.symm.trans h2)
  obtain rfl := rel_int hx.head
  obtain rfl := rel_int hy.head
  by_cases e : k = k'
  · subst e; simp at h; exact ⟨k, p, q, rfl, rfl, h.symm⟩
  · simp [e] at h
theorem leaf_str {ι : Io} {xs ys : List AV} {X Y : List Value} {b : Bool} (hx : RelL ι xs X) (hy : RelL ι ys Y) (h : leafsEq [.str] xs ys = some b) :
    ∃ p q, X = [.string p] ∧ Y = [.string q] ∧ b = (p == q) := by
  obtain ⟨h1, h2⟩ := leafsEq_len h
  obtain ⟨x, rfl⟩ := List.length_eq_one_iff.1 h1
  obtain ⟨y, rfl⟩ := List.length_eq_one_iff.1 h2
  cases x <;> cases y <;> simp [leafsEq, leafEq] at h
  rename_i p q
  obtain ⟨v, rfl⟩ := List.length_eq_one_iff.1 (hx.1.symm.trans h1)
  obtain ⟨u, rfl⟩ := List.length_eq_one_iff.1 (hy.1.symm.trans h2)
  obtain rfl := rel_str hx.head
  obtain rfl := rel_str hy.head
  exact ⟨p, q, rfl, rfl, h.symm⟩

theorem agn_of_und {t : TypeId} {d : TypeDesc} {a : Option Nat} (hu : P.underlying t = some d) (hd : (match d with | .struct _ | .array _ _ => false | _ => true) = true) (h : agn P t = some a) : a = none := by
  unfold agn at h
  rw [hu] at h
  cases d <;> simp at hd h <;> exact h.symm
theorem agn_of_agg {t : TypeId} {d : TypeDesc} {a : Option Nat} (hu : P.underlying t = some d) (hd : (match d with | .struct _ | .array _ _ => true | _ => false) = true) (h : agn P t = some a) : ∃ n, a = some n := by
  unfold agn at h
  rw [hu] at h
  cases d <;> simp at hd h <;> (cases hs : sz P t <;> simp [hs] at h; exact ⟨_, h.symm⟩)

theorem agn_isSome {t : TypeId} {n : Nat} (hu : (P.underlying t).isSome = true) (hs : sz P t = some n) : ∃ a, agn P t = some a := by
  unfold agn
  cases h : P.underlying t with
  | none => simp [h] at hu
  | some d => cases d <;> simp [hs]
theorem leaves_und {d : Nat} {t : TypeId} {ks : List Leaf} (h : leaves P d t = some ks) : (P.underlying t).isSome = true := by
  cases d with
  | zero => simp [leaves] at h
  | succ d =>
    simp only [leaves] at h
    cases hu : P.underlying t with
    | none => simp [hu] at h
    | some _ => rfl

/-- a struct's fields, one by one -/
theorem eqFields_ok {D : Nat} {lv : TypeId → Option (List Leaf)} (ih : ∀ t ks, lv t = some ks → EqOk P D t ks) (hu : ∀ t ks, lv t = some ks → (P.underlying t).isSome = true)
    (ι : Io) (w : World) (xs ys : List AV) (X Y : Array Value)
    (hx : RelL ι xs X.toList) (hy : RelL ι ys Y.toList) : ∀ (fs : List Field) (off : Nat) (ks : List Leaf) (b : Bool), leavesF P lv fs off = some ks →
    leafsEq ks ((xs.drop off).take ks.length) ((ys.drop off).take ks.length) = some b → (Op.eqFields D X Y fs).run P w = .ok b w
  | [], off, ks, b, hl, hb => by
    simp [leavesF] at hl; subst hl
    simp [leafsEq] at hb; subst hb
    simp [Op.eqFields]
  | f :: fs, off, ks, b, hl, hb => by
    simp only [leavesF] at hl
    split at hl
    · rename_i k1 k2 h1 h2
      split at hl
      · rename_i hc
        obtain ⟨hn, ho, hs, h1'⟩ := hc
        simp only [Option.some.injEq] at hl; subst hl
        rw [hs] at h2
        simp only [Option.getD_some] at h2
        obtain ⟨b1, b2, e1, e2, rfl⟩ := leafsEq_split hb
        simp only [List.length_append] at e1 e2
        rw [List.take_take, List.take_take, Nat.min_eq_left (by omega)] at e1
        rw [List.drop_take, List.drop_take, List.drop_drop, List.drop_drop, Nat.add_sub_cancel_left] at e2
        obtain ⟨a, ha⟩ := agn_isSome (hu _ _ h1) hs
        have hx1 := (hx.drop off).take k1.length
        have hy1 := (hy.drop off).take k1.length
        obtain ⟨l1, l2⟩ := leafsEq_len e1
        have h1'' : a = none → k1.length = 1 := fun e => h1' (by rw [ha, e])
        have p1 := run_part (P := P) (Z := X) (off := off) w ha hs (by rw [← hx1.1]; exact l1) h1'' rfl
        have p2 := run_part (P := P) (Z := Y) (off := off) w ha hs (by rw [← hy1.1]; exact l2) h1'' rfl
        have e3 := ih _ _ h1 ι w a _ _ _ _ b1 ha hx1 hy1 e1
        have e4 := eqFields_ok ih hu ι w xs ys X Y hx hy fs (off + k1.length) k2 b2 h2 e2
        rw [Op.eqFields, if_pos hn]
        simp only [Sem.run_bind, ho, p1, p2, e3, Result.andThen_ok]
        cases b1
        · simp
        · simpa using e4
      · cases hl
    · cases hl

theorem flat_drop {α : Type} (l : List α) (n : Nat) : ∀ i, ((List.replicate n l).flatten).drop (i * l.length) = (List.replicate (n - i) l).flatten := by
  induction n with
  | zero => intro i; simp
  | succ n ih =>
    intro i
    cases i with
    | zero => simp
    | succ i =>
      rw [List.replicate_succ, List.flatten_cons, Nat.succ_mul, Nat.add_comm (i * l.length), ← List.drop_drop, List.drop_left, ih i]
      congr 2
      omega

theorem eqItems_ok {D : Nat} {e : TypeId} {ks : List Leaf} {a : Option Nat} (ih : EqOk P D e ks) (ha : agn P e = some a) (hs : sz P e = some ks.length) (h1 : a = none → ks.length = 1)
    (ι : Io) (w : World) (xs ys : List AV) (X Y : Array Value) (hx : RelL ι xs X.toList) (hy : RelL ι ys Y.toList) : ∀ (n i : Nat) (b : Bool),
    leafsEq ((List.replicate n ks).flatten) (xs.drop (i * ks.length)) (ys.drop (i * ks.length)) = some b → (Op.eqItems D e ks.length X Y (List.range' i n)).run P w = .ok b w
  | 0, i, b, hb => by
    simp only [List.replicate_zero, List.flatten_nil] at hb
    have := leafsEq_len hb
    have hb' : b = true := by
      cases h1 : xs.drop (i * ks.length) with
      | nil => cases h2 : ys.drop (i * ks.length) with
        | nil => rw [h1, h2] at hb; simpa [leafsEq] using hb.symm
        | cons _ _ => rw [h2] at this; simp at this
      | cons _ _ => rw [h1] at this; simp at this
    subst hb'
    simp [Op.eqItems]
  | n + 1, i, b, hb => by
    rw [List.replicate_succ, List.flatten_cons] at hb
    obtain ⟨b1, b2, e1, e2, rfl⟩ := leafsEq_split hb
    rw [List.drop_drop, List.drop_drop] at e2
    have hx1 := (hx.drop (i * ks.length)).take ks.length
    have hy1 := (hy.drop (i * ks.length)).take ks.length
    obtain ⟨l1, l2⟩ := leafsEq_len e1
    have p1 := run_part (P := P) (Z := X) (off := i * ks.length) w ha hs (by rw [← hx1.1]; exact l1) h1 rfl
    have p2 := run_part (P := P) (Z := Y) (off := i * ks.length) w ha hs (by rw [← hy1.1]; exact l2) h1 rfl
    have e3 := ih ι w a _ _ _ _ b1 ha hx1 hy1 e1
    have e4 := eqItems_ok ih ha hs h1 ι w xs ys X Y hx hy n (i + 1) b2 (by rw [Nat.succ_mul]; exact e2)
    rw [List.range'_succ, Op.eqItems]
    simp only [Sem.run_bind, p1, p2, e3, Result.andThen_ok]
    cases b1
    · simp
    · simpa using e4

theorem leaves_eqOk : ∀ (d : Nat) (t : TypeId) (ks : List Leaf), leaves P d t = some ks → ∀ D, d ≤ D → EqOk P D t ks
  | 0, t, ks, h => by simp [leaves] at h
  | d + 1, t, ks, h => by
    intro D hD ι w a xs ys X Y b ha hx hy hb
    obtain ⟨D, rfl⟩ : ∃ m, D = m + 1 := ⟨D - 1, by omega⟩
    simp only [leaves] at h
    split at h
    · rename_i hu
      simp only [Option.some.injEq] at h; subst h
      obtain rfl := agn_of_und hu rfl ha
      obtain ⟨p, q, rfl, rfl, rfl⟩ := leaf_bool hx hy hb
      exact run_equalIn_bool w D t p q hu
    · rename_i k hu
      simp only [Option.some.injEq] at h; subst h
      obtain rfl := agn_of_und hu rfl ha
      obtain ⟨k', p, q, rfl, rfl, rfl⟩ := leaf_int hx hy hb
      exact run_equalIn_int w D t k' k p q hu
    · rename_i hu
      simp only [Option.some.injEq] at h; subst h
      obtain rfl := agn_of_und hu rfl ha
      obtain ⟨p, q, rfl, rfl, rfl⟩ := leaf_str hx hy hb
      rw [beq_toListBytes]
      exact run_equalIn_string w D t p q hu
    · rename_i fs hu
      split at h
      · cases h
      · rename_i hst
        obtain ⟨n, rfl⟩ := agn_of_agg hu rfl ha
        obtain ⟨l1, l2⟩ := leafsEq_len hb
        have hf : P.fieldsOf t = fs := by simp [Program.fieldsOf, hu]
        simp only [packV]
        rw [run_equalIn_struct (P := P) w D t _ _ (by rw [hf]; exact hu) (by simpa using hst), hf]
        exact eqFields_ok (fun t ks h => leaves_eqOk d t ks h D (by omega)) (fun t ks h => leaves_und h) ι w xs ys X.toArray Y.toArray (by simpa using hx) (by simpa using hy) fs.toList 0 ks b h
          (by rw [List.drop_zero, List.drop_zero, List.take_of_length_le (by omega), List.take_of_length_le (by omega)]; exact hb)
    · rename_i n e hu
      split at h
      · rename_i l hl
        split at h
        · rename_i hc
          obtain ⟨hs, h1⟩ := hc
          simp only [Option.some.injEq] at h; subst h
          obtain ⟨m, rfl⟩ := agn_of_agg hu rfl ha
          obtain ⟨i, hi, _⟩ := sz_info hs
          obtain ⟨ae, hae⟩ := agn_isSome (leaves_und hl) hs
          simp only [packV]
          rw [run_equalIn_array (P := P) w D _ _ hu hi, sz_cellsOf hs, List.range_eq_range']
          exact eqItems_ok (leaves_eqOk d e l hl D (by omega)) hae hs (fun e' => h1 (by rw [hae, e'])) ι w xs ys X.toArray Y.toArray (by simpa using hx) (by simpa using hy) n 0 b (by simpa using hb)
        · cases h
      · cases h
    · cases h

/-! ### Keys -/
def ckFields (em : Bool) (d : Nat) (xs : Array Value) : List Field → Sem Unit
  | [] => pure ()
  | f :: fs => do
    if f.name ≠ "_" then
      let a ← part f.type xs f.offset
      Instr.checkKey em d f.type a
    ckFields em d xs fs
def ckItems (em : Bool) (d : Nat) (e : TypeId) (c : Nat) (xs : Array Value) : List Nat → Sem Unit
  | [] => pure ()
  | i :: is => do
    let a ← part e xs (i * c)
    Instr.checkKey em d e a
    ckItems em d e c xs is
theorem run_ck_struct (w : World) (em : Bool) (d : Nat) {t : TypeId} {fs : Array Field} (xs : Array Value) (hu : P.underlying t = some (.struct fs)) :
    (Instr.checkKey em (d + 1) t (.agg xs)).run P w = (ckFields em d xs fs.toList).run P w := by
  simp only [Instr.checkKey, Sem.run_bind, run_underlying hu, Result.andThen_ok]
  rw [← Array.forIn_toList]
  generalize fs.toList = l
  clear hu
  induction l generalizing w with
  | nil => simp [ckFields]
  | cons f l ih =>
    simp only [List.forIn_cons, ckFields, Sem.run_bind, Sem.run_ite]
    split
    · generalize (part f.type xs f.offset).run P w = r1
      cases r1 with
      | ok a w1 =>
        simp only [Result.andThen_ok, Sem.run_bind]
        generalize (Instr.checkKey em d f.type a).run P w1 = r2
        cases r2 with
        | ok u w2 => simpa using ih w2
        | halt x w2 => simp [Result.andThen]
      | halt x w1 => simp [Result.andThen]
    · simpa using ih w
theorem run_ck_array (w : World) (em : Bool) (d : Nat) {t e : TypeId} {n c : Nat} (xs : Array Value) (hu : P.underlying t = some (.array n e)) (hs : sz P e = some c) :
    (Instr.checkKey em (d + 1) t (.agg xs)).run P w = (ckItems em d e c xs (List.range n)).run P w := by
  simp only [Instr.checkKey, Sem.run_bind, run_underlying hu, Result.andThen_ok]
  simp only [Std.Legacy.Range.forIn_eq_forIn_range', Std.Legacy.Range.size, Nat.sub_zero, Nat.add_one_sub_one, Nat.div_one, List.range_eq_range']
  generalize List.range' 0 n = is
  induction is generalizing w with
  | nil => simp [ckItems]
  | cons j is ih =>
    simp only [List.forIn_cons, ckItems, Sem.run_bind, sz_run hs, Result.andThen_ok]
    generalize (part e xs (j * c)).run P w = r1
    cases r1 with
    | ok a w1 =>
      simp only [Result.andThen_ok]
      generalize (Instr.checkKey em d e a).run P w1 = r2
      cases r2 with
      | ok u w2 => simpa using ih w2
      | halt x w2 => simp [Result.andThen]
    | halt x w1 => simp [Result.andThen]

theorem ckFields_ok {D : Nat} {em : Bool} {lv : TypeId → Option (List Leaf)} (ih : ∀ t ks, lv t = some ks → CkOk P D t ks) (hu : ∀ t ks, lv t = some ks → (P.underlying t).isSome = true)
    (ι : Io) (w : World) (xs : List AV) (X : Array Value) (hx : RelL ι xs X.toList) : ∀ (fs : List Field) (off : Nat) (ks : List Leaf) (b : Bool), leavesF P lv fs off = some ks →
    leafsEq ks ((xs.drop off).take ks.length) ((xs.drop off).take ks.length) = some b → (ckFields em D X fs).run P w = .ok () w
  | [], off, ks, b, hl, hb => by simp [ckFields]
  | f :: fs, off, ks, b, hl, hb => by
    simp only [leavesF] at hl
    split at hl
    · rename_i k1 k2 h1 h2
      split at hl
      · rename_i hc
        obtain ⟨hn, ho, hs, h1'⟩ := hc
        simp only [Option.some.injEq] at hl; subst hl
        rw [hs] at h2
        simp only [Option.getD_some] at h2
        obtain ⟨b1, b2, e1, e2, rfl⟩ := leafsEq_split hb
        simp only [List.length_append] at e1 e2
        rw [List.take_take, Nat.min_eq_left (by omega)] at e1
        rw [List.drop_take, List.drop_drop, Nat.add_sub_cancel_left] at e2
        obtain ⟨a, ha⟩ := agn_isSome (hu _ _ h1) hs
        have hx1 := (hx.drop off).take k1.length
        obtain ⟨l1, l2⟩ := leafsEq_len e1
        have h1'' : a = none → k1.length = 1 := fun e => h1' (by rw [ha, e])
        have p1 := run_part (P := P) (Z := X) (off := off) w ha hs (by rw [← hx1.1]; exact l1) h1'' rfl
        have e3 := ih _ _ h1 ι w em a _ _ b1 ha hx1 e1
        have e4 := ckFields_ok (em := em) ih hu ι w xs X hx fs (off + k1.length) k2 b2 h2 e2
        rw [ckFields]
        simp only [if_pos hn, Sem.run_bind, ho, p1, e3, Result.andThen_ok]
        exact e4
      · cases hl
    · cases hl
theorem ckItems_ok {D : Nat} {em : Bool} {e : TypeId} {ks : List Leaf} {a : Option Nat} (ih : CkOk P D e ks) (ha : agn P e = some a) (hs : sz P e = some ks.length) (h1 : a = none → ks.length = 1)
    (ι : Io) (w : World) (xs : List AV) (X : Array Value) (hx : RelL ι xs X.toList) : ∀ (n i : Nat) (b : Bool),
    leafsEq ((List.replicate n ks).flatten) (xs.drop (i * ks.length)) (xs.drop (i * ks.length)) = some b → (ckItems em D e ks.length X (List.range' i n)).run P w = .ok () w
  | 0, i, b, hb => by simp [ckItems]
  | n + 1, i, b, hb => by
    rw [List.replicate_succ, List.flatten_cons] at hb
    obtain ⟨b1, b2, e1, e2, rfl⟩ := leafsEq_split hb
    rw [List.drop_drop] at e2
    have hx1 := (hx.drop (i * ks.length)).take ks.length
    obtain ⟨l1, l2⟩ := leafsEq_len e1
    have p1 := run_part (P := P) (Z := X) (off := i * ks.length) w ha hs (by rw [← hx1.1]; exact l1) h1 rfl
    have e3 := ih ι w em a _ _ b1 ha hx1 e1
    have e4 := ckItems_ok (em := em) ih ha hs h1 ι w xs X hx n (i + 1) b2 (by rw [Nat.succ_mul]; exact e2)
    rw [List.range'_succ, ckItems]
    simp only [Sem.run_bind, p1, e3, Result.andThen_ok]
    exact e4

theorem leaves_ckOk : ∀ (d : Nat) (t : TypeId) (ks : List Leaf), leaves P d t = some ks → ∀ D, d ≤ D → CkOk P D t ks
  | 0, t, ks, h => by simp [leaves] at h
  | d + 1, t, ks, h => by
    intro D hD ι w em a xs X b ha hx hb
    obtain ⟨D, rfl⟩ : ∃ m, D = m + 1 := ⟨D - 1, by omega⟩
    simp only [leaves] at h
    split at h
    · rename_i hu
      obtain rfl := agn_of_und hu rfl ha
      simp [Instr.checkKey, run_underlying hu]
    · rename_i k hu
      obtain rfl := agn_of_und hu rfl ha
      simp [Instr.checkKey, run_underlying hu]
    · rename_i hu
      obtain rfl := agn_of_und hu rfl ha
      simp [Instr.checkKey, run_underlying hu]
    · rename_i fs hu
      split at h
      · cases h
      · obtain ⟨n, rfl⟩ := agn_of_agg hu rfl ha
        obtain ⟨l1, l2⟩ := leafsEq_len hb
        simp only [packV]
        rw [run_ck_struct (P := P) w em D _ hu]
        exact ckFields_ok (fun t ks h => leaves_ckOk d t ks h D (by omega)) (fun t ks h => leaves_und h) ι w xs X.toArray (by simpa using hx) fs.toList 0 ks b h
          (by rw [List.drop_zero, List.take_of_length_le (by omega)]; exact hb)
    · rename_i n e hu
      split at h
      · rename_i l hl
        split at h
        · rename_i hc
          obtain ⟨hs, h1⟩ := hc
          simp only [Option.some.injEq] at h; subst h
          obtain ⟨m, rfl⟩ := agn_of_agg hu rfl ha
          obtain ⟨ae, hae⟩ := agn_isSome (leaves_und hl) hs
          simp only [packV]
          rw [run_ck_array (P := P) w em D _ hu hs, List.range_eq_range']
          exact ckItems_ok (leaves_ckOk d e l hl D (by omega)) hae hs (fun e' => h1 (by rw [hae, e'])) ι w xs X.toArray (by simpa using hx) n 0 b (by simpa using hb)
        · cases h
      · cases h
    · cases h
end Go.Ax
