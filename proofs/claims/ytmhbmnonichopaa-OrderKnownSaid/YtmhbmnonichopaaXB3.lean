/-
  Each operation that looks at temporaries alone.
-/
import Derived.Test.YtmhbmnonichopaaXB2
namespace Go.Ax

variable {P : Program} {base : Nat}

def NextV (n : Next) (v : Value) : Prop := n = .value v ∨ (n = .skip ∧ v = undef)

/-- what has to be shown of an operation of the machine, against the one of the abstract machine -/
def OpSim (P : Program) (base : Nat) (o : Oper) (op : AOp) : Prop :=
  ∀ (ι : Io) (e : Env) (h : H) (w : World) (a : Act) (aid : Nat) (v : AV) (h' : H) (fp : FP), RelS P base ι h w → base ≤ w.heap.size → RelE ι e a.tmps → h.get aid = none →
    (opLoc op e).run aid h = some (v, h', fp) →
    ∃ n v' w' ι', (execOp a.eval o).run P w = .ok n w' ∧ NextV n v' ∧ RelV ι' v v' ∧ RelS P base ι' h' w' ∧ StepR ι h w ι' h' w'

theorem Loc.run_val (r : Option AV) (aid : Nat) (h : H) : (Loc.val r).run aid h = r.map fun v => (v, h, .loc [] [] none) := by
  cases r <;> simp [Loc.run, Loc.val, getAll, H.puts]
theorem Loc.run_no (aid : Nat) (h : H) : Loc.no.run aid h = none := by simp [Loc.run, Loc.no, getAll]

/-- a value of its temporaries alone -/
theorem OpSim.val {o : Oper} {op : AOp} (s : (Operand → Value) → Sem Value) (r : Env → Option AV) (hl : ∀ e, opLoc op e = Loc.val (r e))
    (hx : ∀ ρ, execOp ρ o = (do pure (.value (← s ρ)))) (key : ∀ (ι : Io) (e : Env) (a : Act) (w : World) (x : AV), RelE ι e a.tmps → r e = some x → ∃ v', (s a.eval).run P w = .ok v' w ∧ RelV ι x v') :
    OpSim P base o op := by
  intro ι e h w a aid v h' fp hS _ hE _ hr
  rw [hl, Loc.run_val] at hr
  cases hre : r e with
  | none => simp [hre] at hr
  | some x =>
    simp [hre] at hr
    obtain ⟨rfl, rfl, _⟩ := hr
    obtain ⟨v', h1, h2⟩ := key ι e a w x hE hre
    exact ⟨.value v', v', w, ι, by rw [hx]; simp [h1], .inl rfl, h2, hS, .refl ι h w⟩

theorem sim_bad {o : Oper} : OpSim P base o .bad := by
  intro ι e h w a aid v h' fp hS _ hE _ hr
  simp [opLoc, Loc.run_no] at hr

theorem sim_mv {o : Oper} (x : Operand) (ho : o.op = .move x ∨ o.op = .assign x) : OpSim P base o (.mv (ao x)) := by
  intro ι e h w a aid v h' fp hS _ hE _ hr
  simp only [opLoc, Loc.run_val, Option.map_some, Option.some.injEq, Prod.mk.injEq] at hr
  obtain ⟨rfl, rfl, _⟩ := hr
  refine ⟨.value (a.eval x), a.eval x, w, ι, ?_, .inl rfl, ao_rel hE x, hS, .refl ι h w⟩
  rcases ho with ho | ho <;> simp [execOp, ho]

theorem rel_ptr {ι : Io} {b o : Nat} {v : Value} (h : RelV ι (.ptr (some (b, o))) v) : ∃ p, ι b = some p ∧ v = .pointer (some ⟨p.B, p.O + o, none⟩) := by
  cases h; exact ⟨_, by assumption, rfl⟩

theorem sim_nilchk {o : Oper} (x : Operand) (ho : o.op = .nilCheck x) : OpSim P base o (.nilchk (ao x)) := by
  intro ι e h w a aid v h' fp hS _ hE _ hr
  simp only [opLoc, Loc.run_val] at hr
  have hx := ao_rel hE x
  split at hr
  · rename_i p hp
    simp only [Option.map_some, Option.some.injEq, Prod.mk.injEq] at hr
    obtain ⟨rfl, rfl, _⟩ := hr
    rw [hp] at hx
    obtain ⟨b, k⟩ := p
    obtain ⟨q, hq, hv⟩ := rel_ptr hx
    refine ⟨.value (a.eval x), a.eval x, w, ι, ?_, .inl rfl, hx, hS, .refl ι h w⟩
    simp [execOp, ho, hv]
  · simp at hr

theorem sim_pick {o : Oper} (c x y : Operand) (ho : o.op = .pick c x y) : OpSim P base o (.pick (ao c) (ao x) (ao y)) := by
  intro ι e h w a aid v h' fp hS _ hE _ hr
  simp only [opLoc, Loc.run_val] at hr
  have hc := ao_rel hE c
  split at hr
  · rename_i hp
    simp only [Option.map_some, Option.some.injEq, Prod.mk.injEq] at hr
    obtain ⟨rfl, rfl, _⟩ := hr
    rw [hp] at hc
    exact ⟨.value (a.eval x), a.eval x, w, ι, by simp [execOp, ho, rel_bool hc, asBool], .inl rfl, ao_rel hE x, hS, .refl ι h w⟩
  · rename_i hp
    simp only [Option.map_some, Option.some.injEq, Prod.mk.injEq] at hr
    obtain ⟨rfl, rfl, _⟩ := hr
    rw [hp] at hc
    exact ⟨.value (a.eval y), a.eval y, w, ι, by simp [execOp, ho, rel_bool hc, asBool], .inl rfl, ao_rel hE y, hS, .refl ι h w⟩
  · simp at hr

/-- two values that no guard looks at -/
def plainPair (u v : Value) : Bool := match u, v with
  | .nilIface, .nilIface => false
  | .agg _, .agg _ => false
  | _, _ => true
/-- two values that are compared by their type -/
def boxyPair (u v : Value) : Bool := match u, v with
  | .int _ _, .int _ _ => false
  | .string _, .string _ => false
  | .float _ _, .float _ _ => false
  | .complex _ _ _, .complex _ _ _ => false
  | _, _ => true
theorem eqGuard_scalar (op : BinOp) (t : TypeId) (x y : Operand) (w : World) {u v : Value} (h : plainPair u v = true) :
    (eqGuard op t x y u v).run P w = .ok () w := by
  unfold eqGuard
  cases op <;> simp <;> (cases u <;> cases v <;> simp_all [plainPair])

theorem sim_bin {o : Oper} (op : BinOp) (t t' : TypeId) (x y : Operand) (ho : o.op = .binOp op t x y t') : OpSim P base o (.bin op (ao x) (ao y)) := by
  refine OpSim.val (fun ρ => do eqGuard op t x y (ρ x) (ρ y); binOp op t (ρ x) (ρ y)) (fun e => binAV op ((ao x).ev e) ((ao y).ev e)) (fun e => rfl) (fun ρ => by simp [execOp, ho]) ?_
  intro ι e a w r hE hr
  have hx := ao_rel hE x
  have hy := ao_rel hE y
  obtain ⟨r', h1, h2⟩ := bin_rel (P := P) op t w hx hy hr
  refine ⟨r', ?_, h2⟩
  have hg : (eqGuard op t x y (a.eval x) (a.eval y)).run P w = .ok () w := by
    apply eqGuard_scalar
    have key : ∀ X Y X' Y', RelV ι X X' → RelV ι Y Y' → binAV op X Y = some r → plainPair X' Y' = true := by
      intro X Y X' Y' hx hy hr
      cases X <;> cases Y <;> simp [binAV] at hr
      · rw [rel_int hx, rel_int hy]; rfl
      · rw [rel_str hx, rel_str hy]; rfl
    exact key _ _ _ _ hx hy hr
  simp [hg, h1]

theorem rel_eqAV {ι : Io} {ag : Bool} {ks : List Leaf} {x y : AV} {x' y' : Value} {b : Bool} (hx : RelV ι x x') (hy : RelV ι y y') (h : eqAV ag ks x y = some b) :
    ∃ (a : Option Nat) (xs ys : List AV) (X Y : List Value), a.isSome = ag ∧ RelL ι xs X ∧ RelL ι ys Y ∧ leafsEq ks xs ys = some b ∧ x' = packV a X ∧ y' = packV a Y ∧ (a = none → X.length = 1) := by
  unfold eqAV at h
  split at h
  · rename_i xs ys
    obtain ⟨X, rfl, h1⟩ := hx.aggC
    obtain ⟨Y, rfl, h2⟩ := hy.aggC
    exact ⟨some 0, xs, ys, X.toList, Y.toList, rfl, h1.1, h2.1, h, by simp [packV], by simp [packV], by simp⟩
  · exact ⟨none, [x], [y], [x'], [y'], rfl, .cons hx .nil, .cons hy .nil, h, rfl, rfl, fun _ => rfl⟩
  · cases h

theorem packV_agn {a a' : Option Nat} (h : a.isSome = a'.isSome) (X : List Value) : packV a X = packV a' X := by
  cases a <;> cases a' <;> simp_all [packV]

theorem eq_of_leaves {ι : Io} {d D : Nat} {t : TypeId} {ag : Bool} {ks : List Leaf} {x y : AV} {x' y' : Value} {b : Bool} (w : World) (hl : leaves P d t = some ks) (hag : ∃ a, agn P t = some a ∧ a.isSome = ag) (hD : d ≤ D)
    (hx : RelV ι x x') (hy : RelV ι y y') (h : eqAV ag ks x y = some b) : (Op.equalIn D t x' y').run P w = .ok b w := by
  obtain ⟨a, xs, ys, X, Y, h1, h2, h3, h4, rfl, rfl, _⟩ := rel_eqAV hx hy h
  obtain ⟨a', ha', hs⟩ := hag
  rw [packV_agn (a' := a') (by rw [h1, hs]), packV_agn (a := a) (a' := a') (by rw [h1, hs])]
  exact leaves_eqOk d t ks hl D hD ι w a' xs ys X Y b ha' h2 h3 h4

/-- a binary operation that asks for equality -/
theorem run_eqlike {op : BinOp} {neg : Bool} (hop : op = if neg then .neq else .eql) {t : TypeId} {x y : Value} {b : Bool} {w : World} (hi : boxyPair x y = true)
    (h : (Op.equal t x y).run P w = .ok b w) : (binOp op t x y).run P w = .ok (.bool (b != neg)) w := by
  subst hop
  cases neg
  · simp only [Bool.false_eq_true, if_false]
    have : binOp .eql t x y = (do pure (.bool (← Op.equal t x y))) := by cases x <;> cases y <;> first | rfl | (simp [boxyPair] at hi)
    rw [this]; simp [h]
  · simp only [if_true]
    have : binOp .neq t x y = (do pure (.bool (!(← Op.equal t x y)))) := by cases x <;> cases y <;> first | rfl | (simp [boxyPair] at hi)
    rw [this]; simp [h]

theorem sim_eqf {o : Oper} (neg : Bool) (ag : Bool) (ks : List Leaf) (t t' : TypeId) (x y : Operand) (ho : o.op = .binOp (if neg then .neq else .eql) t x y t')
    (hc : (ag = true ∧ leaves P 8 t = some ks ∧ P.eqGuardType P.depth t = false ∧ (∃ a, agn P t = some a ∧ a.isSome = true)) ∨ (ag = false ∧ ks = [.bool] ∧ P.underlying t = some .bool)) : OpSim P base o (.eqf neg ag ks (ao x) (ao y)) := by
  refine OpSim.val (fun ρ => do eqGuard (if neg then .neq else .eql) t x y (ρ x) (ρ y); binOp (if neg then .neq else .eql) t (ρ x) (ρ y)) (fun e => (eqAV ag ks ((ao x).ev e) ((ao y).ev e)).map fun b => .bool (b != neg)) (fun e => rfl) (fun ρ => by simp [execOp, ho]) ?_
  intro ι e a w r hE hr
  have hx := ao_rel hE x
  have hy := ao_rel hE y
  cases hb : eqAV ag ks ((ao x).ev e) ((ao y).ev e) with
  | none => simp [hb] at hr
  | some b =>
    simp [hb] at hr; subst hr
    refine ⟨_, ?_, .bool _⟩
    rcases hc with ⟨rfl, hl, hg, hag⟩ | ⟨rfl, rfl, hu⟩
    · have he := eq_of_leaves (P := P) (D := 10000) w hl hag (by omega) hx hy hb
      obtain ⟨a', xs, ys, X, Y, h1, h2, h3, h4, hX, hY, _⟩ := rel_eqAV hx hy hb
      obtain ⟨n, rfl⟩ := Option.isSome_iff_exists.1 h1
      rw [hX, hY] at he ⊢
      simp only [packV] at he ⊢
      rw [Sem.run_bind, run_eqGuard_agg w _ t x y _ _ hg, Result.andThen_ok]
      exact run_eqlike rfl rfl he
    · obtain ⟨a', xs, ys, X, Y, h1, h2, h3, h4, hX, hY, _⟩ := rel_eqAV hx hy hb
      obtain ⟨p, q, rfl, rfl, rfl⟩ := leaf_bool h2 h3 h4
      obtain rfl : a' = none := by simpa using h1
      simp only [packV, List.headD_cons] at hX hY
      rw [hX, hY, Sem.run_bind, eqGuard_scalar _ t x y w rfl, Result.andThen_ok]
      exact run_eqlike rfl rfl (run_equal_bool w t p q hu)

theorem sim_eqlike {o : Oper} (neg : Bool) (t t' : TypeId) (x y : Operand) (ho : o.op = .binOp (if neg then .neq else .eql) t x y t') {op : AOp} (eq : AV → AV → Option Bool)
    (hl : ∀ e, opLoc op e = .val ((eq ((ao x).ev e) ((ao y).ev e)).map fun b => .bool (b != neg)))
    (key : ∀ (ι : Io) (X Y : AV) (X' Y' : Value) (b : Bool) (w : World), RelV ι X X' → RelV ι Y Y' → eq X Y = some b → (Op.equal t X' Y').run P w = .ok b w ∧ plainPair X' Y' = true ∧ boxyPair X' Y' = true) :
    OpSim P base o op := by
  refine OpSim.val (fun ρ => do eqGuard (if neg then .neq else .eql) t x y (ρ x) (ρ y); binOp (if neg then .neq else .eql) t (ρ x) (ρ y)) (fun e => (eq ((ao x).ev e) ((ao y).ev e)).map fun b => .bool (b != neg)) hl (fun ρ => by simp [execOp, ho]) ?_
  intro ι e a w r hE hr
  cases hb : eq ((ao x).ev e) ((ao y).ev e) with
  | none => simp [hb] at hr
  | some b =>
    simp [hb] at hr; subst hr
    obtain ⟨h1, h2, h3⟩ := key ι _ _ _ _ b w (ao_rel hE x) (ao_rel hE y) hb
    refine ⟨_, ?_, .bool _⟩
    rw [Sem.run_bind, eqGuard_scalar _ t x y w h2, Result.andThen_ok]
    exact run_eqlike rfl h3 h1

theorem equal_of {t : TypeId} {x y : Value} {w : World} {r : Result Bool} (h : ∀ d, (Op.equalIn (d + 1) t x y).run P w = r) : (Op.equal t x y).run P w = r := h 9999

theorem rel_ptr_any {ι : Io} {p : Option (Nat × Nat)} {v : Value} (h : RelV ι (.ptr p) v) : ∃ p', v = .pointer p' ∧ p'.isNone = p.isNone := by cases h <;> exact ⟨_, rfl, rfl⟩
theorem rel_slc_any {ι : Io} {p : Option (Nat × Nat)} {n c es : Nat} {ex : Bool} {v : Value} (h : RelV ι (.slc p n c ex es) v) : ∃ p' C, v = .slice p' n C ∧ p'.isNone = p.isNone := by cases h <;> exact ⟨_, _, rfl, rfl⟩
theorem rel_map_any {ι : Io} {p : Option Nat} {v : Value} (h : RelV ι (.map p) v) : ∃ p', v = .map p' ∧ p'.isNone = p.isNone := by cases h <;> exact ⟨_, rfl, rfl⟩
theorem rel_fn_any {ι : Io} {f : Fn} {a b : List AV} {v : Value} (h : RelV ι (.fn f a b) v) : ∃ f' a' b', v = .func f' a' b' := by cases h; exact ⟨_, _, _, rfl⟩
theorem rel_nilfn {ι : Io} {v : Value} (h : RelV ι .nilfn v) : v = .nilFunc := by cases h; rfl

theorem sim_eqp {o : Oper} (neg : Bool) (t t' el : TypeId) (x y : Operand) (ho : o.op = .binOp (if neg then .neq else .eql) t x y t') (hu : P.underlying t = some (.pointer el)) :
    OpSim P base o (.eqp neg (ao x) (ao y)) := by
  refine sim_eqlike neg t t' x y ho eqPtr (fun e => rfl) ?_
  intro ι X Y X' Y' b w hx hy h
  unfold eqPtr at h
  split at h
  · obtain ⟨p', rfl, hp⟩ := rel_ptr_any hx
    obtain ⟨q', rfl, hq⟩ := rel_ptr_any hy
    obtain rfl : p' = none := by simpa using hp
    simp only [Option.some.injEq] at h; subst h
    refine ⟨?_, rfl, rfl⟩
    rw [← hq]
    exact equal_of fun d => by simp [Op.equalIn, run_underlying hu]
  · obtain ⟨p', rfl, hp⟩ := rel_ptr_any hx
    obtain ⟨q', rfl, hq⟩ := rel_ptr_any hy
    obtain rfl : q' = none := by simpa using hq
    obtain ⟨z, rfl⟩ : ∃ z, p' = some z := by cases p' <;> simp_all
    simp only [Option.some.injEq] at h; subst h
    refine ⟨?_, rfl, rfl⟩
    exact equal_of fun d => by simp [Op.equalIn, run_underlying hu]
  · cases h

theorem sim_eqn {o : Oper} (neg : Bool) (kd : Nat) (t t' : TypeId) (x y : Operand) (ho : o.op = .binOp (if neg then .neq else .eql) t x y t')
    (hu : (kd = 0 ∧ ∃ el, P.underlying t = some (.slice el)) ∨ (kd = 1 ∧ ∃ k el, P.underlying t = some (.map k el)) ∨ (kd = 2 ∧ ∃ ps rs v, P.underlying t = some (.func ps rs v))) :
    OpSim P base o (.eqn neg kd (ao x) (ao y)) := by
  refine sim_eqlike neg t t' x y ho (eqNil kd) (fun e => rfl) ?_
  intro ι X Y X' Y' b w hx hy h
  rcases hu with ⟨rfl, el, hu⟩ | ⟨rfl, k, el, hu⟩ | ⟨rfl, ps, rs, v, hu⟩
  · unfold eqNil at h
    split at h <;> try contradiction
    · obtain ⟨p', C, rfl, hp⟩ := rel_slc_any hx
      obtain ⟨q', C', rfl, hq⟩ := rel_slc_any hy
      obtain rfl : p' = none := by simpa using hp
      simp only [Option.some.injEq] at h; subst h
      refine ⟨?_, rfl, rfl⟩
      rw [← hq]
      exact equal_of fun d => by simp [Op.equalIn, run_underlying hu]
    · obtain ⟨p', C, rfl, hp⟩ := rel_slc_any hx
      obtain ⟨q', C', rfl, hq⟩ := rel_slc_any hy
      obtain rfl : q' = none := by simpa using hq
      obtain ⟨z, rfl⟩ : ∃ z, p' = some z := by cases p' <;> simp_all
      simp only [Option.some.injEq] at h; subst h
      refine ⟨?_, rfl, rfl⟩
      exact equal_of fun d => by simp [Op.equalIn, run_underlying hu]
  · unfold eqNil at h
    split at h <;> try contradiction
    · obtain ⟨p', rfl, hp⟩ := rel_map_any hx
      obtain ⟨q', rfl, hq⟩ := rel_map_any hy
      obtain rfl : p' = none := by simpa using hp
      simp only [Option.some.injEq] at h; subst h
      refine ⟨?_, rfl, rfl⟩
      rw [← hq]
      exact equal_of fun d => by simp [Op.equalIn, run_underlying hu]
    · obtain ⟨p', rfl, hp⟩ := rel_map_any hx
      obtain ⟨q', rfl, hq⟩ := rel_map_any hy
      obtain rfl : q' = none := by simpa using hq
      obtain ⟨z, rfl⟩ : ∃ z, p' = some z := by cases p' <;> simp_all
      simp only [Option.some.injEq] at h; subst h
      refine ⟨?_, rfl, rfl⟩
      exact equal_of fun d => by simp [Op.equalIn, run_underlying hu]
  · unfold eqNil at h
    split at h <;> try contradiction
    · simp only [Option.some.injEq] at h; subst h
      rw [rel_nilfn hx, rel_nilfn hy]
      exact ⟨equal_of fun d => by simp [Op.equalIn, run_underlying hu], rfl, rfl⟩
    · simp only [Option.some.injEq] at h; subst h
      obtain ⟨f', a', b', rfl⟩ := rel_fn_any hy
      rw [rel_nilfn hx]
      exact ⟨equal_of fun d => by simp [Op.equalIn, run_underlying hu], rfl, rfl⟩
    · simp only [Option.some.injEq] at h; subst h
      obtain ⟨f', a', b', rfl⟩ := rel_fn_any hx
      rw [rel_nilfn hy]
      exact ⟨equal_of fun d => by simp [Op.equalIn, run_underlying hu], rfl, rfl⟩
end Go.Ax
